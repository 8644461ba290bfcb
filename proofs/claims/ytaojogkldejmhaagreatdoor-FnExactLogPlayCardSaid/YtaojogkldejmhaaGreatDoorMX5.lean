/- The program's LogPlay returns what the reference's returns, for all arguments. -/
import Derived.Test.YtaojogkldejmhaaGreatDoorMX4
import Derived.Test.YtaojogkldejmhaaGreatDoorMK1
set_option linter.unusedVariables false
set_option linter.unusedSimpArgs false
set_option maxRecDepth 20000
namespace Go.V
open Go.Proofs
/-! The greatest number of a file. -/
theorem numOf_head {l : UInt8} {s : ByteArray} (h : numOf l s ≠ 0) : s.data[0]? = some l := by
  unfold numOf at h
  split at h
  · rename_i g; exact g.1
  · exact absurd rfl h
theorem cons_ext (c : UInt8) (x : ByteArray) : ((⟨#[c]⟩ : ByteArray) ++ x).extract 1 ((⟨#[c]⟩ : ByteArray) ++ x).size = x := by
  apply ByteArray.ext
  apply Array.ext_getElem?
  intro i
  rw [ByteArray.data_extract, Array.getElem?_extract, ByteArray.data_append, ByteArray.size_append]
  have h1 : (⟨#[c]⟩ : ByteArray).size = 1 := rfl
  have h2 : (#[c] ++ x.data).size = 1 + x.data.size := by rw [Array.size_append]; rfl
  have h3 : (#[c] : Array UInt8).size = 1 := rfl
  have h4 : x.data.size = x.size := rfl
  rw [h1, h2, h4, Nat.min_self, Nat.add_sub_cancel_left]
  split
  · rw [Array.getElem?_append_right (by rw [h3]; omega), h3, Nat.add_sub_cancel_left]
  · exact (Array.getElem?_eq_none (by rw [h4]; omega)).symm
theorem cons_head (c : UInt8) (x : ByteArray) : ((⟨#[c]⟩ : ByteArray) ++ x).data[0]? = some c := by
  rw [ByteArray.data_append, Array.getElem?_append_left (show 0 < (#[c] : Array UInt8).size from Nat.one_pos)]; rfl
theorem numOf_same (c : UInt8) {n : Int} (h : 1 ≤ n ∧ n ≤ 999999) : numOf c ((⟨#[c]⟩ : ByteArray) ++ dc n) = n := by
  have h1 := rn_dL n ⟨by omega, by omega⟩
  rw [dL_dc] at h1
  rw [numOf_rn (cons_head c _), cons_ext, h1.1, h1.2, if_pos ⟨rfl, h⟩]
theorem numOf_diff {c l : UInt8} (x : ByteArray) (h : c ≠ l) : numOf l ((⟨#[c]⟩ : ByteArray) ++ x) = 0 := by
  apply Classical.byContradiction
  intro hn
  have := numOf_head hn
  rw [cons_head] at this
  cases this
  exact h rfl
/-- A name's number. -/
def vN (nm : ByteArray) : Int := max (numOf 115 nm) (numOf 109 nm)
theorem vN_sum (nm : ByteArray) : numOf 109 nm + numOf 115 nm = vN nm := by
  have h1 := numOf_le 109 nm
  have h2 := numOf_le 115 nm
  unfold vN
  by_cases h : numOf 109 nm = 0
  · omega
  · by_cases g : numOf 115 nm = 0
    · omega
    · have a := numOf_head h
      have b := numOf_head g
      rw [a] at b; cases b
theorem vN_le (nm : ByteArray) : 0 ≤ vN nm ∧ vN nm ≤ 999999 := by
  have h1 := numOf_le 109 nm
  have h2 := numOf_le 115 nm
  unfold vN; omega
theorem vN_seg {n : Int} (h : 1 ≤ n ∧ n ≤ 999999) : vN (seg n) = n := by
  rw [vN, seg, numOf_same 115 h, numOf_diff _ (by decide)]; omega
def topN (ns : List ByteArray) : Int := ns.foldl (fun m nm => max m (vN nm)) 0
theorem topN_take {ns : List ByteArray} {i : Nat} {x : ByteArray} (h : ns[i]? = some x) : topN (ns.take (i + 1)) = max (topN (ns.take i)) (vN x) := by
  rw [topN, take_snoc h, List.foldl_append]; rfl
theorem fold_max : ∀ (ns : List ByteArray) (m : Int), m ≤ ns.foldl (fun m nm => max m (vN nm)) m ∧ (∀ nm ∈ ns, vN nm ≤ ns.foldl (fun m nm => max m (vN nm)) m) ∧ (ns.foldl (fun m nm => max m (vN nm)) m = m ∨ ∃ nm ∈ ns, ns.foldl (fun m nm => max m (vN nm)) m = vN nm)
  | [], m => ⟨Int.le_refl m, fun _ h => absurd h (by simp), .inl rfl⟩
  | x :: ns, m => by
    obtain ⟨h1, h2, h3⟩ := fold_max ns (max m (vN x))
    simp only [List.foldl_cons]
    refine ⟨by omega, fun nm hm => ?_, ?_⟩
    · rcases List.mem_cons.1 hm with rfl | hm
      · omega
      · exact h2 nm hm
    · rcases h3 with h3 | ⟨nm, h4, h5⟩
      · by_cases hx : vN x ≤ m
        · exact .inl (by rw [h3]; omega)
        · exact .inr ⟨x, by simp, by rw [h3]; omega⟩
      · exact .inr ⟨nm, by simp [h4], h5⟩
theorem topN_ge {ns : List ByteArray} {nm : ByteArray} (h : nm ∈ ns) : vN nm ≤ topN ns := (fold_max ns 0).2.1 nm h
theorem topN_le (ns : List ByteArray) : 0 ≤ topN ns ∧ topN ns ≤ 999999 := by
  obtain ⟨h1, h2, h3⟩ := fold_max ns 0
  refine ⟨h1, ?_⟩
  show topN ns ≤ 999999
  rcases h3 with h3 | ⟨nm, _, h5⟩
  · have : topN ns = 0 := h3
    omega
  · have : topN ns = vN nm := h5
    have := vN_le nm
    omega
theorem topN_mono {ns ms : List ByteArray} (h : ∀ x ∈ ns, x ∈ ms) : topN ns ≤ topN ms := by
  have h0 := topN_le ms
  rcases (fold_max ns 0).2.2 with h3 | ⟨nm, h4, h5⟩
  · have : topN ns = 0 := h3
    omega
  · have : topN ns = vN nm := h5
    have := topN_ge (h nm h4)
    omega
abbrev nmsOf (d : Dk) : List ByteArray := d.files.map DF.name
def ok124 := okF.gu (P := Tryz.prog) tab Tryz.func124 Tryz.ntmps124 (by conv => lhs; cbv) (by kernel_rfl)
def inv124 (d : Dk) (i : Nat) (σ : St) : Prop := (∃ u, σ.t 1 = .c (.ptr 1 u 0) ∧ σ.H 1 = some (.var u 29 (cDk d))) ∧ σ.t 4 = .i i ∧ σ.t 3 = .i (topN ((nmsOf d).take i))
set_option maxHeartbeats 1000000 in
theorem topS_ok (d : Dk) (hl : d.files.length ≤ 9000000000000000000) (hn : ∀ f ∈ d.files, f.name.size ≤ 1000000) : ACallsF Tryz.prog 124 [tDk d] [] (.i (topN (nmsOf d))) := by
  refine ACallsF.intro ok124 follows fun X c0 => ?_
  simp only [go_sem]
  refine AW.upto d.files.length (inv124 d) ⟨⟨_, rfl, rfl⟩, rfl, rfl⟩ fun i t H c hi h => ?_
  obtain ⟨⟨u1, e1, eH1⟩, e4, e3⟩ := h
  simp only [T.c, T.i] at e1 eH1 e4 e3
  by_cases hlt : i < d.files.length
  · obtain ⟨f, hf⟩ : ∃ f, d.files[i]? = some f := ⟨_, List.getElem?_eq_getElem hlt⟩
    have ef := en_at eF hf
    have gx : (0 : Int) ≤ i := by omega
    have k5 : (i : Int) < d.files.length := by omega
    have gw : IntKind.i64.wrap ((i : Int) + 1) = ((i + 1 : Nat) : Int) := wrap64 (x := (i : Int) + 1) ⟨by omega, by omega⟩
    have hs := hn f (List.mem_of_getElem? hf)
    have ht := topN_take (ns := nmsOf d) (i := i) (x := f.name) (by rw [List.getElem?_map, hf]; rfl)
    have hv := vN_le f.name
    have hC1 := num43_ok f.name 109 (by omega)
    have hC2 := num43_ok f.name 115 (by omega)
    have gs : IntKind.i64.wrap (numOf 109 f.name + numOf 115 f.name) = vN f.name := by rw [vN_sum]; exact wrap64 ⟨by omega, by omega⟩
    simp only [go_sem, e1, eH1, e4, e3, k5, gx, ef, eF]
    refine callC hC1 rfl rfl rfl rfl ?_
    simp only [go_sem, e1, eH1, e4, e3, k5, gx, ef, eF]
    refine callC hC2 rfl rfl rfl rfl ?_
    by_cases k6 : vN f.name > topN ((nmsOf d).take i)
    · simp only [go_sem, gs, e3, e4, k6, gw]
      exact ⟨hlt, ⟨u1, e1, eH1⟩, rfl, by rw [ht, Int.max_eq_right (by omega)]; rfl⟩
    · simp only [go_sem, gs, e3, e4, k6, gw]
      exact ⟨hlt, ⟨u1, e1, eH1⟩, rfl, by rw [ht, Int.max_eq_left (by omega)]; exact e3⟩
  · have hi2 : i = d.files.length := by omega
    subst hi2
    have k5 : ¬ (d.files.length : Int) < d.files.length := by omega
    have htk : List.take d.files.length (nmsOf d) = nmsOf d := List.take_of_length_le (by rw [List.length_map]; exact Nat.le_refl _)
    rw [htk] at e3
    simp only [go_sem, e1, eH1, e4, e3, k5]
def ok149 := okF.gu (P := Tryz.prog) tab Tryz.func149 Tryz.ntmps149 (by conv => lhs; cbv) (by kernel_rfl)
def inv149 (ns : List ByteArray) (i : Nat) (σ : St) : Prop := σ.t 6 = tL (en eS ns) ∧ σ.t 7 = .i ns.length ∧ σ.t 8 = .i i ∧ σ.t 3 = .i (topN (ns.take i))
set_option maxHeartbeats 1000000 in
theorem topI_ok (ns : List ByteArray) (hl : ns.length ≤ 9000000000000000000) (hn : ∀ x ∈ ns, x.size ≤ 1000000) : ACallsF Tryz.prog 149 [tL (en eS ns)] [] (.i (topN ns)) := by
  refine ACallsF.intro ok149 follows fun X c0 => ?_
  simp only [go_sem]
  refine AW.upto ns.length (inv149 ns) ⟨rfl, rfl, rfl, rfl⟩ fun i t H c hi h => ?_
  obtain ⟨e6, e7, e8, e3⟩ := h
  simp only [T.c, T.i, tL] at e6 e7 e8 e3
  by_cases hlt : i < ns.length
  · obtain ⟨x, hx⟩ : ∃ x, ns[i]? = some x := ⟨_, List.getElem?_eq_getElem hlt⟩
    have ex := en_at eS hx
    have gx : (0 : Int) ≤ i := by omega
    have k5 : (i : Int) < ns.length := by omega
    have gw : IntKind.i64.wrap ((i : Int) + 1) = ((i + 1 : Nat) : Int) := wrap64 (x := (i : Int) + 1) ⟨by omega, by omega⟩
    have hs := hn x (List.mem_of_getElem? hx)
    have ht := topN_take hx
    have hC1 := numI_ok x 109 (by omega)
    have hC2 := numI_ok x 115 (by omega)
    simp only [go_sem, e6, e7, e8, e3, k5, gx, ex, eS]
    refine callC hC2 rfl rfl rfl rfl ?_
    simp only [go_sem]
    refine callC hC1 rfl rfl rfl rfl ?_
    simp only [go_sem, e8, gw, e3, core.eq_36]
    refine ⟨hlt, e6, e7, rfl, ?_⟩
    rw [ht, vN, ← Int.max_assoc]; rfl
  · have hi2 : i = ns.length := by omega
    subst hi2
    have k5 : ¬ (ns.length : Int) < ns.length := by omega
    rw [List.take_length] at e3
    simp only [go_sem, e6, e7, e8, e3, k5]
def ok133 := okF.gu (P := Tryz.prog) tab Tryz.func133 Tryz.ntmps133 (by conv => lhs; cbv) (by kernel_rfl)
def inv133 (d : Dk) (i : Nat) (σ : St) : Prop := σ.t 8 = tL (en eF d.files) ∧ σ.t 9 = .i d.files.length ∧ σ.t 10 = .i i ∧ ∃ v, σ.t 3 = .c (.own 6 v i) ∧ σ.H 6 = some (.arr v true 1 9 (en eS ((nmsOf d).take i)))
set_option maxHeartbeats 1000000 in
theorem fnames_ok (d : Dk) (hl : d.files.length ≤ 1000) : ACallsF Tryz.prog 133 [tDk d] [] (tL (en eS (nmsOf d))) := by
  refine ACallsF.intro ok133 follows fun X c0 => ?_
  simp only [go_sem]
  refine AW.upto d.files.length (inv133 d) ⟨rfl, rfl, rfl, _, rfl, rfl⟩ fun i t H c hi h => ?_
  obtain ⟨e8, e9, e10, v, e3, eH⟩ := h
  simp only [T.c, T.i, tL] at e8 e9 e10 e3 eH
  have hlen : (en eS ((nmsOf d).take i)).length = i := by rw [en_len, List.length_take, List.length_map]; omega
  by_cases hlt : i < d.files.length
  · obtain ⟨f, hf⟩ : ∃ f, d.files[i]? = some f := ⟨_, List.getElem?_eq_getElem hlt⟩
    have ef := en_at eF hf
    have gx : (0 : Int) ≤ i := by omega
    have k5 : (i : Int) < d.files.length := by omega
    have gw : IntKind.i64.wrap ((i : Int) + 1) = ((i + 1 : Nat) : Int) := wrap64 (x := (i : Int) + 1) ⟨by omega, by omega⟩
    have ht : (nmsOf d).take (i + 1) = (nmsOf d).take i ++ [f.name] := take_snoc (by rw [List.getElem?_map, hf]; rfl)
    have hT : List.take i (en eS ((nmsOf d).take i)) = en eS ((nmsOf d).take i) := List.take_of_length_le (by rw [hlen]; exact Nat.le_refl _)
    have q1 : (i + 1) * 16 ≤ 140737488355328 := by omega
    have q2 : i + 1 ≤ 9223372036854775807 := by omega
    simp only [go_sem, e8, e9, e10, e3, eH, k5, gx, ef, eF, hT, hlen, q1, q2, gw]
    unfold inv133
    rw [ht, en_snoc]
    exact ⟨hlt, e8, e9, rfl, _, rfl, rfl⟩
  · have hi2 : i = d.files.length := by omega
    subst hi2
    have k5 : ¬ (d.files.length : Int) < d.files.length := by omega
    have htk : List.take d.files.length (nmsOf d) = nmsOf d := List.take_of_length_le (by rw [List.length_map]; exact Nat.le_refl _)
    rw [htk] at eH hlen
    have hT : List.take d.files.length (en eS (nmsOf d)) = en eS (nmsOf d) := List.take_of_length_le (by rw [hlen]; exact Nat.le_refl _)
    simp only [go_sem, e8, e9, e10, e3, eH, k5, hlen, hT]
def ok148 := okF.gu (P := Tryz.prog) tab Tryz.func148 Tryz.ntmps148 (by conv => lhs; cbv) (by kernel_rfl)
theorem room_ok (ns : List ByteArray) (hl : ns.length ≤ 9000000000000000000) (hn : ∀ x ∈ ns, x.size ≤ 1000000) : ACallsF Tryz.prog 148 [tL (en eS ns)] [] (.b (decide (topN ns < 999999) && decide ((ns.length : Int) ≤ 62))) := by
  refine ACallsF.intro ok148 follows fun X c0 => ?_
  simp only [go_sem]
  refine callC (topI_ok ns hl hn) rfl rfl rfl rfl ?_
  by_cases k1 : topN ns < 999999
  · simp only [go_sem, k1]
  · simp only [go_sem, k1]
end Go.V
set_option linter.unusedSimpArgs false
set_option maxRecDepth 20000
namespace Go.V
open Go.Proofs
/-! Raw writes that are gathered. -/
abbrev wgH (m0 m1 u v : Nat) (ws ws' : List DW) : List Hand := [⟨4001, m0, some (.var u 170 [.own 1001 v ws.length]), .var u 170 [.own 1001 0 ws'.length], true⟩, ⟨1001, m1, some (.arr v true 3 89 (en eW ws)), .arr 0 true 3 89 (en eW ws'), false⟩]
abbrev wg0 (m0 m1 u : Nat) (ws' : List DW) : List Hand := [⟨4001, m0, some (.var u 170 [.nil0]), .var u 170 [.own 18 0 ws'.length], true⟩, newH 18 m1 3 89 (en eW ws')]
section
variable {P : Program} {t : Nat → T} {H : HMap} {c : Nat} {f : Opd} {args : List Opd} {fid : FuncId} {al al0 : List T} {lw : List (Nat × Blk)} {ns : List Nat} {m0 m1 u v : Nat} {ws ws' : List DW} {r : T} {k : Nat} {d : Option Nat} {un : List Nat} {l : List AOper} {prev : List (Nat × List Nat × List Nat)} {K : St → Prop}
theorem callWl (hC : ACallsF P fid (.c (.ptr 4001 u 0) :: al) (wgH m0 m1 u v ws ws') r) (hf : ev t f = .pt (.one (.fn fid []))) (hl : args.map (ev t) = .c (.ptr m0 u 0) :: al0) (hll : lendTs H al al0 = some (al, lw, ns)) (ha : al.all closedA = true) (hr : closedT r = true)
    (hm : m0 ≠ m1) {nn : Nat} (h0 : updH H lw m0 = some (.var u 170 [.own m1 v nn])) (hn : nn = ws.length) (h1 : updH H lw m1 = some (.arr v true 3 89 (en eW ws)))
    (hk : chk prev un ⟨r, lw ++ [(m0, .var u 170 [.own m1 (c + k) ws'.length]), (m1, .arr (c + k) true 3 89 (en eW ws'))], ns ++ [m0, m1], ns ++ [m0, m1]⟩ = true ∧
      DRun P l ((k, ns ++ [m0, m1], ns ++ [m0, m1]) :: prev) K ⟨updD t d r, updH H (lw ++ [(m0, .var u 170 [.own m1 (c + k) ws'.length]), (m1, .arr (c + k) true 3 89 (en eW ws'))]), c⟩) :
    step P k d un (.call f args) l prev K t H c := by
  subst hn
  generalize hhs : wgH m0 m1 u v ws ws' = hs at hC
  have R0 : renN hs 4001 = some ⟨4001, m0, some (.var u 170 [.own 1001 v ws.length]), .var u 170 [.own 1001 0 ws'.length], true⟩ := by rw [← hhs]; rfl
  have R1 : renN hs 1001 = some ⟨1001, m1, some (.arr v true 3 89 (en eW ws)), .arr 0 true 3 89 (en eW ws'), false⟩ := by rw [← hhs]; rfl
  have I0 : inN hs 4001 = some m0 := by simp [inN, R0]
  have I1 : inN hs 1001 = some m1 := by simp [inN, R1]
  obtain ⟨x1, x2⟩ := closed_As hs H al ha
  refine callW (caps := []) («as» := .c (.ptr m0 u 0) :: al) (ws := lw) (ns := ns) (r' := r) (ob := [(m0, .var u 170 [.own m1 (c + k) ws'.length]), (m1, .arr (c + k) true 3 89 (en eW ws'))]) hs hC hf ?_ ?_ ?_ (by rw [← hhs]; simp [hm]) (by rw [← hhs]; simp) (closed_T _ r hr _) ?_ ?_
  · have a1 : lendT H (T.c (.ptr 4001 u 0)) (T.c (.ptr m0 u 0)) = some (T.c (.ptr m0 u 0), [], []) := rfl
    rw [hl]
    simp only [List.map_nil, List.append_nil, lendTs, a1, hll, List.nil_append]
  · have a1 : renIT hs (T.c (.ptr 4001 u 0)) = some (T.c (.ptr m0 u 0)) := by simp only [T.c, renIT, renI, I0, Option.map_some]
    simp only [renITs, a1, x2]
  · have B0 : renIB hs (.var u 170 [.own 1001 v ws.length]) = some (.var u 170 [.own m1 v ws.length]) := by simp only [renIB, renIs, renI, I1, Option.map_some]
    have B1 : ∀ v wr st ty es, renIB hs (.arr v wr st ty es) = some (.arr v wr st ty es) := fun _ _ _ _ _ => rfl
    have key : handsIn (updH H lw) hs (wgH m0 m1 u v ws ws') := by
      simp only [handsIn, B0, B1, h0, h1, and_self]
    rw [hhs] at key
    exact key
  · have key : renOBs hs (c + k) (wgH m0 m1 u v ws ws') = some [(m0, .var u 170 [.own m1 (c + k) ws'.length]), (m1, .arr (c + k) true 3 89 (en eW ws'))] := by
      simp only [renOBs, renOB, renOs, renO, R1, Option.map_some, verOf, if_true, Bool.false_eq_true, if_false, Blk.ver]
    rw [hhs] at key
    exact key
  · have hq : quiet r hs = false := by rw [← hhs]; simp [quiet]
    have hms : hs.map (·.m) = [m0, m1] := by rw [← hhs]; rfl
    rw [hq, hms]
    exact hk
theorem callWc (hC : ACallsF P fid (.c (.ptr 4001 u 0) :: al) (wgH m0 m1 u v ws ws') r) (hf : ev t f = .pt (.one (.fn fid []))) (hl : args.map (ev t) = .c (.ptr m0 u 0) :: al) (ha : al.all closedA = true) (hr : closedT r = true)
    (hm : m0 ≠ m1) {nn : Nat} (h0 : H m0 = some (.var u 170 [.own m1 v nn])) (hn : nn = ws.length) (h1 : H m1 = some (.arr v true 3 89 (en eW ws)))
    (hk : chk prev un ⟨r, [(m0, .var u 170 [.own m1 (c + k) ws'.length]), (m1, .arr (c + k) true 3 89 (en eW ws'))], [m0, m1], [m0, m1]⟩ = true ∧
      DRun P l ((k, [m0, m1], [m0, m1]) :: prev) K ⟨updD t d r, upd (upd H m0 (some (.var u 170 [.own m1 (c + k) ws'.length]))) m1 (some (.arr (c + k) true 3 89 (en eW ws'))), c⟩) :
    step P k d un (.call f args) l prev K t H c :=
  callWl (lw := []) (ns := []) hC hf hl (closed_As [] H al ha).1 ha hr hm h0 hn h1 (by simpa [updH] using hk)
theorem callWz (hC : ACallsF P fid (.c (.ptr 4001 u 0) :: al) (wg0 m0 m1 u ws') r) (hf : ev t f = .pt (.one (.fn fid []))) (hl : args.map (ev t) = .c (.ptr m0 u 0) :: al) (ha : al.all closedA = true) (hr : closedT r = true)
    (hm : m0 ≠ m1) (h0 : H m0 = some (.var u 170 [.nil0]))
    (hk : chk prev un ⟨r, [(m0, .var u 170 [.own m1 (c + k) ws'.length]), (m1, .arr (c + k) true 3 89 (en eW ws'))], [m0, m1], [m0, m1]⟩ = true ∧
      DRun P l ((k, [m0, m1], [m0, m1]) :: prev) K ⟨updD t d r, upd (upd H m0 (some (.var u 170 [.own m1 (c + k) ws'.length]))) m1 (some (.arr (c + k) true 3 89 (en eW ws'))), c⟩) :
    step P k d un (.call f args) l prev K t H c := by
  generalize hhs : wg0 m0 m1 u ws' = hs at hC
  have R0 : renN hs 4001 = some ⟨4001, m0, some (.var u 170 [.nil0]), .var u 170 [.own 18 0 ws'.length], true⟩ := by rw [← hhs]; rfl
  have R1 : renN hs 18 = some (newH 18 m1 3 89 (en eW ws')) := by rw [← hhs]; rfl
  have I0 : inN hs 4001 = some m0 := by simp [inN, R0]
  obtain ⟨x1, x2⟩ := closed_As hs H al ha
  refine callW (caps := []) («as» := .c (.ptr m0 u 0) :: al) (ws := []) (ns := []) (r' := r) (ob := [(m0, .var u 170 [.own m1 (c + k) ws'.length]), (m1, .arr (c + k) true 3 89 (en eW ws'))]) hs hC hf ?_ ?_ ?_ (by rw [← hhs]; simp [hm]) (by rw [← hhs]; simp) (closed_T _ r hr _) ?_ ?_
  · have a1 : lendT H (T.c (.ptr 4001 u 0)) (T.c (.ptr m0 u 0)) = some (T.c (.ptr m0 u 0), [], []) := rfl
    rw [hl]
    simp only [List.map_nil, List.append_nil, lendTs, a1, x1]
  · have a1 : renIT hs (T.c (.ptr 4001 u 0)) = some (T.c (.ptr m0 u 0)) := by simp only [T.c, renIT, renI, I0, Option.map_some]
    simp only [renITs, a1, x2]
  · have B0 : renIB hs (.var u 170 [.nil0]) = some (.var u 170 [.nil0]) := by simp only [renIB, renIs, renI, Option.map_some]
    have key : handsIn (updH H []) hs (wg0 m0 m1 u ws') := by
      simp only [handsIn, B0, updH, h0, and_self]
    rw [hhs] at key
    exact key
  · have key : renOBs hs (c + k) (wg0 m0 m1 u ws') = some [(m0, .var u 170 [.own m1 (c + k) ws'.length]), (m1, .arr (c + k) true 3 89 (en eW ws'))] := by
      simp only [renOBs, renOB, renOs, renO, R1, Option.map_some, verOf, if_true, Bool.false_eq_true, if_false, Blk.ver]
    rw [hhs] at key
    exact key
  · have hq : quiet r hs = false := by rw [← hhs]; simp [quiet]
    have hms : hs.map (·.m) = [m0, m1] := by rw [← hhs]; rfl
    rw [hq, hms]
    simpa [updH] using hk
end
def ok130 := okF.gu (P := Tryz.prog) tab Tryz.func130 Tryz.ntmps130 (by conv => lhs; cbv) (by kernel_rfl)
theorem add_ok (ws : List DW) (hl : ws.length ≤ 2000) (k : Int) (nm dt : ByteArray) (m0 m1 u v : Nat) : ACallsF Tryz.prog 130 [.c (.ptr 4001 u 0), .i k, tS nm, tS dt] (wgH m0 m1 u v ws (ws ++ [⟨k, nm, dt⟩])) (.tup []) := by
  have q3 : (ws.length + 1) * 40 ≤ 140737488355328 := by omega
  have q4 : ws.length + 1 ≤ 9223372036854775807 := by omega
  refine ACallsF.intro ok130 follows fun X c0 => ?_
  simp only [go_sem, q3, q4, en_snoc, eW, false_implies, and_self]
theorem add0_ok (k : Int) (nm dt : ByteArray) (m0 m1 u : Nat) : ACallsF Tryz.prog 130 [.c (.ptr 4001 u 0), .i k, tS nm, tS dt] (wg0 m0 m1 u [⟨k, nm, dt⟩]) (.tup []) := by
  refine ACallsF.intro ok130 follows fun X c0 => ?_
  have q1 : 1 * 40 ≤ 140737488355328 := by decide
  simp only [go_sem, q1, en, eW, false_implies, and_self]
def ok150 := okF.gu (P := Tryz.prog) tab Tryz.func150 Tryz.ntmps150 (by conv => lhs; cbv) (by kernel_rfl)
abbrev e0 : ByteArray := ⟨#[]⟩
abbrev plL (num : Int) (txt : ByteArray) : List DW := [⟨1, pln num, e0⟩, ⟨2, pln num, txt⟩, ⟨3, pln num, e0⟩, ⟨5, e0, e0⟩]
set_option maxHeartbeats 1000000 in
theorem plan_ok (ws : List DW) (hl : ws.length ≤ 1900) (num : Int) (hn : i64 num) (p : Pl) (hp : okPl p) (m0 m1 u v : Nat) : ACallsF Tryz.prog 150 [.c (.ptr 4001 u 0), .i num, tPl p] (wgH m0 m1 u v ws (ws ++ plL num (planT p))) (.tup []) := by
  refine ACallsF.intro ok150 follows fun X c0 => ?_
  simp only [go_sem]
  refine callC (pln_ok num hn) rfl rfl rfl rfl ?_
  simp only [go_sem]
  refine callWc (m0 := 4001) (m1 := 1001) (add_ok ws (by omega) 1 (pln num) e0 4001 1001 _ _) rfl rfl rfl rfl (by decide) rfl (by simp) rfl ⟨rfl, ?_⟩
  simp only [go_sem]
  refine callC (pln_ok num hn) rfl rfl rfl rfl ?_
  simp only [go_sem]
  refine callC (planText_ok p hp) rfl rfl rfl rfl ?_
  simp only [go_sem]
  refine callWc (m0 := 4001) (m1 := 1001) (add_ok _ (by simp; omega) 2 (pln num) (planT p) 4001 1001 _ _) rfl rfl rfl rfl (by decide) rfl (by simp) rfl ⟨rfl, ?_⟩
  simp only [go_sem]
  refine callC (pln_ok num hn) rfl rfl rfl rfl ?_
  simp only [go_sem]
  refine callWc (m0 := 4001) (m1 := 1001) (add_ok _ (by simp; omega) 3 (pln num) e0 4001 1001 _ _) rfl rfl rfl rfl (by decide) rfl (by simp) rfl ⟨rfl, ?_⟩
  simp only [go_sem]
  refine callWc (m0 := 4001) (m1 := 1001) (add_ok _ (by simp; omega) 5 e0 e0 4001 1001 _ _) rfl rfl rfl rfl (by decide) rfl (by simp) rfl ⟨rfl, ?_⟩
  simp only [go_sem, List.append_assoc, false_implies, and_self]
end Go.V
set_option linter.unusedSimpArgs false
set_option maxRecDepth 20000
namespace Go.V
open Go.Proofs
/-! A segment is closed. -/
def nxP (s : Ls) (t : Int) : Pl := ⟨s.plan.parts ++ [⟨s.plan.opn, s.plan.first, s.next, s.size⟩], t + 1, s.next⟩
structure Gs (s : Ls) : Prop where
  plan : planOk s.plan = true
  num : 1 ≤ s.num ∧ s.num ≤ 999999
  next : s.plan.first ≤ s.next ∧ s.next ≤ 1000000
  size : 0 ≤ s.size ∧ s.size ≤ 20000
structure Ge (s : Ls) (t : Int) : Prop where
  opn : s.plan.opn ≤ t
  parts : ∀ p ∈ s.plan.parts, p.num ≤ t
abbrev clL (t : Int) (s : Ls) : List DW := ⟨1, seg (t + 1), e0⟩ :: (plL (t + 1) (planT (nxP s t)) ++ [⟨4, pln s.num, e0⟩, ⟨5, e0, e0⟩])
def cl (n : Nat) (t : Int) (s : Ls) : Option (List DW) := if t < 999999 ∧ n ≤ 62 ∧ s.plan.parts.length < 40 then some (clL t s) else none
theorem plGo_snoc (T opn f : Int) (x : LP) (hx : x.num = opn) (ho : 1 ≤ opn ∧ opn ≤ 999999) (hf : x.first = f) (hn : x.first ≤ x.next ∧ x.next ≤ 1000000) (hs : 0 ≤ x.size ∧ x.size ≤ 20000) : ∀ (xs : List LP) (seen seen' : List Int) (nx : Int), plGo seen nx xs = some f → (∀ y ∈ seen', y ∈ seen ∨ y = T) → (∀ y ∈ xs, y.num ≠ T) → opn ∈ seen → opn ∉ seen' → plGo seen' nx (xs ++ [x]) = some x.next
  | [], seen, seen', nx, h, h1, h2, h3, h4 => by
    rw [plGo] at h
    cases h
    rw [List.nil_append, plGo, if_pos ⟨by rw [hx]; exact ho, by rw [hx]; exact h4, hf, hn.1, hn.2, hs⟩, plGo]
  | y :: ys, seen, seen', nx, h, h1, h2, h3, h4 => by
    rw [plGo] at h
    split at h
    · rename_i hp
      obtain ⟨p1, p2, p3⟩ := hp
      have hyT := h2 y (by simp)
      have hyo : y.num ≠ opn := fun e => p2 (e ▸ h3)
      have hns : y.num ∉ seen' := fun hm => by
        rcases h1 _ hm with h | h
        · exact p2 h
        · exact hyT h
      rw [List.cons_append, plGo, if_pos ⟨p1, hns, p3⟩]
      refine plGo_snoc T opn f x hx ho hf hn hs ys _ _ _ h (fun z hz => ?_) (fun z hz => h2 z (by simp [hz])) (by simp [h3]) ?_
      · rcases List.mem_append.1 hz with hz | hz
        · rcases h1 z hz with h | h
          · exact .inl (by simp [h])
          · exact .inr h
        · exact .inl (by simp at hz; simp [hz])
      · intro hm
        rcases List.mem_append.1 hm with hm | hm
        · exact h4 hm
        · simp at hm; exact hyo hm.symm
    · cases h
theorem nxP_ok {s : Ls} {t : Int} (hg : Gs s) (he : Ge s t) (ht : 0 ≤ t ∧ t < 999999) (hl : s.plan.parts.length < 40) : planOk (nxP s t) = true := by
  obtain ⟨h1, h2, h3⟩ := (planOk_iff _).1 hg.plan
  refine (planOk_iff _).2 ⟨?_, ?_, ?_⟩
  · rw [nxP, List.length_append, List.length_singleton]; omega
  · simp only [nxP]; omega
  · have ho := he.opn
    refine plGo_snoc (t + 1) s.plan.opn s.plan.first ⟨s.plan.opn, s.plan.first, s.next, s.size⟩ rfl h2 rfl hg.next hg.size s.plan.parts [s.plan.opn] [t + 1] 1 h3 (fun y hy => .inr (by simpa using hy)) (fun y hy e => ?_) (by simp) ?_
    · have := he.parts y hy
      omega
    · intro hm
      simp at hm
      omega
theorem nxP_pl {s : Ls} {t : Int} (hg : Gs s) (ht : 0 ≤ t ∧ t < 999999) : okPl (nxP s t) := by
  obtain ⟨h1, h2, h3, h4⟩ := planOk_pl hg.plan
  have g1 := hg.next
  have g2 := hg.size
  obtain ⟨h5, h6, h7, h8, h9⟩ := planOk_ok hg.plan
  refine ⟨?_, fun x hx => ?_, ⟨by simp only [nxP]; omega, by simp only [nxP]; omega⟩, ⟨by simp only [nxP]; omega, by simp only [nxP]; omega⟩⟩
  · rw [nxP, List.length_append, List.length_singleton]; omega
  · rcases List.mem_append.1 hx with hx | hx
    · exact h2 x hx
    · simp at hx
      subst hx
      exact ⟨h3, h4, ⟨by simp only; omega, by simp only; omega⟩, ⟨by simp only; omega, by simp only; omega⟩⟩
def ok152 := okF.gu (P := Tryz.prog) tab Tryz.func152 Tryz.ntmps152 (by conv => lhs; cbv) (by kernel_rfl)
theorem cloneP_ok (xs : List LP) (hl : xs.length ≤ 2000000) (m : Nat) : ACallsF Tryz.prog 152 [tL (en eP xs)] [newH 5 m 4 100 (en eP xs)] (.c (.own 5 0 xs.length)) := by
  have q1 : xs.length * 32 ≤ 140737488355328 := by omega
  have q2 : xs.length ≤ 9223372036854775807 := by omega
  have hb1 : (true != false) = true := rfl
  have hb2 : (false != false) = false := rfl
  cases xs with
  | nil =>
    refine nilArgH fun ad c => ?_
    cases ad with
    | none =>
      refine ownNil (by decide) (ACallsF.intro ok152 follows fun X c0 => ?_)
      simp only [go_sem, Option.isNone_none, hb1]
    | some a =>
      refine ACallsF.intro ok152 follows fun X c0 => ?_
      simp only [go_sem, Option.isNone_some, hb2, Nat.zero_mul, Nat.zero_le, List.not_mem_nil, false_implies, implies_true, imp_self]
  | cons y ys =>
    refine ACallsF.intro ok152 follows fun X c0 => ?_
    obtain ⟨x, es, he⟩ : ∃ x es, en eP (y :: ys) = x :: es := ⟨_, _, rfl⟩
    have hall := en_all eP eP_len (y :: ys)
    have hlen := en_len eP (y :: ys)
    rw [he] at hall hlen ⊢
    simp only [List.length_cons] at hlen q1 q2
    have hlen' : es.length = ys.length := by omega
    simp only [go_sem, hall, hlen', q1, q2, Nat.zero_add, imp_self]
theorem lendP1 {H : HMap} {m v n : Nat} {w1 : Bool} {p : Pl} {num : Int} (h1 : H m = some (.arr v w1 4 100 (en eP p.parts))) (e1 : n = p.parts.length) :
    lendTs H [.i num, tPl p] [.i num, .pt (.agg [.own m v n, .v (.s (.int .i64 p.opn)), .v (.s (.int .i64 p.first))])] = some ([.i num, tPl p], [(m, .arr v false 4 100 (en eP p.parts))], [m]) := by
  have h0 := lendPlan1 (p := p) h1 e1
  have h2 : lendT H (T.i num) (T.i num) = some (T.i num, [], []) := (closed_A [] H (.i num) rfl).1
  rw [lendTs, h2, h0]
  rfl
def ok132 := okF.gu (P := Tryz.prog) tab Tryz.func132 Tryz.ntmps132 (by conv => lhs; cbv) (by kernel_rfl)
set_option maxHeartbeats 2000000 in
set_option maxRecDepth 20000 in
theorem closeI_ok (ns : List ByteArray) (hl : ns.length ≤ 1000) (hn : ∀ x ∈ ns, x.size ≤ 1000000) (s : Ls) (hg : Gs s) (ws : List DW) (hws : ws.length ≤ 1800) (m0 m1 u v : Nat) :
    ACallsF Tryz.prog 132 [.c (.ptr 4001 u 0), tL (en eS ns), tLs s] (wgH m0 m1 u v ws (ws ++ (cl ns.length (topN ns) s).getD [])) (.b (cl ns.length (topN ns) s).isSome) := by
  obtain ⟨h5, h6, h7, h8, h9⟩ := planOk_ok hg.plan
  have ht := topN_le ns
  have fail : (cl ns.length (topN ns) s = none → ACallsF Tryz.prog 132 [.c (.ptr 4001 u 0), tL (en eS ns), tLs s] (wgH m0 m1 u v ws ws) (.b false)) → ¬ (topN ns < 999999 ∧ ns.length ≤ 62 ∧ s.plan.parts.length < 40) → ACallsF Tryz.prog 132 [.c (.ptr 4001 u 0), tL (en eS ns), tLs s] (wgH m0 m1 u v ws (ws ++ (cl ns.length (topN ns) s).getD [])) (.b (cl ns.length (topN ns) s).isSome) := fun h hc => by
    have e : cl ns.length (topN ns) s = none := if_neg hc
    have := h e
    rw [e, Option.getD_none, List.append_nil]
    exact this
  by_cases k1 : topN ns < 999999
  case neg =>
    refine fail (fun _ => ?_) (fun h => k1 h.1)
    refine ACallsF.intro ok132 follows fun X c0 => ?_
    simp only [go_sem]
    refine callC (room_ok ns (by omega) hn) rfl rfl rfl rfl ?_
    simp only [go_sem, k1, false_implies, and_self]
  by_cases k2 : (ns.length : Int) ≤ 62
  case neg =>
    refine fail (fun _ => ?_) (fun h => k2 (by omega))
    refine ACallsF.intro ok132 follows fun X c0 => ?_
    simp only [go_sem]
    refine callC (room_ok ns (by omega) hn) rfl rfl rfl rfl ?_
    simp only [go_sem, k1, k2, false_implies, and_self]
  by_cases k3 : s.plan.parts.length = 40
  · have k3' : ((s.plan.parts.length : Int) == 40) = true := by rw [k3]; rfl
    refine fail (fun _ => ?_) (fun h => by omega)
    refine ACallsF.intro ok132 follows fun X c0 => ?_
    simp only [go_sem]
    refine callC (room_ok ns (by omega) hn) rfl rfl rfl rfl ?_
    simp only [go_sem, k1, k2, k3', false_implies, and_self]
  have k3' : ((s.plan.parts.length : Int) == 40) = false := beq_eq_false_iff_ne.2 (by omega)
  have e : cl ns.length (topN ns) s = some (clL (topN ns) s) := if_pos ⟨k1, by omega, by omega⟩
  rw [e, Option.getD_some, Option.isSome_some]
  have gt : IntKind.i64.wrap (topN ns + 1) = topN ns + 1 := wrap64 ⟨by omega, by omega⟩
  have hpl := nxP_pl (t := topN ns) hg ⟨by omega, k1⟩
  have q1 : (s.plan.parts.length + 1) * 32 ≤ 140737488355328 := by omega
  have q2 : s.plan.parts.length + 1 ≤ 9223372036854775807 := by omega
  have hT : List.take s.plan.parts.length (en eP s.plan.parts) = en eP s.plan.parts := en_take eP _
  refine ACallsF.intro ok132 follows fun X c0 => ?_
  simp only [go_sem]
  refine callC (room_ok ns (by omega) hn) rfl rfl rfl rfl ?_
  simp only [go_sem, k1, k2, k3']
  refine callC (topI_ok ns (by omega) hn) rfl rfl rfl rfl ?_
  simp only [go_sem, gt]
  refine callC (seg_ok _ ⟨by omega, by omega⟩) rfl rfl rfl rfl ?_
  simp only [go_sem]
  refine callWc (m0 := 4001) (m1 := 1001) (add_ok ws (by omega) 1 (seg (topN ns + 1)) e0 4001 1001 _ _) rfl rfl rfl rfl (by decide) rfl (by simp) rfl ⟨rfl, ?_⟩
  simp only [go_sem]
  refine callA1 (m := 2042) (ws := []) (ns := []) (cloneP_ok s.plan.parts (by omega) 2042) rfl rfl rfl (en_flat eP eP_flat _) ⟨rfl, ?_⟩
  have hen : en eP s.plan.parts ++ [[.s (.int .i64 s.plan.opn), .s (.int .i64 s.plan.first), .s (.int .i64 s.next), .s (.int .i64 s.size)]] = en eP (nxP s (topN ns)).parts := (en_snoc eP s.plan.parts ⟨s.plan.opn, s.plan.first, s.next, s.size⟩).symm
  have hnl : s.plan.parts.length + 1 = (nxP s (topN ns)).parts.length := by rw [nxP, List.length_append, List.length_singleton]
  simp only [go_sem, hT, q1, q2, hen]
  refine callWl (m0 := 4001) (m1 := 1001) (lw := [(2042, .arr _ false 4 100 (en eP (nxP s (topN ns)).parts))]) (ns := [2042]) (plan_ok (ws ++ [⟨1, seg (topN ns + 1), e0⟩]) (by simp; omega) (topN ns + 1) ⟨by omega, by omega⟩ (nxP s (topN ns)) hpl 4001 1001 _ _) rfl rfl (lendP1 rfl hnl) rfl rfl (by decide) rfl (by simp) rfl ⟨rfl, ?_⟩
  simp only [go_sem]
  refine callC (pln_ok s.num ⟨by have := hg.num; omega, by have := hg.num; omega⟩) rfl rfl rfl rfl ?_
  simp only [go_sem]
  refine callWc (m0 := 4001) (m1 := 1001) (add_ok _ (by simp; omega) 4 (pln s.num) e0 4001 1001 _ _) rfl rfl rfl rfl (by decide) rfl (by simp) rfl ⟨rfl, ?_⟩
  simp only [go_sem]
  refine callWc (m0 := 4001) (m1 := 1001) (add_ok _ (by simp; omega) 5 e0 e0 4001 1001 _ _) rfl rfl rfl rfl (by decide) rfl (by simp) rfl ⟨rfl, ?_⟩
  simp only [go_sem, List.append_assoc, false_implies, and_self]
  rfl
end Go.V
set_option linter.unusedSimpArgs false
set_option maxRecDepth 20000
namespace Go.V
open Go.Proofs
abbrev tWI (l : List DW) (c : Int) : T := .tup [.one (.v (.sl (en eW l))), .one (.v (.s (.int .i64 c)))]
abbrev tWo (o : Option (List DW)) : T := tWI (o.getD []) (if o.isSome = true then 0 else 4)
abbrev tWII (l : List DW) (p c : Int) : T := .tup [.one (.v (.sl (en eW l))), .one (.v (.s (.int .i64 p))), .one (.v (.s (.int .i64 c)))]
def ok95 := okF.gu (P := Tryz.prog) tab Tryz.func95 Tryz.ntmps95 (by conv => lhs; cbv) (by kernel_rfl)
set_option maxHeartbeats 2000000 in
set_option maxRecDepth 20000 in
theorem closeS_ok (d : Dk) (hdl : d.files.length ≤ 1000) (hn : ∀ f ∈ d.files, f.name.size ≤ 1000000) (s : Ls) (hg : Gs s) (he : Ge s (topN (nmsOf d))) : ACallsF Tryz.prog 95 [tDk d, tLs s] [] (tWo (cl d.files.length (topN (nmsOf d)) s)) := by
  obtain ⟨h5, h6, h7, h8, h9⟩ := planOk_ok hg.plan
  have ht := topN_le (nmsOf d)
  have hC := topS_ok d (by omega) hn
  generalize topN (nmsOf d) = t at *
  have gd : IntKind.i64.wrap ((d.files.length : Int) + 2) = (d.files.length : Int) + 2 := wrap64 ⟨by omega, by omega⟩
  have gt : IntKind.i64.wrap (t + 1) = t + 1 := wrap64 ⟨by omega, by omega⟩
  refine ACallsF.intro ok95 follows fun X c0 => ?_
  simp only [go_sem]
  refine callC hC rfl rfl rfl rfl ?_
  by_cases k1 : t ≥ 999999
  · have e : cl d.files.length t s = none := if_neg fun h => by omega
    rw [e]
    simp only [go_sem, k1]
    rfl
  by_cases k2 : (s.plan.parts.length : Int) ≥ 40
  · have e : cl d.files.length t s = none := if_neg fun h => by omega
    rw [e]
    simp only [go_sem, k1, k2]
    rfl
  by_cases k3 : (d.files.length : Int) + 2 > 64
  · have e : cl d.files.length t s = none := if_neg fun h => by omega
    rw [e]
    simp only [go_sem, k1, k2, gd, k3]
    rfl
  have e : cl d.files.length t s = some (clL t s) := if_pos ⟨by omega, by omega, by omega⟩
  rw [e]
  have hpo := nxP_ok hg he ⟨ht.1, by omega⟩ (by omega)
  have hpw : planW (nxP s t) = planT (nxP s t) := if_pos hpo
  have hW := planWS_ok (nxP s t) (by rw [nxP, List.length_append, List.length_singleton]; omega)
  rw [hpw] at hW
  have f1 := fits1 115 (t + 1) ⟨by omega, by omega⟩
  have f2 := fits1 109 (t + 1) ⟨by omega, by omega⟩
  have f3 := fits1 109 s.num ⟨by have := hg.num; omega, by have := hg.num; omega⟩
  have q1 : (s.plan.parts.length + 1) * 32 ≤ 140737488355328 := by omega
  have q2 : s.plan.parts.length + 1 ≤ 9223372036854775807 := by omega
  have q3 : s.plan.parts.length * 32 ≤ 140737488355328 := by omega
  have q4 : s.plan.parts.length ≤ 9223372036854775807 := by omega
  have hT : List.take s.plan.parts.length (en eP s.plan.parts) = en eP s.plan.parts := en_take eP _
  have hen : en eP s.plan.parts ++ [[.s (.int .i64 s.plan.opn), .s (.int .i64 s.plan.first), .s (.int .i64 s.next), .s (.int .i64 s.size)]] = en eP (nxP s t).parts := (en_snoc eP s.plan.parts ⟨s.plan.opn, s.plan.first, s.next, s.size⟩).symm
  have hnl : s.plan.parts.length + 1 = (nxP s t).parts.length := by rw [nxP, List.length_append, List.length_singleton]
  have a1 : (⟨#[115]⟩ : ByteArray) ++ dc (t + 1) = seg (t + 1) := rfl
  have a2 : (⟨#[109]⟩ : ByteArray) ++ dc (t + 1) = pln (t + 1) := rfl
  have a3 : (⟨#[109]⟩ : ByteArray) ++ dc s.num = pln s.num := rfl
  simp only [go_sem, k1, k2, gd, k3, gt]
  refine callC (decI (t + 1) ⟨by omega, by omega⟩) rfl rfl rfl rfl ?_
  simp only [go_sem, sStr, f1, gt, a1]
  refine callC (decI (t + 1) ⟨by omega, by omega⟩) rfl rfl rfl rfl ?_
  simp only [go_sem, sStr, f2, gt, a2, hT, q1, q2, q3, q4, hen, Nat.zero_add]
  refine callL (ws := [(42, .arr _ false 4 100 (en eP (nxP s t).parts))]) (ns := [42]) hW rfl (lendPlan1 (p := nxP s t) rfl hnl) rfl rfl ⟨?_, ?_⟩
  · simp only [go_sem, scalarT, scalarP, scalarC]
  simp only [go_sem, scalarT, scalarP, scalarC]
  refine callC (decI s.num ⟨by have := hg.num; omega, by have := hg.num; omega⟩) rfl rfl rfl rfl ?_
  simp only [go_sem, sStr, f3, a3]
  rfl
/-- The writes by which a log is made. -/
def goneL (ns : List ByteArray) : List DW := ns.map fun nm => ⟨4, nm, e0⟩
def bi (d : Dk) : Option (List DW) := if topN (nmsOf d) < 999999 ∧ d.files.length ≤ 62 then some (goneL (th d) ++ (⟨1, seg (topN (nmsOf d) + 1), e0⟩ :: plL (topN (nmsOf d) + 1) (planT ⟨[], topN (nmsOf d) + 1, 1⟩))) else none
theorem goneL_snoc {ns : List ByteArray} {i : Nat} {x : ByteArray} (h : ns[i]? = some x) : goneL (ns.take (i + 1)) = goneL (ns.take i) ++ [⟨4, x, e0⟩] := by
  rw [goneL, take_snoc h, List.map_append]; rfl
theorem goneL_len (ns : List ByteArray) : (goneL ns).length = ns.length := List.length_map ..
theorem DOk.nm {d : Dk} (hD : DOk d) : ∀ f ∈ d.files, f.name.size ≤ 1000000 := fun f hf => by
  obtain ⟨i, hi⟩ := List.mem_iff_getElem?.1 hf
  have h := nameOk_len (hD.files i f hi).name
  omega
def ok93 := okF.gu (P := Tryz.prog) tab Tryz.func93 Tryz.ntmps93 (by conv => lhs; cbv) (by kernel_rfl)
def inv93 (d : Dk) (t : Int) (i : Nat) (σ : St) : Prop := σ.t 4 = .i t ∧ σ.t 6 = tL (en eS (th d)) ∧ σ.t 7 = .i i ∧ ∃ v, σ.t 5 = .c (.own 22 v i) ∧ σ.H 22 = some (.arr v true 3 89 (en eW (goneL ((th d).take i))))
set_option maxHeartbeats 2000000 in
set_option maxRecDepth 20000 in
theorem birthS_ok (d : Dk) (hD : DOk d) : ACallsF Tryz.prog 93 [tDk d] [] (tWo (bi d)) := by
  have hdf := hD.f
  have hl := th_len hD
  have ht := topN_le (nmsOf d)
  have hC := topS_ok d (by omega) hD.nm
  unfold bi
  generalize topN (nmsOf d) = t at *
  have gd : IntKind.i64.wrap ((d.files.length : Int) + 2) = (d.files.length : Int) + 2 := wrap64 ⟨by omega, by omega⟩
  have gt : IntKind.i64.wrap (t + 1) = t + 1 := wrap64 ⟨by omega, by omega⟩
  refine ACallsF.intro ok93 follows fun X c0 => ?_
  simp only [go_sem]
  refine callC hC rfl rfl rfl rfl ?_
  by_cases k1 : t ≥ 999999
  · rw [if_neg fun h => by omega]
    simp only [go_sem, k1]
    rfl
  by_cases k3 : (d.files.length : Int) + 2 > 64
  · rw [if_neg fun h => by omega]
    simp only [go_sem, k1, gd, k3]
    rfl
  rw [if_pos ⟨by omega, by omega⟩]
  have f1 := fits1 115 (t + 1) ⟨by omega, by omega⟩
  have f2 := fits1 109 (t + 1) ⟨by omega, by omega⟩
  have a1 : (⟨#[115]⟩ : ByteArray) ++ dc (t + 1) = seg (t + 1) := rfl
  have a2 : (⟨#[109]⟩ : ByteArray) ++ dc (t + 1) = pln (t + 1) := rfl
  have hW := planWS_ok ⟨[], t + 1, 1⟩ (by simp)
  have hpo : planOk ⟨[], t + 1, 1⟩ = true := (planOk_iff _).2 ⟨by simp, ⟨by simp only; omega, by simp only; omega⟩, rfl⟩
  have hpw : planW ⟨[], t + 1, 1⟩ = planT ⟨[], t + 1, 1⟩ := if_pos hpo
  rw [hpw] at hW
  simp only [go_sem, k1, gd, k3]
  refine callC (thS_ok d hD) rfl rfl rfl rfl ?_
  simp only [go_sem]
  refine AW.upto (th d).length (inv93 d t) ⟨rfl, rfl, rfl, _, rfl, rfl⟩ fun i t' H c hi h => ?_
  obtain ⟨e4, e6, e7, v, e5, eH⟩ := h
  simp only [T.c, T.i, tL] at e4 e6 e7 e5 eH
  have hlen : (en eW (goneL ((th d).take i))).length = i := by rw [en_len, goneL_len, List.length_take]; omega
  have hT : List.take i (en eW (goneL ((th d).take i))) = en eW (goneL ((th d).take i)) := List.take_of_length_le (by rw [hlen]; exact Nat.le_refl _)
  have q1 : (i + 1) * 40 ≤ 140737488355328 := by omega
  have q2 : i + 1 ≤ 9223372036854775807 := by omega
  by_cases hlt : i < (th d).length
  · obtain ⟨x, hx⟩ : ∃ x, (th d)[i]? = some x := ⟨_, List.getElem?_eq_getElem hlt⟩
    have ex := en_at eS hx
    have gx : (0 : Int) ≤ i := by omega
    have k5 : (i : Int) < (th d).length := by omega
    have gw : IntKind.i64.wrap ((i : Int) + 1) = ((i + 1 : Nat) : Int) := wrap64 (x := (i : Int) + 1) ⟨by omega, by omega⟩
    simp only [go_sem, e4, e6, e7, e5, eH, k5, gx, ex, eS, hT, hlen, q1, q2, gw]
    unfold inv93
    rw [goneL_snoc hx, en_snoc]
    exact ⟨hlt, e4, e6, rfl, _, rfl, rfl⟩
  · have hi2 : i = (th d).length := by omega
    subst hi2
    have k5 : ¬ ((th d).length : Int) < (th d).length := by omega
    have htl : List.take ((th d).length + 5) (en eW (goneL (th d)) ++ [eW ⟨1, seg (t + 1), e0⟩, eW ⟨1, pln (t + 1), e0⟩, eW ⟨2, pln (t + 1), planT ⟨[], t + 1, 1⟩⟩, eW ⟨3, pln (t + 1), e0⟩, eW ⟨5, e0, e0⟩]) = en eW (goneL (th d) ++ (⟨1, seg (t + 1), e0⟩ :: plL (t + 1) (planT ⟨[], t + 1, 1⟩))) := by
      rw [List.take_of_length_le (by rw [List.length_append, en_len, goneL_len]; exact Nat.le_refl _)]
      simp only [en, List.map_append]; rfl
    have q3 : ((th d).length + 5) * 40 ≤ 140737488355328 := by omega
    have q4 : (th d).length + 5 ≤ 9223372036854775807 := by omega
    rw [List.take_length] at eH hlen hT
    simp only [go_sem, e4, e6, e7, k5, gt]
    refine callC (decI (t + 1) ⟨by omega, by omega⟩) rfl rfl rfl rfl ?_
    simp only [go_sem, e4, sStr, f1, gt, a1]
    refine callC (decI (t + 1) ⟨by omega, by omega⟩) rfl rfl rfl rfl ?_
    simp only [go_sem, e4, sStr, f2, gt, a2, e5, eH]
    refine callL (ws := []) (ns := []) hW rfl ?_ rfl rfl ⟨?_, ?_⟩
    · simp only [go_sem, lendTs, lendT]
      rfl
    · simp only [go_sem, scalarT, scalarP, scalarC]
    simp only [go_sem, scalarT, scalarP, scalarC, e5, eH, hT, hlen, q3, q4, List.mem_cons, forall_eq_or_imp, List.not_mem_nil, false_implies, implies_true]
    exact congrArg (fun l => T.tup [P1.one (C.v (V.sl l)), P1.one (C.v (V.s (Value.int IntKind.i64 0)))]) htl
def ok128 := okF.gu (P := Tryz.prog) tab Tryz.func128 Tryz.ntmps128 (by conv => lhs; cbv) (by kernel_rfl)
def inv128 (d : Dk) (t : Int) (i : Nat) (σ : St) : Prop := σ.t 7 = .i t ∧ σ.t 21 = tL (en eS (th d)) ∧ σ.t 22 = .i (th d).length ∧ σ.t 23 = .i i ∧ ∃ u v, σ.t 6 = .c (.ptr 16 u 0) ∧ σ.H 16 = some (.var u 170 [.own 2016 v (goneL ((th d).take i)).length]) ∧ σ.H 2016 = some (.arr v true 3 89 (en eW (goneL ((th d).take i))))
set_option maxHeartbeats 2000000 in
set_option maxRecDepth 20000 in
theorem begin_ok (d : Dk) (hD : DOk d) : ACallsF Tryz.prog 128 [tDk d] [] (tWII ((bi d).getD []) 0 (if (bi d).isSome = true then 0 else 4)) := by
  have hdf := hD.f
  have hl := th_len hD
  have ht := topN_le (nmsOf d)
  have hnl : (nmsOf d).length = d.files.length := List.length_map ..
  have hnn : ∀ x ∈ nmsOf d, x.size ≤ 1000000 := fun x hx => by
    obtain ⟨f, h1, rfl⟩ := List.mem_map.1 hx
    exact hD.nm f h1
  have hR := room_ok (nmsOf d) (by omega) hnn
  have hC := topI_ok (nmsOf d) (by omega) hnn
  unfold bi
  generalize topN (nmsOf d) = t at *
  have gt : IntKind.i64.wrap (t + 1) = t + 1 := wrap64 ⟨by omega, by omega⟩
  refine ACallsF.intro ok128 follows fun X c0 => ?_
  simp only [go_sem]
  refine callC (fnames_ok d (by omega)) rfl rfl rfl rfl ?_
  simp only [go_sem]
  refine callC hR rfl rfl rfl rfl ?_
  by_cases k1 : t < 999999
  rotate_left
  · rw [if_neg fun h => by omega]
    simp only [go_sem, k1]
    rfl
  by_cases k3 : ((nmsOf d).length : Int) ≤ 62
  rotate_left
  · rw [if_neg fun h => by omega]
    simp only [go_sem, k1, k3]
    rfl
  rw [if_pos ⟨by omega, by omega⟩]
  simp only [go_sem, k1, k3]
  refine callC hC rfl rfl rfl rfl ?_
  simp only [go_sem, gt]
  refine callC (thI_ok d hD) rfl rfl rfl rfl ?_
  simp only [go_sem]
  refine AW.reify 16 0 2016 3 89 rfl rfl rfl (by decide) ?_
  refine AW.upto (th d).length (inv128 d (t + 1)) ⟨rfl, rfl, rfl, rfl, _, _, rfl, rfl, rfl⟩ fun i t' H c hi h => ?_
  obtain ⟨e7, e21, e22, e23, u, v, e6, eH, eA⟩ := h
  simp only [T.c, T.i, tL] at e7 e21 e22 e23 e6 eH eA
  have hlen : (goneL ((th d).take i)).length = i := by rw [goneL_len, List.length_take]; omega
  by_cases hlt : i < (th d).length
  · obtain ⟨x, hx⟩ : ∃ x, (th d)[i]? = some x := ⟨_, List.getElem?_eq_getElem hlt⟩
    have ex := en_at eS hx
    have gx : (0 : Int) ≤ i := by omega
    have k5 : (i : Int) < (th d).length := by omega
    have gw : IntKind.i64.wrap ((i : Int) + 1) = ((i + 1 : Nat) : Int) := wrap64 (x := (i : Int) + 1) ⟨by omega, by omega⟩
    simp only [go_sem, e7, e21, e22, e23, k5, gx, ex, eS, e6]
    refine callWc (m0 := 16) (m1 := 2016) (add_ok (goneL ((th d).take i)) (by omega) 4 x e0 16 2016 _ _) rfl (by simp only [go_sem, e6]; rfl) rfl rfl (by decide) (by exact eH) (by simp) (by exact eA) ⟨?_, ?_⟩
    · simp only [go_sem]
    simp only [go_sem, e7, e21, e22, e23, e6, gw]
    unfold inv128
    rw [goneL_snoc hx]
    exact ⟨hlt, e7, e21, e22, rfl, _, _, e6, by rw [List.length_append]; rfl, rfl⟩
  · have hi2 : i = (th d).length := by omega
    subst hi2
    have k5 : ¬ ((th d).length : Int) < (th d).length := by omega
    rw [List.take_length] at eH eA hlen
    have hpl : okPl ⟨[], t + 1, 1⟩ := ⟨by simp, fun x hx => (by cases hx), ⟨by simp only; omega, by simp only; omega⟩, ⟨by simp only; omega, by simp only; omega⟩⟩
    simp only [go_sem, e7, e21, e22, e23, k5, e6]
    refine callC (seg_ok _ ⟨by omega, by omega⟩) rfl rfl rfl rfl ?_
    simp only [go_sem]
    refine callWc (m0 := 16) (m1 := 2016) (add_ok (goneL (th d)) (by omega) 1 (seg (t + 1)) e0 16 2016 _ _) rfl (by simp only [go_sem, e6]; rfl) rfl rfl (by decide) (by exact eH) (by simp) (by exact eA) ⟨?_, ?_⟩
    · simp only [go_sem]
    simp only [go_sem, e6, e7]
    refine callWl (m0 := 16) (m1 := 2016) (lw := []) (ns := []) (plan_ok (goneL (th d) ++ [⟨1, seg (t + 1), e0⟩]) (by rw [List.length_append, List.length_singleton]; omega) (t + 1) ⟨by omega, by omega⟩ ⟨[], t + 1, 1⟩ hpl 16 2016 _ _) rfl (by simp only [go_sem, e6, e7]; rfl) ?_ rfl rfl (by decide) rfl (by simp) rfl ⟨?_, ?_⟩
    · simp only [go_sem, lendTs, lendT]
      rfl
    · simp only [go_sem]
    have htg : List.take ((goneL (th d)).length + 5) (en eW (goneL (th d) ++ (⟨1, seg (t + 1), e0⟩ :: plL (t + 1) (planT ⟨[], t + 1, 1⟩)))) = en eW (goneL (th d) ++ (⟨1, seg (t + 1), e0⟩ :: plL (t + 1) (planT ⟨[], t + 1, 1⟩))) := List.take_of_length_le (by rw [en_len, List.length_append]; exact Nat.le_refl _)
    simp only [go_sem, e6, List.append_assoc, htg, Option.isSome_some]
end Go.V
set_option linter.unusedSimpArgs false
set_option maxRecDepth 20000
namespace Go.V
open Go.Proofs
/-! A log is mended. -/
/-- The files that are the log's. -/
def ours (s : Ls) : List ByteArray := pln s.num :: seg s.plan.opn :: s.plan.parts.map fun p => seg p.num
theorem ours_len (s : Ls) : (ours s).length = s.plan.parts.length + 2 := by simp [ours]
def notOurs (s : Ls) (ns : List ByteArray) : List ByteArray := ns.filter fun x => !has (ours s) x
def areOurs (s : Ls) (ns : List ByteArray) : List ByteArray := ns.filter fun x => has (ours s) x
theorem notOurs_snoc {s : Ls} {ns : List ByteArray} {i : Nat} {x : ByteArray} (h : ns[i]? = some x) : notOurs s (ns.take (i + 1)) = if has (ours s) x = true then notOurs s (ns.take i) else notOurs s (ns.take i) ++ [x] := by
  rw [notOurs, take_snoc h, List.filter_append, notOurs]
  cases hx : has (ours s) x <;> simp [hx]
theorem areOurs_snoc {s : Ls} {ns : List ByteArray} {i : Nat} {x : ByteArray} (h : ns[i]? = some x) : areOurs s (ns.take (i + 1)) = if has (ours s) x = true then areOurs s (ns.take i) ++ [x] else areOurs s (ns.take i) := by
  rw [areOurs, take_snoc h, List.filter_append, areOurs]
  cases hx : has (ours s) x <;> simp [hx]
theorem notOurs_len (s : Ls) (ns : List ByteArray) : (notOurs s ns).length ≤ ns.length := List.length_filter_le _ _
theorem areOurs_len (s : Ls) (ns : List ByteArray) : (areOurs s ns).length ≤ ns.length := List.length_filter_le _ _
def mdL (s : Ls) (ns : List ByteArray) : List DW := ⟨3, seg s.plan.opn, e0⟩ :: goneL (notOurs s ns)
def md (d : Dk) (s : Ls) : Option (List DW) := if s.torn = true then (cl (ours s).length (topN (ours s)) s).map ((mdL s (th d) ++ [⟨5, e0, e0⟩]) ++ ·) else some (mdL s (th d) ++ [⟨5, e0, e0⟩])
theorem mdL_len (s : Ls) (ns : List ByteArray) : (mdL s ns).length ≤ ns.length + 1 := by
  have := notOurs_len s ns
  rw [mdL, List.length_cons, goneL_len]; omega
theorem th_nodup {d : Dk} (hD : DOk d) : (th d).Nodup := by
  have h := nmI_aft (made_nodup hD.l fun i f hf => ⟨(hD.files i f hf).made, (hD.files i f hf).one⟩) d.moves.length (Nat.le_refl _)
  rw [List.take_length, List.drop_length] at h
  have h2 := h.2
  simp only [mades, List.filter_nil, List.map_nil, List.append_nil] at h2
  exact h2
theorem sub_len {α : Type} : ∀ (l m : List α), l.Nodup → (∀ x ∈ l, x ∈ m) → l.length ≤ m.length
  | [], m, _, _ => Nat.zero_le _
  | x :: l, m, hn, hs => by
    obtain ⟨h1, h2⟩ := List.nodup_cons.1 hn
    obtain ⟨a, b, rfl⟩ := List.append_of_mem (hs x (by simp))
    have := sub_len l (a ++ b) h2 fun y hy => by
      have hm := hs y (by simp [hy])
      rcases List.mem_append.1 hm with h | h
      · exact List.mem_append.2 (.inl h)
      · rcases List.mem_cons.1 h with h | h
        · subst h; exact absurd hy h1
        · exact List.mem_append.2 (.inr h)
    simp only [List.length_append, List.length_cons] at this ⊢
    omega
/-- What is kept is just what is the log's. -/
theorem keep_same {d : Dk} (hD : DOk d) {s : Ls} (hg : Gs s) (ho : ∀ x ∈ ours s, x ∈ th d) :
    nmsOf (keepD d (areOurs s (th d))) = areOurs s (th d) ∧ topN (areOurs s (th d)) = topN (ours s) ∧ cl (keepD d (areOurs s (th d))).files.length (topN (nmsOf (keepD d (areOurs s (th d))))) s = cl (ours s).length (topN (ours s)) s := by
  obtain ⟨h5, h6, h7, h8, h9⟩ := planOk_ok hg.plan
  have hm : ∀ x, x ∈ areOurs s (th d) ↔ x ∈ ours s := fun x => by
    rw [areOurs, List.mem_filter, has_true]
    exact ⟨fun h => h.2, fun h => ⟨ho x h, h⟩⟩
  have e1 : nmsOf (keepD d (areOurs s (th d))) = areOurs s (th d) := by
    rw [nmsOf, keepD, List.map_map]
    refine (List.map_congr_left fun x hx => ?_).trans (List.map_id _)
    obtain ⟨i, k1, k2, k3⟩ := lk_file hD ((List.mem_filter.1 hx).1)
    exact k3
  have e2 : topN (areOurs s (th d)) = topN (ours s) := Int.le_antisymm (topN_mono fun x hx => (hm x).1 hx) (topN_mono fun x hx => (hm x).2 hx)
  have hl1 : (areOurs s (th d)).length ≤ (ours s).length := sub_len _ _ ((th_nodup hD).filter _) fun x hx => (hm x).1 hx
  have hl2 := ours_len s
  refine ⟨e1, e2, ?_⟩
  rw [e1, e2]
  have hk : (keepD d (areOurs s (th d))).files.length = (areOurs s (th d)).length := List.length_map ..
  unfold cl
  rw [hk]
  have c1 : (areOurs s (th d)).length ≤ 62 := by omega
  have c2 : (ours s).length ≤ 62 := by omega
  simp only [c1, c2, true_and]
theorem ours_ge {s : Ls} (hg : Gs s) : Ge s (topN (ours s)) := by
  obtain ⟨h5, h6, h7, h8, h9⟩ := planOk_ok hg.plan
  refine ⟨?_, fun p hp => ?_⟩
  · have := topN_ge (ns := ours s) (nm := seg s.plan.opn) (by simp [ours])
    rw [vN_seg h7] at this
    exact this
  · have := topN_ge (ns := ours s) (nm := seg p.num) (by simp only [ours, List.mem_cons, List.mem_map]; exact .inr (.inr ⟨p, hp, rfl⟩))
    rw [vN_seg (h6 p hp).num] at this
    exact this
theorem ours_size {s : Ls} (hg : Gs s) : ∀ x ∈ ours s, x.size ≤ 1000000 := fun x hx => by
  obtain ⟨h5, h6, h7, h8, h9⟩ := planOk_ok hg.plan
  have hh : ∀ (c : UInt8) (n : Int), 0 ≤ n ∧ n ≤ 1000000 → ((⟨#[c]⟩ : ByteArray) ++ dc n).size ≤ 1000000 := fun c n hn => by
    have h1 := dc_le7 n hn
    have h2 : (⟨#[c]⟩ : ByteArray).size = 1 := rfl
    rw [ByteArray.size_append, h2]; omega
  have hnum := hg.num
  simp only [ours, List.mem_cons, List.mem_map] at hx
  rcases hx with rfl | rfl | ⟨p, hp, rfl⟩
  · exact hh _ _ ⟨by omega, by omega⟩
  · exact hh _ _ ⟨by omega, by omega⟩
  · have := (h6 p hp).num
    exact hh _ _ ⟨by omega, by omega⟩
def ok126 := okF.gu (P := Tryz.prog) tab Tryz.func126 Tryz.ntmps126 (by conv => lhs; cbv) (by kernel_rfl)
def inv126 (s : Ls) (nm : ByteArray) (i : Nat) (σ : St) : Prop := (∀ (j : Nat) (p : LP), j < i → s.plan.parts[j]? = some p → seg p.num ≠ nm) ∧ (∃ u, σ.t 2 = .c (.ptr 2 u 0) ∧ σ.H 2 = some (.var u 41 (cLs s))) ∧ σ.t 1 = tS nm ∧ σ.t 5 = .i i
set_option maxHeartbeats 2000000 in
theorem ours_ok (s : Ls) (hg : Gs s) (nm : ByteArray) : ACallsF Tryz.prog 126 [tLs s, tS nm] [] (.b (has (ours s) nm)) := by
  obtain ⟨h5, h6, h7, h8, h9⟩ := planOk_ok hg.plan
  have hnum := hg.num
  have f1 := fits1 109 s.num ⟨by omega, by omega⟩
  have f2 := fits1 115 s.plan.opn ⟨by omega, by omega⟩
  have a1 : (⟨#[109]⟩ : ByteArray) ++ dc s.num = pln s.num := rfl
  have a2 : (⟨#[115]⟩ : ByteArray) ++ dc s.plan.opn = seg s.plan.opn := rfl
  refine ACallsF.intro ok126 follows fun X c0 => ?_
  simp only [go_sem]
  refine callC (decI s.num ⟨by omega, by omega⟩) rfl rfl rfl rfl ?_
  by_cases k1 : nm = pln s.num
  · have e : has (ours s) nm = true := has_true.2 (by simp [ours, k1])
    rw [e]
    simp only [go_sem, sStr, f1, a1, str_beq, k1, decide_true]
  simp only [go_sem, sStr, f1, a1, str_beq, k1]
  refine callC (decI s.plan.opn ⟨by omega, by omega⟩) rfl rfl rfl rfl ?_
  by_cases k2 : nm = seg s.plan.opn
  · have e : has (ours s) nm = true := has_true.2 (by simp [ours, k2])
    rw [e]
    simp only [go_sem, sStr, f2, a2, str_beq, k2, decide_true]
  simp only [go_sem, sStr, f2, a2, str_beq, k2]
  refine AW.upto s.plan.parts.length (inv126 s nm) ⟨fun j p hj => absurd hj (Nat.not_lt_zero j), ⟨_, rfl, rfl⟩, rfl, rfl⟩ fun i t H c hi h => ?_
  obtain ⟨g, ⟨u2, e2, eH2⟩, e1, e5⟩ := h
  simp only [T.c, T.i, T.s] at e2 eH2 e1 e5
  by_cases hlt : i < s.plan.parts.length
  · obtain ⟨p, hp⟩ : ∃ p, s.plan.parts[i]? = some p := ⟨_, List.getElem?_eq_getElem hlt⟩
    have ep := en_at eP hp
    have gx : (0 : Int) ≤ i := by omega
    have k5 : (i : Int) < s.plan.parts.length := by omega
    have gw : IntKind.i64.wrap ((i : Int) + 1) = ((i + 1 : Nat) : Int) := wrap64 (x := (i : Int) + 1) ⟨by omega, by omega⟩
    have hpn := (h6 p (List.mem_of_getElem? hp)).num
    have f3 := fits1 115 p.num ⟨by omega, by omega⟩
    have a3 : (⟨#[115]⟩ : ByteArray) ++ dc p.num = seg p.num := rfl
    simp only [go_sem, e2, eH2, e1, e5, k5, gx, ep, eP]
    refine callC (decI p.num ⟨by omega, by omega⟩) rfl rfl rfl rfl ?_
    by_cases k3 : nm = seg p.num
    · have e : has (ours s) nm = true := has_true.2 (by simp only [ours, List.mem_cons, List.mem_map]; exact .inr (.inr ⟨p, List.mem_of_getElem? hp, k3.symm⟩))
      rw [e]
      simp only [go_sem, sStr, f3, a3, str_beq, k3, decide_true, e1]
    · simp only [go_sem, sStr, f3, a3, str_beq, k3, e1, e5, gw]
      exact ⟨hlt, fun j q hj hq => (by rcases Nat.lt_succ_iff_lt_or_eq.1 hj with hj | rfl; exact g j q hj hq; rw [hp] at hq; cases hq; exact fun e => k3 e.symm), ⟨u2, e2, eH2⟩, e1, rfl⟩
  · have hi2 : i = s.plan.parts.length := by omega
    subst hi2
    have k5 : ¬ (s.plan.parts.length : Int) < s.plan.parts.length := by omega
    have e : has (ours s) nm = false := has_false.2 fun hm => by
      simp only [ours, List.mem_cons, List.mem_map] at hm
      rcases hm with h | h | ⟨p, hp, h⟩
      · exact k1 h
      · exact k2 h
      · obtain ⟨j, hj⟩ := List.mem_iff_getElem?.1 hp
        exact g j p (List.getElem?_eq_some_iff.1 hj).1 hj h
    rw [e]
    simp only [go_sem, e2, eH2, e1, e5, k5]
def ok94 := okF.gu (P := Tryz.prog) tab Tryz.func94 Tryz.ntmps94 (by conv => lhs; cbv) (by kernel_rfl)
def inv94 (d : Dk) (s : Ls) (i : Nat) (σ : St) : Prop := (∃ u, σ.t 2 = .c (.ptr 2 u 0) ∧ σ.H 2 = some (.var u 29 (cDk d))) ∧ (∃ u, σ.t 3 = .c (.ptr 3 u 0) ∧ σ.H 3 = some (.var u 41 (cLs s))) ∧ σ.t 7 = tL (en eS (th d)) ∧ σ.t 9 = .i i ∧
  (∃ v, σ.t 6 = .c (.own 18 v (mdL s ((th d).take i)).length) ∧ σ.H 18 = some (.arr v true 3 89 (en eW (mdL s ((th d).take i))))) ∧ ∃ v, σ.t 8 = .c (.own 21 v (areOurs s ((th d).take i)).length) ∧ σ.H 21 = some (.arr v true 1 9 (en eS (areOurs s ((th d).take i))))
set_option maxHeartbeats 4000000 in
set_option maxRecDepth 20000 in
theorem mendS_ok (d : Dk) (hD : DOk d) (s : Ls) (hg : Gs s) (ho : ∀ x ∈ ours s, x ∈ th d) : ACallsF Tryz.prog 94 [tDk d, tLs s] [] (tWo (md d s)) := by
  obtain ⟨h5, h6, h7, h8, h9⟩ := planOk_ok hg.plan
  have hl := th_len hD
  have f1 := fits1 115 s.plan.opn ⟨by omega, by omega⟩
  have a1 : (⟨#[115]⟩ : ByteArray) ++ dc s.plan.opn = seg s.plan.opn := rfl
  refine ACallsF.intro ok94 follows fun X c0 => ?_
  simp only [go_sem]
  refine callC (decI s.plan.opn ⟨by omega, by omega⟩) rfl rfl rfl rfl ?_
  simp only [go_sem, sStr, f1, a1]
  refine callC (thS_ok d hD) rfl rfl rfl rfl ?_
  simp only [go_sem]
  refine AW.upto (th d).length (inv94 d s) ⟨⟨_, rfl, rfl⟩, ⟨_, rfl, rfl⟩, rfl, rfl, ⟨_, rfl, rfl⟩, _, rfl, rfl⟩ fun i t H c hi h => ?_
  obtain ⟨⟨u2, e2, eH2⟩, ⟨u3, e3, eH3⟩, e7, e9, ⟨v6, e6, eA⟩, v8, e8, eB⟩ := h
  simp only [T.c, T.i, tL] at e2 eH2 e3 eH3 e7 e9 e6 eA e8 eB
  have tA := en_take eW (mdL s ((th d).take i))
  have tB := en_take eS (areOurs s ((th d).take i))
  have lA := mdL_len s ((th d).take i)
  have lB := areOurs_len s ((th d).take i)
  rw [List.length_take] at lA lB
  by_cases hlt : i < (th d).length
  · obtain ⟨x, hx⟩ : ∃ x, (th d)[i]? = some x := ⟨_, List.getElem?_eq_getElem hlt⟩
    have ex := en_at eS hx
    have gx : (0 : Int) ≤ i := by omega
    have k5 : (i : Int) < (th d).length := by omega
    have gw : IntKind.i64.wrap ((i : Int) + 1) = ((i + 1 : Nat) : Int) := wrap64 (x := (i : Int) + 1) ⟨by omega, by omega⟩
    have qA1 : ((mdL s ((th d).take i)).length + 1) * 40 ≤ 140737488355328 := by omega
    have qA2 : (mdL s ((th d).take i)).length + 1 ≤ 9223372036854775807 := by omega
    have qB1 : ((areOurs s ((th d).take i)).length + 1) * 16 ≤ 140737488355328 := by omega
    have qB2 : (areOurs s ((th d).take i)).length + 1 ≤ 9223372036854775807 := by omega
    have hO := ours_ok s hg x
    have hn := notOurs_snoc (s := s) hx
    have ha := areOurs_snoc (s := s) hx
    simp only [go_sem, e2, eH2, e3, eH3, e7, e9, k5, gx, ex, eS]
    refine callC hO rfl rfl rfl rfl ?_
    cases hb : has (ours s) x with
    | true =>
      rw [if_pos hb] at hn ha
      have hm : mdL s ((th d).take (i + 1)) = mdL s ((th d).take i) := by rw [mdL, hn]; rfl
      simp only [go_sem, e7, e9, gx, ex, eS, e8, eB, tB, qB1, qB2, gw]
      unfold inv94
      rw [hm, ha, List.length_append, en_snoc]
      exact ⟨hlt, ⟨u2, e2, eH2⟩, ⟨u3, e3, eH3⟩, e7, rfl, ⟨v6, e6, eA⟩, _, rfl, rfl⟩
    | false =>
      rw [if_neg (by rw [hb]; decide)] at hn ha
      have hm : mdL s ((th d).take (i + 1)) = mdL s ((th d).take i) ++ [⟨4, x, e0⟩] := by rw [mdL, hn, goneL, List.map_append]; rfl
      simp only [go_sem, e7, e9, gx, ex, eS, e6, eA, tA, qA1, qA2, gw]
      unfold inv94
      rw [hm, ha, List.length_append, en_snoc]
      exact ⟨hlt, ⟨u2, e2, eH2⟩, ⟨u3, e3, eH3⟩, e7, rfl, ⟨_, rfl, rfl⟩, v8, e8, eB⟩
  · have hi2 : i = (th d).length := by omega
    subst hi2
    have k5 : ¬ ((th d).length : Int) < (th d).length := by omega
    rw [List.take_length] at e6 eA e8 eB tA tB lA lB
    have qA1 : ((mdL s (th d)).length + 1) * 40 ≤ 140737488355328 := by omega
    have qA2 : (mdL s (th d)).length + 1 ≤ 9223372036854775807 := by omega
    have he2 : en eW (mdL s (th d) ++ [⟨5, e0, e0⟩]) = en eW (mdL s (th d)) ++ [[.s (.int .i64 5), .s (.string ⟨#[]⟩), .s (.string ⟨#[]⟩)]] := en_snoc eW _ _
    have ht2 : List.take ((mdL s (th d)).length + 1) (en eW (mdL s (th d)) ++ [[.s (.int .i64 5), .s (.string ⟨#[]⟩), .s (.string ⟨#[]⟩)]]) = en eW (mdL s (th d)) ++ [[.s (.int .i64 5), .s (.string ⟨#[]⟩), .s (.string ⟨#[]⟩)]] := List.take_of_length_le (by rw [List.length_append, en_len]; exact Nat.le_refl _)
    obtain ⟨w1, w2, w3⟩ := keep_same hD hg ho
    cases hto : s.torn with
    | false =>
      have e : md d s = some (mdL s (th d) ++ [⟨5, e0, e0⟩]) := if_neg (by rw [hto]; decide)
      rw [e]
      simp only [go_sem, e7, e9, k5, e6, eA, tA, qA1, qA2, e3, eH3, hto, he2, ht2, Option.isSome_some]
    | true =>
      have hKp := keep_ok d hD.fine hD (areOurs s (th d)) (by omega) (fun x hx => DOk.aft_made (n := d.moves.length) (by rw [List.take_length]; exact (List.mem_filter.1 hx).1))
      have hkl : (keepD d (areOurs s (th d))).files.length = (areOurs s (th d)).length := List.length_map ..
      have hK := closeS_ok (keepD d (areOurs s (th d))) (by omega) (fun f hf => (by
        obtain ⟨x, hx, rfl⟩ := List.mem_map.1 hf
        obtain ⟨i, k1, k2, k3⟩ := lk_file hD ((List.mem_filter.1 hx).1)
        have := th_size hD ((List.mem_filter.1 hx).1)
        rw [k3]; omega)) s hg (by rw [w1, w2]; exact ours_ge hg)
      rw [w3] at hK
      have e : md d s = (cl (ours s).length (topN (ours s)) s).map ((mdL s (th d) ++ [⟨5, e0, e0⟩]) ++ ·) := if_pos hto
      rw [e]
      simp only [go_sem, e7, e9, k5, e6, eA, tA, qA1, qA2, e3, eH3, hto, e2, eH2, e8, eB]
      refine callL (ws := [(21, .arr v8 false 1 9 (en eS (areOurs s (th d))))]) (ns := [21]) hKp rfl ?_ rfl rfl ⟨?_, ?_⟩
      · simp only [go_sem, lendTs, lendT, eB, tB]
      · simp only [go_sem, scalarT, scalarP, scalarC, List.all_cons, Bool.false_and]
      simp only [go_sem, scalarT, scalarP, scalarC, List.all_cons, Bool.false_and, e3, eH3]
      refine callC hK rfl rfl rfl rfl ?_
      cases hcl : cl (ours s).length (topN (ours s)) s with
      | none =>
        have n4 : ((4 : Int) != 0) = true := rfl
        simp only [go_sem, Option.isSome_none, n4]
      | some l =>
        have hl8 : l.length ≤ 8 := by
          unfold cl at hcl
          split at hcl
          · cases hcl; simp
          · cases hcl
        have q5 : ((mdL s (th d)).length + 1 + l.length) * 40 ≤ 140737488355328 := by omega
        have q6 : (mdL s (th d)).length + 1 + l.length ≤ 9223372036854775807 := by omega
        have he3 : en eW (mdL s (th d) ++ [⟨5, e0, e0⟩] ++ l) = en eW (mdL s (th d)) ++ [[.s (.int .i64 5), .s (.string ⟨#[]⟩), .s (.string ⟨#[]⟩)]] ++ en eW l := by simp only [en, List.map_append]; rfl
        have ht3 : List.take ((mdL s (th d)).length + 1 + l.length) (en eW (mdL s (th d)) ++ [[.s (.int .i64 5), .s (.string ⟨#[]⟩), .s (.string ⟨#[]⟩)]] ++ en eW l) = en eW (mdL s (th d)) ++ [[.s (.int .i64 5), .s (.string ⟨#[]⟩), .s (.string ⟨#[]⟩)]] ++ en eW l := List.take_of_length_le (by rw [List.length_append, List.length_append, en_len, en_len]; exact Nat.le_refl _)
        have n0 : ((0 : Int) != 0) = false := rfl
        simp only [go_sem, n0, e6, he3, ht2, ht3, q5, q6, en_len, Option.isSome_some]
end Go.V
set_option linter.unusedSimpArgs false
set_option maxRecDepth 20000
namespace Go.V
open Go.Proofs
/-! A log is mended by the program. -/
theorem ours_take (s : Ls) (i : Nat) {p : LP} (h : s.plan.parts[i]? = some p) : (ours s).take (i + 1 + 2) = (ours s).take (i + 2) ++ [seg p.num] := by
  refine take_snoc ?_
  show (s.plan.parts.map fun p => seg p.num)[i]? = _
  rw [List.getElem?_map, h]; rfl
def Hd129 (d : Dk) (s : Ls) (σ : St) : Prop := (∃ u, σ.t 2 = .c (.ptr 2 u 0) ∧ σ.H 2 = some (.var u 29 (cDk d))) ∧ (∃ u, σ.t 3 = .c (.ptr 3 u 0) ∧ σ.H 3 = some (.var u 41 (cLs s)))
def ok129 := okF.gu (P := Tryz.prog) tab Tryz.func129 Tryz.ntmps129 (by conv => lhs; cbv) (by kernel_rfl)
def inv129 (d : Dk) (s : Ls) (i : Nat) (σ : St) : Prop := Hd129 d s σ ∧ σ.t 25 = tL (en eP s.plan.parts) ∧ σ.t 26 = .i s.plan.parts.length ∧ σ.t 27 = .i i ∧
  (∃ u v, σ.t 7 = .c (.ptr 14 u 0) ∧ σ.H 14 = some (.var u 170 [.own 2014 v 0]) ∧ σ.H 2014 = some (.arr v true 3 89 [])) ∧ ∃ v, σ.t 8 = .c (.own 22 v (i + 2)) ∧ σ.H 22 = some (.arr v true 1 9 (en eS ((ours s).take (i + 2))))
def inv129b (d : Dk) (s : Ls) (i : Nat) (σ : St) : Prop := Hd129 d s σ ∧ σ.t 45 = tL (en eS (th d)) ∧ σ.t 46 = .i (th d).length ∧ σ.t 47 = .i i ∧
  (∃ u v, σ.t 7 = .c (.ptr 14 u 0) ∧ σ.H 14 = some (.var u 170 [.own 2014 v (mdL s ((th d).take i)).length]) ∧ σ.H 2014 = some (.arr v true 3 89 (en eW (mdL s ((th d).take i))))) ∧ ∃ v, σ.t 8 = .c (.own 22 v (ours s).length) ∧ σ.H 22 = some (.arr v true 1 9 (en eS (ours s)))
set_option maxHeartbeats 4000000 in
set_option maxRecDepth 20000 in
theorem mendI_ok (d : Dk) (hD : DOk d) (s : Ls) (hg : Gs s) : ACallsF Tryz.prog 129 [tDk d, tLs s] [] (tWII ((md d s).getD []) 0 (if (md d s).isSome = true then 0 else 4)) := by
  obtain ⟨h5, h6, h7, h8, h9⟩ := planOk_ok hg.plan
  have hl := th_len hD
  have hnum := hg.num
  have hol := ours_len s
  generalize hR : tWII ((md d s).getD []) 0 (if (md d s).isSome = true then 0 else 4) = R
  refine ACallsF.intro ok129 follows fun X c0 => ?_
  simp only [go_sem]
  refine callC (pln_ok s.num ⟨by omega, by omega⟩) rfl rfl rfl rfl ?_
  simp only [go_sem]
  refine callC (seg_ok s.plan.opn ⟨by omega, by omega⟩) rfl rfl rfl rfl ?_
  simp only [go_sem]
  refine AW.reify 14 0 2014 3 89 rfl rfl rfl (by decide) ?_
  refine AW.upto s.plan.parts.length (inv129 d s) ⟨⟨⟨_, rfl, rfl⟩, ⟨_, rfl, rfl⟩⟩, rfl, rfl, rfl, ⟨_, _, rfl, rfl, rfl⟩, _, rfl, rfl⟩ fun i t H c hi h => ?_
  obtain ⟨⟨⟨u2, e2, eH2⟩, u3, e3, eH3⟩, e25, e26, e27, ⟨u7, v7, e7, eW7, eA⟩, v8, e8, eB⟩ := h
  simp only [T.c, T.i, tL] at e2 eH2 e3 eH3 e25 e26 e27 e7 eW7 eA e8 eB
  have hlen : (en eS ((ours s).take (i + 2))).length = i + 2 := by rw [en_len, List.length_take]; omega
  have tB : List.take (i + 2) (en eS ((ours s).take (i + 2))) = en eS ((ours s).take (i + 2)) := List.take_of_length_le (by rw [hlen]; exact Nat.le_refl _)
  by_cases hlt : i < s.plan.parts.length
  · obtain ⟨p, hp⟩ : ∃ p, s.plan.parts[i]? = some p := ⟨_, List.getElem?_eq_getElem hlt⟩
    have ep := en_at eP hp
    have gx : (0 : Int) ≤ i := by omega
    have k5 : (i : Int) < s.plan.parts.length := by omega
    have gw : IntKind.i64.wrap ((i : Int) + 1) = ((i + 1 : Nat) : Int) := wrap64 (x := (i : Int) + 1) ⟨by omega, by omega⟩
    have hpn := (h6 p (List.mem_of_getElem? hp)).num
    have q1 : (i + 2 + 1) * 16 ≤ 140737488355328 := by omega
    have q2 : i + 2 + 1 ≤ 9223372036854775807 := by omega
    simp only [go_sem, e25, e26, e27, k5, gx, ep, eP]
    refine callC (seg_ok p.num ⟨by omega, by omega⟩) rfl rfl rfl rfl ?_
    simp only [go_sem, e8, eB, tB, hlen, q1, q2, e27, gw]
    unfold inv129
    rw [ours_take s i hp, en_snoc, show i + 1 + 2 = i + 2 + 1 from by omega]
    exact ⟨hlt, ⟨⟨u2, e2, eH2⟩, u3, e3, eH3⟩, e25, e26, rfl, ⟨u7, v7, e7, eW7, eA⟩, _, rfl, rfl⟩
  · have hi2 : i = s.plan.parts.length := by omega
    subst hi2
    have k5 : ¬ (s.plan.parts.length : Int) < s.plan.parts.length := by omega
    rw [← hol, List.take_length] at eB tB hlen
    rw [← hol] at e8
    simp only [go_sem, e25, e26, e27, k5, e7, e3, eH3]
    refine callC (seg_ok s.plan.opn ⟨by omega, by omega⟩) rfl rfl rfl rfl ?_
    simp only [go_sem]
    refine callWc (m0 := 14) (m1 := 2014) (add_ok [] (by simp) 3 (seg s.plan.opn) e0 14 2014 _ _) rfl (by simp only [go_sem, e7]; rfl) rfl rfl (by decide) (by exact eW7) (by simp) (by exact eA) ⟨?_, ?_⟩
    · simp only [go_sem]
    simp only [go_sem, e2, eH2]
    refine callC (thI_ok d hD) rfl rfl rfl rfl ?_
    simp only [go_sem]
    refine AW.upto (th d).length (inv129b d s) ⟨⟨⟨u2, e2, eH2⟩, u3, e3, eH3⟩, rfl, rfl, rfl, ⟨u7, _, e7, rfl, rfl⟩, v8, e8, eB⟩ fun i t H c hi h => ?_
    clear e2 eH2 e3 eH3 e25 e26 e27 e7 eW7 eA e8 eB u2 u3 u7 v7 v8
    obtain ⟨⟨⟨u2, e2, eH2⟩, u3, e3, eH3⟩, e45, e46, e47, ⟨u7, v7, e7, eW7, eA⟩, v8, e8, eB⟩ := h
    simp only [T.c, T.i, tL] at e2 eH2 e3 eH3 e45 e46 e47 e7 eW7 eA e8 eB
    have lA := mdL_len s ((th d).take i)
    rw [List.length_take] at lA
    have hle : (ours s).length ≤ (en eS (ours s)).length := by rw [en_len]; exact Nat.le_refl _
    have tO := en_take eS (ours s)
    by_cases hlt : i < (th d).length
    · obtain ⟨x, hx⟩ : ∃ x, (th d)[i]? = some x := ⟨_, List.getElem?_eq_getElem hlt⟩
      have ex := en_at eS hx
      have gx : (0 : Int) ≤ i := by omega
      have k5 : (i : Int) < (th d).length := by omega
      have gw : IntKind.i64.wrap ((i : Int) + 1) = ((i + 1 : Nat) : Int) := wrap64 (x := (i : Int) + 1) ⟨by omega, by omega⟩
      have hn := notOurs_snoc (s := s) hx
      simp only [go_sem, e45, e46, e47, k5, gx, ex, eS, e8]
      refine callL (ws := [(22, .arr v8 false 1 9 (en eS (ours s)))]) (ns := [22]) (contains_ok (ours s) x (by omega)) rfl ?_ rfl rfl ⟨?_, ?_⟩
      · simp only [go_sem, lendTs, lendT, eB, tO, en_len]
      · simp only [go_sem, scalarT, scalarP, scalarC]
      cases hb : has (ours s) x with
      | true =>
        rw [if_pos hb] at hn
        simp only [go_sem, scalarT, scalarP, scalarC, e47, gw]
        have hm : mdL s ((th d).take (i + 1)) = mdL s ((th d).take i) := by rw [mdL, hn]; rfl
        unfold inv129b
        rw [hm]
        exact ⟨hlt, ⟨⟨u2, e2, eH2⟩, u3, e3, eH3⟩, e45, e46, rfl, ⟨u7, v7, e7, eW7, eA⟩, v8, e8, eB⟩
      | false =>
        rw [if_neg (by rw [hb]; decide)] at hn
        have hm : mdL s ((th d).take (i + 1)) = mdL s ((th d).take i) ++ [⟨4, x, e0⟩] := by rw [mdL, hn, goneL, List.map_append]; rfl
        simp only [go_sem, scalarT, scalarP, scalarC, e7]
        refine callWc (m0 := 14) (m1 := 2014) (add_ok (mdL s ((th d).take i)) (by omega) 4 x e0 14 2014 _ _) rfl (by simp only [go_sem, e7]; rfl) rfl rfl (by decide) (by exact eW7) (by simp) (by exact eA) ⟨?_, ?_⟩
        · simp only [go_sem]
        simp only [go_sem, e47, gw]
        unfold inv129b
        rw [hm, List.length_append]
        exact ⟨hlt, ⟨⟨u2, e2, eH2⟩, u3, e3, eH3⟩, e45, e46, rfl, ⟨u7, _, e7, rfl, rfl⟩, v8, e8, eB⟩
    · have hi2 : i = (th d).length := by omega
      subst hi2
      have k5 : ¬ ((th d).length : Int) < (th d).length := by omega
      have lA := mdL_len s (th d)
      rw [List.take_length] at eW7 eA
      have htl : List.take ((mdL s (th d)).length + 1) (en eW (mdL s (th d) ++ [⟨5, e0, e0⟩])) = en eW (mdL s (th d) ++ [⟨5, e0, e0⟩]) := List.take_of_length_le (by rw [en_len, List.length_append]; exact Nat.le_refl _)
      simp only [go_sem, e45, e46, e47, k5, e7]
      refine callWc (m0 := 14) (m1 := 2014) (add_ok (mdL s (th d)) (by omega) 5 e0 e0 14 2014 _ _) rfl (by simp only [go_sem, e7]; rfl) rfl rfl (by decide) (by exact eW7) (by simp) (by exact eA) ⟨?_, ?_⟩
      · simp only [go_sem]
      cases hto : s.torn with
      | false =>
        have e : md d s = some (mdL s (th d) ++ [⟨5, e0, e0⟩]) := if_neg (by rw [hto]; decide)
        rw [e] at hR
        subst hR
        simp only [go_sem, e3, eH3, hto, e7, htl, Option.isSome_some]
      | true =>
        have e : md d s = (cl (ours s).length (topN (ours s)) s).map ((mdL s (th d) ++ [⟨5, e0, e0⟩]) ++ ·) := if_pos hto
        have hC := closeI_ok (ours s) (by omega) (ours_size hg) s hg (mdL s (th d) ++ [⟨5, e0, e0⟩]) (by rw [List.length_append, List.length_singleton]; omega) 14 2014
        rw [e] at hR
        simp only [go_sem, e3, eH3, hto, e7, e8]
        refine callWl (m0 := 14) (m1 := 2014) (lw := [(22, .arr v8 false 1 9 (en eS (ours s)))]) (ns := [22]) (hC _ _) rfl (by simp only [go_sem, e7]; rfl) ?_ rfl rfl (by decide) rfl (by simp) rfl ⟨?_, ?_⟩
        · simp only [go_sem, lendTs, lendT, eB, tO, en_len]
          rw [← hto]
        · simp only [go_sem]
        cases hcl : cl (ours s).length (topN (ours s)) s with
        | none =>
          rw [hcl] at hR
          subst hR
          simp only [go_sem, Option.isSome_none]
        | some l =>
          rw [hcl] at hR
          subst hR
          have htk : List.take ((mdL s (th d)).length + 1 + l.length) (en eW (mdL s (th d) ++ [⟨5, e0, e0⟩] ++ l)) = en eW (mdL s (th d) ++ [⟨5, e0, e0⟩] ++ l) := List.take_of_length_le (by rw [en_len, List.length_append, List.length_append]; exact Nat.le_refl _)
          simp only [go_sem, e7, htk, Option.isSome_some]
end Go.V
set_option linter.unusedSimpArgs false
set_option maxRecDepth 20000
namespace Go.V
open Go.Proofs
/-! What an act writes. -/
theorem numOf_name {l : UInt8} {s : ByteArray} (h : numOf l s ≠ 0) : s = (⟨#[l]⟩ : ByteArray) ++ dc (numOf l s) := by
  have h0 := numOf_head h
  unfold numOf at h ⊢
  split at h
  · rename_i g
    rw [if_pos g, g.2.2]
    apply ByteArray.ext
    rw [ByteArray.data_append, ByteArray.data_extract]
    apply Array.ext_getElem?
    intro i
    cases i with
    | zero => rw [h0, Array.getElem?_append_left (show 0 < (#[l] : Array UInt8).size from Nat.one_pos)]; rfl
    | succ i =>
      rw [Array.getElem?_append_right (by simp), Array.getElem?_extract]
      simp only [Array.size, List.length_cons, List.length_nil]
      rw [Nat.zero_add, Nat.add_sub_cancel, Nat.add_comm 1 i]
      split
      · rfl
      · rename_i hn
        refine Array.getElem?_eq_none ?_
        have : s.data.size = s.size := rfl
        simp only [Array.size] at this hn ⊢
        omega
  · exact absurd rfl h
/-- The number that was found is that of a plan's name that is there. -/
theorem np_there (d : Dk) : (np d).2 = 0 ∨ pln (np d).2 ∈ th d := by
  have key : ∀ (l : List ByteArray) (st : Pl × Int), (∀ x ∈ l, x ∈ th d) → (st.2 = 0 ∨ pln st.2 ∈ th d) → ((l.foldl (npStep d) st).2 = 0 ∨ pln (l.foldl (npStep d) st).2 ∈ th d) := by
    intro l
    induction l with
    | nil => intro st _ h; exact h
    | cons x l ih =>
      intro st hl h
      refine ih _ (fun y hy => hl y (by simp [hy])) ?_
      unfold npStep
      split
      · rename_i h1
        split
        · simp only
          by_cases h0 : numOf 109 x = 0
          · exact .inl h0
          · refine .inr ?_
            have := numOf_name h0
            have e : pln (numOf 109 x) = x := this.symm
            rw [e]
            exact hl x (by simp)
        · exact h
      · exact h
  exact key _ _ (fun x hx => hx) (.inl rfl)
theorem posRun_le : ∀ (ls : List LR) (lo : Int), posRun lo ls = true → (∀ r ∈ ls, r.pos ≤ 999999) → lo ≤ 1000000 → lo + ls.length ≤ 1000000
  | [], lo, _, _, h => by simpa using h
  | r :: ls, lo, h, hr, hl => by
    rw [posRun, Bool.and_eq_true, decide_eq_true_eq] at h
    have h1 := hr r (by simp)
    have := posRun_le ls (lo + 1) h.2 (fun x hx => hr x (by simp [hx])) (by omega)
    rw [List.length_cons]; omega
theorem prts_there {d : Dk} : ∀ (ps : List LP) {l : List LR}, prts d ps = some l → ∀ p ∈ ps, seg p.num ∈ th d
  | [], _, _, p, hp => by cases hp
  | q :: ps, l, h, p, hp => by
    rw [prts] at h
    split at h
    · cases h
    · rename_i x hx
      cases hq : prts d ps with
      | none => rw [hq] at h; cases h
      | some l2 =>
        rcases List.mem_cons.1 hp with rfl | hp
        · unfold prt lk at hx
          split at hx
          · cases hx
          · rename_i hy
            split at hy
            · rename_i hm; exact has_true.1 hm
            · cases hy
        · exact prts_there ps hq p hp
theorem opn_ok {d : Dk} (hD : DOk d) : ((opn d).code = 0 ∧ Gs (opn d) ∧ 1 ≤ (opn d).next ∧ Ge (opn d) (topN (nmsOf d)) ∧ ∀ x ∈ ours (opn d), x ∈ th d) ∨ opn d = zLs 1 ∨ opn d = zLs 2 := by
  unfold opn
  by_cases k0 : (np d).2 = 0
  · rw [if_pos k0]; exact .inr (.inl rfl)
  rw [if_neg k0]
  obtain ⟨ho, hn1, hn2⟩ : planOk (np d).1 = true ∧ 1 ≤ (np d).2 ∧ (np d).2 ≤ 999999 := by
    rcases np_ok d with ⟨_, h⟩ | h
    · exact absurd h k0
    · exact h
  obtain ⟨hl40, hparts, hopn, hfirst⟩ := planOk_ok ho
  split
  · exact .inr (.inr rfl)
  · rename_i recs hrecs
    split
    · exact .inr (.inr rfl)
    · rename_i x hlk
      split
      · rename_i hrun
        refine .inl ?_
        have hfl := frames_le x
        have hxs := lk_size hD hlk
        have hnx := posRun_le _ _ hrun (fun r hr => (hfl.2.2 r hr).2.1) hfirst.2
        have ht : ∀ y ∈ ours ⟨0, (np d).2, (np d).1, ((frames x).2 : Nat), decide (((frames x).2 : Int) < x.size), (np d).1.first + (frames x).1.length, recs ++ (frames x).1⟩, y ∈ th d := fun y hy => by
          simp only [ours, List.mem_cons, List.mem_map] at hy
          rcases hy with rfl | rfl | ⟨p, hp, rfl⟩
          · rcases np_there d with h | h
            · exact absurd h k0
            · exact h
          · unfold lk at hlk
            split at hlk
            · rename_i hm; exact has_true.1 hm
            · cases hlk
          · exact prts_there _ hrecs p hp
        have hnm : ∀ y ∈ th d, y ∈ nmsOf d := fun y hy => by
          obtain ⟨i, k1, k2, k3⟩ := lk_file hD hy
          exact List.mem_map.2 ⟨_, List.mem_of_getElem? k2, k3⟩
        refine ⟨rfl, ⟨ho, ⟨hn1, hn2⟩, ⟨by simp only; omega, hnx⟩, ⟨by simp only; omega, by simp only; omega⟩⟩, by simp only; omega, ⟨?_, fun p hp => ?_⟩, ht⟩
        · have := topN_ge (hnm _ (ht (seg (np d).1.opn) (by simp [ours])))
          rw [vN_seg hopn] at this
          exact this
        · have := topN_ge (hnm _ (ht (seg p.num) (by simp only [ours, List.mem_cons, List.mem_map]; exact .inr (.inr ⟨p, hp, rfl⟩))))
          rw [vN_seg (hparts p hp).num] at this
          exact this
      · exact .inr (.inr rfl)
/-- The writes of an act, a position, and a code. -/
def wr (d : Dk) (a : LA) : List DW × Int × Int :=
  if (opn d).code = 1 ∧ a.kind = 4 then ((bi d).getD [], 0, if (bi d).isSome = true then 0 else 4)
  else if (opn d).code ≠ 0 then ([], 0, (opn d).code)
  else if ¬ (1 ≤ a.kind ∧ a.kind ≤ 4) then ([], 0, 7)
  else if a.kind = 4 then ((md d (opn d)).getD [], 0, if (md d (opn d)).isSome = true then 0 else 4)
  else if (opn d).torn = true then ([], 0, 3)
  else if a.kind = 2 then ([⟨3, seg (opn d).plan.opn, e0⟩], 0, 0)
  else if a.kind = 3 then match cl d.files.length (topN (nmsOf d)) (opn d) with
    | none => ([], 0, 4)
    | some l => (⟨3, seg (opn d).plan.opn, e0⟩ :: l, 0, 0)
  else if 2000 < a.data.size then ([], 0, 5)
  else if (opn d).next > 999999 ∨ (opn d).size + 5 + a.data.size > 8000 then ([], 0, 4)
  else ([⟨2, seg (opn d).plan.opn, frB ⟨(opn d).next, a.data⟩⟩], (opn d).next, 0)
def ok44 := okF.gu (P := Tryz.prog) tab Tryz.func44 Tryz.ntmps44 (by conv => lhs; cbv) (by kernel_rfl)
set_option maxHeartbeats 4000000 in
set_option maxRecDepth 20000 in
theorem writesS_ok (d : Dk) (hD : DOk d) (a : LA) (ha : a.data.size ≤ 1048576) : ACallsF Tryz.prog 44 [tDk d, tLA a] [] (tWII (wr d a).1 (wr d a).2.1 (wr d a).2.2) := by
  have hO := opnS_ok d hD
  have hB := birthS_ok d hD
  have hl := hD.f
  have hS := fun hg he => closeS_ok d (by omega) hD.nm (opn d) hg he
  have hM := fun hg ho => mendS_ok d hD (opn d) hg ho
  have hok := opn_ok hD
  generalize hR : wr d a = R
  unfold wr at hR
  generalize opn d = s at *
  have n1 : ((1 : Int) != 0) = true := rfl
  have n2 : ((2 : Int) != 0) = true := rfl
  have n0 : ((0 : Int) != 0) = false := rfl
  have n4 : ((4 : Int) != 0) = true := rfl
  have n21 : ((2 : Int) == 1) = false := rfl
  refine ACallsF.intro ok44 follows fun X c0 => ?_
  simp only [go_sem]
  refine callC hO rfl rfl rfl rfl ?_
  rcases hok with ⟨hc, hg, hnx, he, ho⟩ | rfl | rfl
  rotate_left
  · by_cases k : a.kind = 4
    · have k' : (a.kind == 4) = true := by simp [k]
      rw [if_pos ⟨rfl, k⟩] at hR
      subst hR
      simp only [go_sem, zLs, k']
      refine callC hB rfl rfl rfl rfl ?_
      simp only [go_sem]
    · have k' : (a.kind == 4) = false := beq_eq_false_iff_ne.2 k
      rw [if_neg (fun h => k h.2), if_pos (by simp [zLs])] at hR
      subst hR
      simp only [go_sem, zLs, k']
      refine callC (decI 0 ⟨by omega, by omega⟩) rfl rfl rfl rfl ?_
      simp only [go_sem, sStr, fits1 115 0 ⟨by omega, by omega⟩, n1]
  · rw [if_neg (by simp [zLs]), if_pos (by simp [zLs])] at hR
    subst hR
    simp only [go_sem, zLs, n21]
    refine callC (decI 0 ⟨by omega, by omega⟩) rfl rfl rfl rfl ?_
    simp only [go_sem, sStr, fits1 115 0 ⟨by omega, by omega⟩, n2]
  rw [if_neg (by omega), if_neg (by omega)] at hR
  obtain ⟨h5, h6, h7, h8, h9⟩ := planOk_ok hg.plan
  have f1 := fits1 115 s.plan.opn ⟨by omega, by omega⟩
  have a1 : (⟨#[115]⟩ : ByteArray) ++ dc s.plan.opn = seg s.plan.opn := rfl
  have hc1 : (s.code == 1) = false := by rw [hc]; rfl
  have hc0 : (s.code != 0) = false := by rw [hc]; rfl
  simp only [go_sem, hc1, hc0]
  refine callC (decI s.plan.opn ⟨by omega, by omega⟩) rfl rfl rfl rfl ?_
  by_cases k4 : a.kind = 4
  · have k' : (a.kind == 4) = true := by simp [k4]
    rw [if_neg (by omega), if_pos k4] at hR
    subst hR
    simp only [go_sem, sStr, f1, hc0, k']
    refine callC (hM hg ho) rfl rfl rfl rfl ?_
    simp only [go_sem]
  have k4' : (a.kind == 4) = false := beq_eq_false_iff_ne.2 k4
  simp only [go_sem, sStr, f1, hc0, k4']
  refine callC (l6In_ok a.kind 1 4) rfl rfl rfl rfl ?_
  by_cases kr : 1 ≤ a.kind ∧ a.kind ≤ 4
  rotate_left
  · have kr' : (decide ((1 : Int) ≤ a.kind) && decide (a.kind ≤ 4)) = false := by
      rw [Bool.and_eq_false_iff, decide_eq_false_iff_not, decide_eq_false_iff_not]; omega
    rw [if_pos kr] at hR
    subst hR
    simp only [go_sem, kr']
  have kr' : (decide ((1 : Int) ≤ a.kind) && decide (a.kind ≤ 4)) = true := by
    rw [Bool.and_eq_true, decide_eq_true_eq, decide_eq_true_eq]; exact kr
  rw [if_neg (by omega), if_neg k4] at hR
  cases hto : s.torn with
  | true =>
    rw [if_pos hto] at hR
    subst hR
    simp only [go_sem, kr', hto]
  | false =>
  rw [if_neg (by rw [hto]; decide)] at hR
  by_cases k2 : a.kind = 2
  · have k' : (a.kind == 2) = true := by simp [k2]
    rw [if_pos k2] at hR
    subst hR
    simp only [go_sem, kr', hto, k', a1]
    rfl
  have k2' : (a.kind == 2) = false := beq_eq_false_iff_ne.2 k2
  rw [if_neg k2] at hR
  by_cases k3 : a.kind = 3
  · have k' : (a.kind == 3) = true := by simp [k3]
    rw [if_pos k3] at hR
    simp only [go_sem, kr', hto, k2', k']
    refine callC (hS hg he) rfl (by rw [← hto]; rfl) rfl rfl ?_
    cases hcl : cl d.files.length (topN (nmsOf d)) s with
    | none =>
      rw [hcl] at hR
      subst hR
      simp only [go_sem, Option.isSome_none, n4]
    | some l =>
      rw [hcl] at hR
      subst hR
      have hl8 : l.length ≤ 8 := by
        unfold cl at hcl
        split at hcl
        · cases hcl; simp
        · cases hcl
      have q5 : (1 + l.length) * 40 ≤ 140737488355328 := by omega
      have q6 : 1 + l.length ≤ 9223372036854775807 := by omega
      have q7 : 1 + l.length ≤ l.length + 1 := by omega
      have htk : ∀ x : List V, List.take (1 + l.length) (x :: en eW l) = x :: en eW l := fun x => List.take_of_length_le (by rw [List.length_cons, en_len]; omega)
      simp only [go_sem, Option.isSome_some, n0, a1, q5, q6, q7, htk, en_len]
      rfl
  have k3' : (a.kind == 3) = false := beq_eq_false_iff_ne.2 k3
  rw [if_neg k3] at hR
  by_cases kd : 2000 < a.data.size
  · have kd' : (a.data.size : Int) > 2000 := by omega
    rw [if_pos kd] at hR
    subst hR
    simp only [go_sem, kr', hto, k2', k3', kd']
  have kd' : ¬ (a.data.size : Int) > 2000 := by omega
  rw [if_neg kd] at hR
  have hsz := hg.size
  have g5 : IntKind.i64.wrap (s.size + 5) = s.size + 5 := wrap64 ⟨by omega, by omega⟩
  have g6 : IntKind.i64.wrap (s.size + 5 + (a.data.size : Int)) = s.size + 5 + a.data.size := wrap64 ⟨by omega, by omega⟩
  by_cases kn : s.next > 999999
  · rw [if_pos (.inl kn)] at hR
    subst hR
    simp only [go_sem, kr', hto, k2', k3', kd', kn]
  by_cases ks : s.size + 5 + (a.data.size : Int) > 8000
  · rw [if_pos (.inr ks)] at hR
    subst hR
    simp only [go_sem, kr', hto, k2', k3', kd', kn, g5, g6, ks]
  rw [if_neg (by omega)] at hR
  subst hR
  have hF := frameS_ok ⟨s.next, a.data⟩
  have hrec : recOk ⟨s.next, a.data⟩ = true := by
    simp only [recOk, Bool.and_eq_true, decide_eq_true_eq]
    omega
  rw [if_pos hrec] at hF
  simp only [go_sem, kr', hto, k2', k3', kd', kn, g5, g6, ks]
  refine callC hF rfl rfl rfl rfl ?_
  simp only [go_sem, a1]
  rfl
end Go.V
set_option linter.unusedSimpArgs false
set_option maxRecDepth 20000
namespace Go.V
open Go.Proofs
def ok99 := okF.gu (P := Tryz.prog) tab Tryz.func99 Tryz.ntmps99 (by conv => lhs; cbv) (by kernel_rfl)
set_option maxHeartbeats 4000000 in
set_option maxRecDepth 20000 in
theorem writesI_ok (d : Dk) (hD : DOk d) (a : LA) (ha : a.data.size ≤ 1048576) : ACallsF Tryz.prog 99 [tDk d, tLA a] [] (tWII (wr d a).1 (wr d a).2.1 (wr d a).2.2) := by
  have hO := opnI_ok d hD
  have hB := begin_ok d hD
  have hl := hD.f
  have hnn : ∀ x ∈ nmsOf d, x.size ≤ 1000000 := fun x hx => by
    obtain ⟨f, h1, rfl⟩ := List.mem_map.1 hx
    exact hD.nm f h1
  have hnl : (nmsOf d).length = d.files.length := List.length_map ..
  have hS := fun hg => closeI_ok (nmsOf d) (by omega) hnn (opn d) hg [⟨3, seg (opn d).plan.opn, e0⟩] (by simp) 55 2055
  rw [hnl] at hS
  have hM := fun hg => mendI_ok d hD (opn d) hg
  have hok := opn_ok hD
  generalize hR : wr d a = R
  unfold wr at hR
  generalize opn d = s at *
  have n1 : ((1 : Int) != 0) = true := rfl
  have n2 : ((2 : Int) != 0) = true := rfl
  have n21 : ((2 : Int) == 1) = false := rfl
  refine ACallsF.intro ok99 follows fun X c0 => ?_
  simp only [go_sem]
  refine callC hO rfl rfl rfl rfl ?_
  rcases hok with ⟨hc, hg, hnx, he, ho⟩ | rfl | rfl
  rotate_left
  · by_cases k : a.kind = 4
    · have k' : (a.kind == 4) = true := by simp [k]
      rw [if_pos ⟨rfl, k⟩] at hR
      subst hR
      simp only [go_sem, zLs]
      refine callC (seg_ok 0 ⟨by omega, by omega⟩) rfl rfl rfl rfl ?_
      simp only [go_sem, k']
      refine callC hB rfl rfl rfl rfl ?_
      simp only [go_sem]
    · have k' : (a.kind == 4) = false := beq_eq_false_iff_ne.2 k
      rw [if_neg (fun h => k h.2), if_pos (by simp [zLs])] at hR
      subst hR
      simp only [go_sem, zLs]
      refine callC (seg_ok 0 ⟨by omega, by omega⟩) rfl rfl rfl rfl ?_
      simp only [go_sem, k', n1]
  · rw [if_neg (by simp [zLs]), if_pos (by simp [zLs])] at hR
    subst hR
    simp only [go_sem, zLs]
    refine callC (seg_ok 0 ⟨by omega, by omega⟩) rfl rfl rfl rfl ?_
    simp only [go_sem, n21, n2]
  rw [if_neg (by omega), if_neg (by omega)] at hR
  obtain ⟨h5, h6, h7, h8, h9⟩ := planOk_ok hg.plan
  have hc1 : (s.code == 1) = false := by rw [hc]; rfl
  have hc0 : (s.code != 0) = false := by rw [hc]; rfl
  simp only [go_sem]
  refine callC (seg_ok s.plan.opn ⟨by omega, by omega⟩) rfl rfl rfl rfl ?_
  simp only [go_sem, hc1, hc0]
  refine callC (inRange_ok a.kind 1 4) rfl rfl rfl rfl ?_
  by_cases kr : 1 ≤ a.kind ∧ a.kind ≤ 4
  rotate_left
  · have kr' : (decide ((1 : Int) ≤ a.kind) && decide (a.kind ≤ 4)) = false := by
      rw [Bool.and_eq_false_iff, decide_eq_false_iff_not, decide_eq_false_iff_not]; omega
    rw [if_pos kr] at hR
    subst hR
    simp only [go_sem, kr']
  have kr' : (decide ((1 : Int) ≤ a.kind) && decide (a.kind ≤ 4)) = true := by
    rw [Bool.and_eq_true, decide_eq_true_eq, decide_eq_true_eq]; exact kr
  rw [if_neg (by omega)] at hR
  by_cases k4 : a.kind = 4
  · have k' : (a.kind == 4) = true := by simp [k4]
    rw [if_pos k4] at hR
    subst hR
    simp only [go_sem, kr', k']
    refine callC (hM hg) rfl rfl rfl rfl ?_
    simp only [go_sem]
  have k4' : (a.kind == 4) = false := beq_eq_false_iff_ne.2 k4
  rw [if_neg k4] at hR
  cases hto : s.torn with
  | true =>
    rw [if_pos hto] at hR
    subst hR
    simp only [go_sem, kr', k4', hto]
  | false =>
  rw [if_neg (by rw [hto]; decide)] at hR
  by_cases k2 : a.kind = 2
  · have k1' : (a.kind == 1) = false := by rw [k2]; rfl
    have k3' : (a.kind == 3) = false := by rw [k2]; rfl
    rw [if_pos k2] at hR
    subst hR
    simp only [go_sem, kr', k4', hto, k1', k3']
    refine callWz (m0 := 55) (m1 := 2055) (add0_ok 3 (seg s.plan.opn) e0 55 2055 _) rfl rfl rfl rfl (by decide) rfl ⟨rfl, ?_⟩
    simp only [go_sem]
    rfl
  rw [if_neg k2] at hR
  by_cases k3 : a.kind = 3
  · have k1' : (a.kind == 1) = false := by rw [k3]; rfl
    have k3' : (a.kind == 3) = true := by rw [k3]; rfl
    rw [if_pos k3] at hR
    simp only [go_sem, kr', k4', hto, k1', k3']
    refine callWz (m0 := 55) (m1 := 2055) (add0_ok 3 (seg s.plan.opn) e0 55 2055 _) rfl rfl rfl rfl (by decide) rfl ⟨rfl, ?_⟩
    simp only [go_sem]
    refine callC (fnames_ok d (by omega)) rfl rfl rfl rfl ?_
    simp only [go_sem]
    refine callWc (m0 := 55) (m1 := 2055) (hS hg _ _) rfl rfl rfl rfl (by decide) rfl (by simp) rfl ⟨?_, ?_⟩
    · simp only [go_sem]
    cases hcl : cl d.files.length (topN (nmsOf d)) s with
    | none =>
      rw [hcl] at hR
      subst hR
      simp only [go_sem, Option.isSome_none]
    | some l =>
      rw [hcl] at hR
      subst hR
      have htk : List.take (l.length + 1) (en eW (⟨3, seg s.plan.opn, e0⟩ :: l)) = en eW (⟨3, seg s.plan.opn, e0⟩ :: l) := List.take_of_length_le (by rw [en_len, List.length_cons]; exact Nat.le_refl _)
      simp only [go_sem, Option.isSome_some, htk, en_len]
  have k1 : a.kind = 1 := by omega
  have k1' : (a.kind == 1) = true := by rw [k1]; rfl
  rw [if_neg k3] at hR
  by_cases kd : 2000 < a.data.size
  · have kd' : (a.data.size : Int) > 2000 := by omega
    rw [if_pos kd] at hR
    subst hR
    simp only [go_sem, kr', k4', hto, k1', kd']
  have kd' : ¬ (a.data.size : Int) > 2000 := by omega
  rw [if_neg kd] at hR
  have hsz := hg.size
  have g5 : IntKind.i64.wrap (s.size + 5) = s.size + 5 := wrap64 ⟨by omega, by omega⟩
  have g6 : IntKind.i64.wrap (s.size + 5 + (a.data.size : Int)) = s.size + 5 + a.data.size := wrap64 ⟨by omega, by omega⟩
  by_cases kn : s.next > 999999
  · rw [if_pos (.inl kn)] at hR
    subst hR
    simp only [go_sem, kr', k4', hto, k1', kd', kn]
  by_cases ks : s.size + 5 + (a.data.size : Int) > 8000
  · rw [if_pos (.inr ks)] at hR
    subst hR
    simp only [go_sem, kr', k4', hto, k1', kd', kn, g5, g6, ks]
  rw [if_neg (by omega)] at hR
  subst hR
  simp only [go_sem, kr', k4', hto, k1', kd', kn, g5, g6, ks]
  refine callC (frameI_ok ⟨s.next, a.data⟩ ⟨by simp only; omega, by simp only; omega, by simp only; omega⟩) rfl rfl rfl rfl ?_
  simp only [go_sem]
  refine callWz (m0 := 55) (m1 := 2055) (add0_ok 2 (seg s.plan.opn) (frB ⟨s.next, a.data⟩) 55 2055 _) rfl rfl rfl rfl (by decide) rfl ⟨rfl, ?_⟩
  simp only [go_sem]
  rfl
end Go.V
set_option linter.unusedSimpArgs false
set_option maxRecDepth 20000
namespace Go.V
open Go.Proofs
/-! An act. -/
theorem linesL_le : ∀ (xs : List LP), (∀ x ∈ xs, i64 x.num ∧ i64 x.first ∧ i64 x.next ∧ i64 x.size) → (linesL xs).length ≤ 89 * xs.length
  | [], _ => Nat.le_refl _
  | x :: xs, h => by
    obtain ⟨h1, h2, h3, h4⟩ := h x (by simp)
    have ih := linesL_le xs fun y hy => h y (by simp [hy])
    have hj := joinB_le [x.num, x.first, x.next, x.size] wSeal (by simp; exact ⟨h1, h2, h3, h4⟩)
    have hs : wSeal.size = 4 := rfl
    have hn : (⟨#[10]⟩ : ByteArray).size = 1 := rfl
    have hl : (lineB x).data.toList.length ≤ 89 := by
      rw [Array.length_toList]
      show (lineB x).size ≤ 89
      rw [lineB, ByteArray.size_append, hn]
      simp only [List.length_cons, List.length_nil] at hj
      omega
    have e : linesL (x :: xs) = (lineB x).data.toList ++ linesL xs := rfl
    rw [e, List.length_append, List.length_cons]; omega
theorem planT_le {p : Pl} (hp : okPl p) : (planT p).size ≤ 89 * p.parts.length + 51 := by
  have h1 := linesL_le p.parts hp.part
  have hj := joinB_le [p.opn, p.first] wOpen (by simp; exact ⟨hp.opn, hp.first⟩)
  have hs : wOpen.size = 4 := rfl
  have hn : (⟨#[10, 101, 110, 100, 10]⟩ : ByteArray).size = 5 := rfl
  have hl : (endB p).data.toList.length ≤ 51 := by
    rw [Array.length_toList]
    show (endB p).size ≤ 51
    rw [endB, ByteArray.size_append, hn]
    simp only [List.length_cons, List.length_nil] at hj
    omega
  rw [planT, ofL_size, List.length_append]; omega
theorem name_fine (c : UInt8) {n : Int} (hn : 0 ≤ n ∧ n ≤ 1000000) : ((⟨#[c]⟩ : ByteArray) ++ dc n).size ≤ 1048576 := by
  have h1 := dc_le7 n hn
  have h2 : (⟨#[c]⟩ : ByteArray).size = 1 := rfl
  rw [ByteArray.size_append, h2]; omega
theorem e0_fine : e0.size ≤ 1048576 := by decide
theorem plL_fine {n : Int} (hn : 0 ≤ n ∧ n ≤ 1000000) {t : ByteArray} (ht : t.size ≤ 1048576) : ∀ w ∈ plL n t, fineDW w := fun w hw => by
  have h1 : (pln n).size ≤ 1048576 := name_fine 109 hn
  simp only [List.mem_cons, List.not_mem_nil, or_false] at hw
  rcases hw with rfl | rfl | rfl | rfl
  · exact ⟨h1, e0_fine⟩
  · exact ⟨h1, ht⟩
  · exact ⟨h1, e0_fine⟩
  · exact ⟨e0_fine, e0_fine⟩
theorem goneL_fine {d : Dk} (hD : DOk d) {ns : List ByteArray} (h : ∀ x ∈ ns, x ∈ th d) : ∀ w ∈ goneL ns, fineDW w := fun w hw => by
  obtain ⟨x, hx, rfl⟩ := List.mem_map.1 hw
  have := th_size hD (h x hx)
  exact ⟨by simp only; omega, e0_fine⟩
theorem cl_fine {n : Nat} {t : Int} {s : Ls} (hg : Gs s) (ht : 0 ≤ t) {l : List DW} (h : cl n t s = some l) : (∀ w ∈ l, fineDW w) ∧ l.length ≤ 8 := by
  unfold cl at h
  split at h
  · rename_i hc
    cases h
    have hp := planT_le (nxP_pl hg ⟨ht, hc.1⟩)
    have hl : (nxP s t).parts.length = s.plan.parts.length + 1 := by rw [nxP, List.length_append, List.length_singleton]
    have hnum := hg.num
    refine ⟨fun w hw => ?_, by simp⟩
    rcases List.mem_cons.1 hw with rfl | hw
    · exact ⟨name_fine 115 ⟨by omega, by omega⟩, e0_fine⟩
    · rcases List.mem_append.1 hw with hw | hw
      · exact plL_fine ⟨by omega, by omega⟩ (by omega) w hw
      · simp only [List.mem_cons, List.not_mem_nil, or_false] at hw
        rcases hw with rfl | rfl
        · exact ⟨name_fine 109 ⟨by omega, by omega⟩, e0_fine⟩
        · exact ⟨e0_fine, e0_fine⟩
  · cases h
theorem bi_fine {d : Dk} (hD : DOk d) : (∀ w ∈ (bi d).getD [], fineDW w) ∧ ((bi d).getD []).length ≤ 1100 := by
  have hl := th_len hD
  have ht := topN_le (nmsOf d)
  unfold bi
  split
  · rename_i hc
    have hp := planT_le (p := ⟨[], topN (nmsOf d) + 1, 1⟩) ⟨by simp, fun x hx => (by cases hx), ⟨by simp only; omega, by simp only; omega⟩, ⟨by simp only; omega, by simp only; omega⟩⟩
    simp only [List.length_nil] at hp
    refine ⟨fun w hw => ?_, by rw [Option.getD_some, List.length_append, goneL_len]; simp; omega⟩
    rcases List.mem_append.1 hw with hw | hw
    · exact goneL_fine hD (fun x hx => hx) w hw
    · rcases List.mem_cons.1 hw with rfl | hw
      · exact ⟨name_fine 115 ⟨by omega, by omega⟩, e0_fine⟩
      · exact plL_fine ⟨by omega, by omega⟩ (by omega) w hw
  · exact ⟨fun w hw => (by cases hw), by simp⟩
theorem md_fine {d : Dk} (hD : DOk d) {s : Ls} (hg : Gs s) : (∀ w ∈ (md d s).getD [], fineDW w) ∧ ((md d s).getD []).length ≤ 1100 := by
  obtain ⟨h5, h6, h7, h8, h9⟩ := planOk_ok hg.plan
  have hl := th_len hD
  have hm := mdL_len s (th d)
  have ht := topN_le (ours s)
  have base : ∀ w ∈ mdL s (th d) ++ [(⟨5, e0, e0⟩ : DW)], fineDW w := fun w hw => by
    rcases List.mem_append.1 hw with hw | hw
    · rcases List.mem_cons.1 hw with rfl | hw
      · exact ⟨name_fine 115 ⟨by omega, by omega⟩, e0_fine⟩
      · exact goneL_fine hD (fun x hx => (List.mem_filter.1 hx).1) w hw
    · simp only [List.mem_cons, List.not_mem_nil, or_false] at hw
      subst hw
      exact ⟨e0_fine, e0_fine⟩
  unfold md
  split
  · cases hc : cl (ours s).length (topN (ours s)) s with
    | none => exact ⟨fun w hw => (by cases hw), by simp⟩
    | some l =>
      obtain ⟨f1, f2⟩ := cl_fine hg ht.1 hc
      refine ⟨fun w hw => ?_, ?_⟩
      · rcases List.mem_append.1 hw with hw | hw
        · exact base w hw
        · exact f1 w hw
      · show ((mdL s (th d) ++ [(⟨5, e0, e0⟩ : DW)]) ++ l).length ≤ 1100
        rw [List.length_append, List.length_append, List.length_singleton]; omega
  · exact ⟨base, by rw [Option.getD_some, List.length_append, List.length_singleton]; omega⟩
theorem one_fine {w : DW} (h : fineDW w) : (∀ x ∈ [w], fineDW x) ∧ [w].length ≤ 1100 := ⟨fun x hx => (by rw [List.mem_singleton.1 hx]; exact h), by simp⟩
theorem nil_fine : (∀ x ∈ ([] : List DW), fineDW x) ∧ ([] : List DW).length ≤ 1100 := ⟨fun x hx => (by cases hx), by simp⟩
theorem wr_fine {d : Dk} (hD : DOk d) (a : LA) : (∀ w ∈ (wr d a).1, fineDW w) ∧ (wr d a).1.length ≤ 1100 := by
  unfold wr
  split
  · exact bi_fine hD
  split
  · exact nil_fine
  rename_i hc
  have hc0 : (opn d).code = 0 := Classical.byContradiction hc
  obtain ⟨hg, hnx⟩ : Gs (opn d) ∧ 1 ≤ (opn d).next := by
    rcases opn_ok hD with ⟨_, h, h2, _⟩ | h | h
    · exact ⟨h, h2⟩
    · rw [h] at hc0; cases hc0
    · rw [h] at hc0; cases hc0
  obtain ⟨h5, h6, h7, h8, h9⟩ := planOk_ok hg.plan
  have hseg : (seg (opn d).plan.opn).size ≤ 1048576 := name_fine 115 ⟨by omega, by omega⟩
  split
  · exact nil_fine
  split
  · exact md_fine hD hg
  split
  · exact nil_fine
  split
  · exact one_fine ⟨hseg, e0_fine⟩
  split
  · split
    · exact nil_fine
    · rename_i l hl
      obtain ⟨f1, f2⟩ := cl_fine hg (topN_le _).1 hl
      refine ⟨fun w hw => ?_, by rw [List.length_cons]; omega⟩
      rcases List.mem_cons.1 hw with rfl | hw
      · exact ⟨hseg, e0_fine⟩
      · exact f1 w hw
  split
  · exact nil_fine
  split
  · exact nil_fine
  rename_i hd _
  refine one_fine ⟨hseg, ?_⟩
  have h1 : ∀ p q r s t : Int, (pushB [p, q, r, s, t]).size = 5 := fun _ _ _ _ _ => rfl
  show (frB ⟨(opn d).next, a.data⟩).size ≤ 1048576
  rw [frB, ByteArray.size_append, h1]
  simp only; omega
def stepR (d : Dk) (a : LA) : Dk × Int × Int := if (wr d a).2.2 ≠ 0 then (d, 0, (wr d a).2.2) else ((goS a 0 d (wr d a).1).1, if (goS a 0 d (wr d a).1).2 = 0 then (wr d a).2.1 else 0, (goS a 0 d (wr d a).1).2)
abbrev StpR (d : Dk) (a : LA) (r : Dk × Int × Int) : Prop := (DOk d ∧ r = stepR d a) ∨ (¬ DOk d ∧ r = (⟨[], [], []⟩, 0, 7))
abbrev tDkII (r : Dk × Int × Int) : T := .tup [.agg [.v (.sl (en eF r.1.files)), .v (.sl (en eS r.1.names)), .v (.sl (en eM r.1.moves))], .one (.v (.s (.int .i64 r.2.1))), .one (.v (.s (.int .i64 r.2.2)))]
def ok10 := okF.gu (P := Tryz.prog) tab Tryz.func10 Tryz.ntmps10 (by conv => lhs; cbv) (by kernel_rfl)
def inv10 (r : Dk × Int) (p : Int) (ws : List DW) (a : LA) (i : Nat) (σ : St) : Prop := ∃ d, DOk d ∧ r = goS a i d (ws.drop i) ∧ (∃ u, σ.t 2 = .c (.ptr 2 u 0) ∧ σ.H 2 = some (.var u 29 (cDk d))) ∧ σ.t 7 = tL (en eW ws) ∧ σ.t 8 = .i p ∧
  (∃ u, σ.t 3 = .c (.ptr 3 u 0) ∧ σ.H 3 = some (.var u 32 [.v (.s (.int .i64 a.kind)), .v (.s (.string a.data)), .v (.s (.bool a.cuts)), .v (.s (.int .i64 a.after)), .v (.s (.int .i64 a.moves)), .v (.sl (en eI a.keep))])) ∧ (∃ u, σ.t 4 = .c (.ptr 4 u 0) ∧ σ.H 4 = some (.var u 29 [.nil0, .nil0, .nil0])) ∧ σ.t 10 = .i i
set_option maxRecDepth 20000 in
set_option maxHeartbeats 2000000 in
theorem stepS_ok (d : Dk) (a : LA) (hd : fineDk d) (ha : a.data.size ≤ 1048576) : ∃ r, StpR d a r ∧ ACallsF Tryz.prog 10 [tDk d, tLA a] [] (tDkII r) := by
  obtain ⟨b, hb, hC⟩ := okS_ok d hd
  by_cases hD : DOk d
  rotate_left
  · have hbf : b = false := by cases hq : b with | false => rfl | true => exact absurd (hb.1 hq) hD
    rw [hbf] at hC
    refine ⟨_, .inr ⟨hD, rfl⟩, ACallsF.intro ok10 follows fun X c0 => ?_⟩
    simp only [go_sem]
    refine callC hC rfl rfl rfl rfl ?_
    simp only [go_sem]
  rw [hb.2 hD] at hC
  refine ⟨_, .inl ⟨hD, rfl⟩, ?_⟩
  have hW := writesS_ok d hD a ha
  obtain ⟨hw, hwl⟩ := wr_fine hD a
  unfold stepR
  generalize wr d a = W at *
  obtain ⟨ws, p, wc⟩ := W
  simp only at hw hwl ⊢
  by_cases k : wc = 0
  rotate_left
  · have k' : (wc != 0) = true := bne_iff_ne.2 k
    rw [if_pos k]
    refine ACallsF.intro ok10 follows fun X c0 => ?_
    simp only [go_sem]
    refine callC hC rfl rfl rfl rfl ?_
    simp only [go_sem]
    refine callC hW rfl rfl rfl rfl ?_
    simp only [go_sem, k']
    refine callDk (ws := []) (ns := []) (copyDk_ok d hd.s 1001 1002 1003) rfl rfl rfl (by decide) ⟨rfl, ?_⟩
    simp only [go_sem]
  subst k
  rw [if_neg (by omega)]
  have n0 : ((0 : Int) != 0) = false := rfl
  generalize hrr : goS a 0 d ws = r
  refine ACallsF.intro ok10 follows fun X c0 => ?_
  simp only [go_sem]
  refine callC hC rfl rfl rfl rfl ?_
  simp only [go_sem]
  refine callC hW rfl rfl rfl rfl ?_
  simp only [go_sem, n0]
  refine AW.upto ws.length (inv10 r p ws a) ⟨d, hD, hrr.symm, ⟨_, rfl, rfl⟩, rfl, rfl, ⟨_, rfl, rfl⟩, ⟨_, rfl, rfl⟩, rfl⟩ fun i t H c hi h => ?_
  obtain ⟨d, hD, hg, ⟨u3, e3, eH3⟩, e1, e8p, ⟨u5, e5, eH5⟩, ⟨u6, e6, eH6⟩, e8⟩ := h
  simp only [T.c, T.i, tL] at e3 eH3 e1 e5 eH5 e6 eH6 e8 e8p
  have hd := hD.fine
  have eH5o := eH5
  by_cases hlt : i < ws.length
  · obtain ⟨w, hw1⟩ : ∃ w, ws[i]? = some w := ⟨_, List.getElem?_eq_getElem hlt⟩
    have ew := en_at eW hw1
    have k1 : (i : Int) < ws.length := by omega
    have gz : (0 : Int) ≤ i := by omega
    have gw : IntKind.i64.wrap ((i : Int) + 1) = ((i + 1 : Nat) : Int) := wrap64 (x := (i : Int) + 1) ⟨by omega, by omega⟩
    rw [drop_at hw1] at hg
    obtain ⟨q, hq, hCD⟩ := doS_ok d w hd (hw w (List.mem_of_getElem? hw1))
    have hq : q = doS d w := by
      rcases hq with ⟨_, h⟩ | ⟨h, _⟩
      · exact h
      · exact absurd hD h
    by_cases hcut : a.cuts = true ∧ (i : Int) ≥ a.after
    · have p1 := hcut.1
      have p2 := hcut.2
      have hg' : r = (cutD d a.moves a.keep, 6) := by rw [hg, goS, if_pos hcut]
      have n6 : ¬ (6 : Int) = 0 := by decide
      rw [hg']
      simp only [n6, if_false]
      simp only [go_sem, e3, eH3, e1, e5, eH5, e6, eH6, e8, en_len, k1, p1, p2]
      refine callC (cutS_ok d hD a.moves a.keep) rfl rfl rfl rfl ?_
      simp only [go_sem, e6, eH6]
    · have hg' : r = if q.2 = 0 then goS a (i + 1) q.1 (ws.drop (i + 1)) else (q.1, 4) := by rw [hg, goS, if_neg hcut, hq]
      have hDq : DOk q.1 := by rw [hq]; exact hD.step w
      obtain ⟨qd, qc⟩ := q
      by_cases h0 : qc = 0
      · subst h0
        rw [if_pos rfl] at hg'
        cases p1 : a.cuts with
        | false =>
          rw [p1] at eH5
          simp only [go_sem, e3, eH3, e1, e5, eH5, e6, eH6, e8, en_len, k1, gz, ew, eW]
          refine callC hCD rfl rfl rfl rfl ?_
          simp only [go_sem, e3, eH3, e1, e5, eH5, e6, eH6, e8, gw, n0]
          exact ⟨hlt, qd, hDq, hg', ⟨u3, e3, rfl⟩, e1, e8p, ⟨u5, e5, eH5o⟩, ⟨u6, e6, eH6⟩, rfl⟩
        | true =>
          have p2 : ¬ (i : Int) ≥ a.after := fun h => hcut ⟨p1, h⟩
          rw [p1] at eH5
          simp only [go_sem, e3, eH3, e1, e5, eH5, e6, eH6, e8, en_len, k1, gz, ew, eW, p2]
          refine callC hCD rfl rfl rfl rfl ?_
          simp only [go_sem, e3, eH3, e1, e5, eH5, e6, eH6, e8, gw, n0]
          exact ⟨hlt, qd, hDq, hg', ⟨u3, e3, rfl⟩, e1, e8p, ⟨u5, e5, eH5o⟩, ⟨u6, e6, eH6⟩, rfl⟩
      · rw [if_neg h0] at hg'
        have n0' : (qc != 0) = true := by simpa using h0
        have n4 : ¬ (4 : Int) = 0 := by decide
        rw [hg']
        simp only [n4, if_false]
        cases p1 : a.cuts with
        | false =>
          rw [p1] at eH5
          simp only [go_sem, e3, eH3, e1, e5, eH5, e6, eH6, e8, en_len, k1, gz, ew, eW]
          refine callC hCD rfl rfl rfl rfl ?_
          simp only [go_sem, e3, eH3, e1, e5, eH5, e6, eH6, e8, n0']
        | true =>
          have p2 : ¬ (i : Int) ≥ a.after := fun h => hcut ⟨p1, h⟩
          rw [p1] at eH5
          simp only [go_sem, e3, eH3, e1, e5, eH5, e6, eH6, e8, en_len, k1, gz, ew, eW, p2]
          refine callC hCD rfl rfl rfl rfl ?_
          simp only [go_sem, e3, eH3, e1, e5, eH5, e6, eH6, e8, n0']
  · have hi2 : i = ws.length := by omega
    subst hi2
    have k1 : ¬ (ws.length : Int) < ws.length := by omega
    rw [List.drop_length] at hg
    cases p1 : a.cuts with
    | true =>
      have hg' : r = (cutD d a.moves a.keep, 6) := by rw [hg, goS, if_pos p1]
      have n6 : ¬ (6 : Int) = 0 := by decide
      rw [hg']
      simp only [n6, if_false]
      rw [p1] at eH5
      simp only [go_sem, e3, eH3, e1, e5, eH5, e6, eH6, e8, en_len, k1]
      refine callC (cutS_ok d hD a.moves a.keep) rfl rfl rfl rfl ?_
      simp only [go_sem, e6, eH6]
    | false =>
      have hg' : r = (d, 0) := by rw [hg, goS, if_neg (by rw [p1]; decide)]
      rw [hg']
      simp only [if_true]
      rw [p1] at eH5
      simp only [go_sem, e3, eH3, e1, e5, eH5, e6, eH6, e8, en_len, k1]
      refine callDk (ws := []) (ns := []) (copyDk_ok d hd.s 1001 1002 1003) rfl rfl rfl (by decide) ⟨rfl, ?_⟩
      simp only [go_sem, e6, eH6, e8p]
end Go.V
set_option linter.unusedSimpArgs false
set_option maxRecDepth 20000
namespace Go.V
open Go.Proofs
abbrev oDkII (c1 v1 c2 v2 c3 v3 : Nat) (r : Dk × Int × Int) : T := .tup [oDk c1 v1 c2 v2 c3 v3 r.1, .one (.v (.s (.int .i64 r.2.1))), .one (.v (.s (.int .i64 r.2.2)))]
section
variable {P : Program} {t : Nat → T} {H : HMap} {c : Nat} {f : Opd} {args : List Opd} {fid : FuncId} {argsC : List T} {ws : List (Nat × Blk)} {ns : List Nat} {k : Nat} {d : Option Nat} {un : List Nat} {l : List AOper} {prev : List (Nat × List Nat × List Nat)} {K : St → Prop}
/-- A call that makes a disk's three arrays, and a number. -/
theorem callDkII {c1 c2 c3 m1 m2 m3 : Nat} {r : Dk × Int × Int} (hC : ACallsF P fid argsC (dkH c1 c2 c3 m1 m2 m3 r.1) (oDkII c1 0 c2 0 c3 0 r)) (hf : ev t f = .pt (.one (.fn fid []))) (hl : lendTs H argsC (args.map (ev t)) = some (argsC, ws, ns)) (ha : argsC.all closedA = true)
    (hcs : (c1 ≠ c2 ∧ c1 ≠ c3 ∧ c2 ≠ c3) ∧ m1 ≠ m2 ∧ m1 ≠ m3 ∧ m2 ≠ m3)
    (hk : chk prev un ⟨oDkII m1 (c + k) m2 (c + k) m3 (c + k) r, [(m1, .arr (c + k) true 3 92 (en eF r.1.files)), (m2, .arr (c + k) true 1 9 (en eS r.1.names)), (m3, .arr (c + k) true 2 94 (en eM r.1.moves))], ns ++ [m1, m2, m3], [m1, m2, m3]⟩ = true ∧
      DRun P l ((k, ns ++ [m1, m2, m3], [m1, m2, m3]) :: prev) K ⟨updD t d (oDkII m1 (c + k) m2 (c + k) m3 (c + k) r), upd (upd (upd H m1 (some (.arr (c + k) true 3 92 (en eF r.1.files)))) m2 (some (.arr (c + k) true 1 9 (en eS r.1.names)))) m3 (some (.arr (c + k) true 2 94 (en eM r.1.moves))), c⟩) :
    step P k d un (.call f args) l prev K t H c := by
  obtain ⟨⟨h1, h2, h3⟩, g1, g2, g3⟩ := hcs
  have N1 : renN (dkH c1 c2 c3 m1 m2 m3 r.1) c1 = some (newH c1 m1 3 92 (en eF r.1.files)) := by simp [renN]
  have N2 : renN (dkH c1 c2 c3 m1 m2 m3 r.1) c2 = some (newH c2 m2 1 9 (en eS r.1.names)) := by simp [renN, h1]
  have N3 : renN (dkH c1 c2 c3 m1 m2 m3 r.1) c3 = some (newH c3 m3 2 94 (en eM r.1.moves)) := by simp [renN, h2, h3]
  refine callF (r' := oDkII m1 (c + k) m2 (c + k) m3 (c + k) r) (ob := [(m1, .arr (c + k) true 3 92 (en eF r.1.files)), (m2, .arr (c + k) true 1 9 (en eS r.1.names)), (m3, .arr (c + k) true 2 94 (en eM r.1.moves))]) _ hC hf hl ha (by simp) (by simp [g1, g2, g3]) (by simp [h1, h2, h3]) ?_ ?_ ?_ ?_
  · simp only [quiet, List.all_cons, List.all_nil, flatB, en_flat eF eF_flat, en_flat eS eS_flat, en_flat eM eM_flat]; rfl
  · simp only [renOT, renOPs, renOP, renOs, renO, N1, N2, N3, Option.map_some, verOf]; rfl
  · simp only [renOBs, renOB, verOf]; rfl
  · simpa [updH] using hk
end
theorem stepR_len {d : Dk} (hD : DOk d) (a : LA) : (stepR d a).1.files.length ≤ 1000 ∧ (stepR d a).1.names.length ≤ 1000 ∧ (stepR d a).1.moves.length ≤ 1000 := by
  have l1 := hD.f
  have l2 := hD.n
  have l3 := hD.m
  unfold stepR
  split
  · exact ⟨by simp only; omega, by simp only; omega, by simp only; omega⟩
  · exact goS_len a _ 0 d hD
def ok48 := okF.gu (P := Tryz.prog) tab Tryz.func48 Tryz.ntmps48 (by conv => lhs; cbv) (by kernel_rfl)
set_option maxRecDepth 20000 in
set_option maxHeartbeats 1000000 in
theorem istep_ok (d : Dk) (a : LA) (hD : DOk d) (ha : a.data.size ≤ 1048576) (m1 m2 m3 : Nat) : ACallsF Tryz.prog 48 [tDk d, tLA a] (dkH 2101 2102 2103 m1 m2 m3 (stepR d a).1) (oDkII 2101 0 2102 0 2103 0 (stepR d a)) := by
  have hd := hD.fine
  obtain ⟨s1, s2, s3⟩ := stepR_len hD a
  have hcl := cloneDk_ok (stepR d a).1 ⟨by omega, by omega, by omega⟩ 2101 2102 2103
  have hW := writesI_ok d hD a ha
  obtain ⟨hw, hwl⟩ := wr_fine hD a
  have hG := writes_ok d (wr d a).1 a hD (by omega) hw
  unfold stepR at hcl ⊢
  generalize wr d a = W at *
  obtain ⟨ws, p, wc⟩ := W
  simp only at hw hwl hG hcl ⊢
  by_cases k : wc = 0
  rotate_left
  · have k' : (wc != 0) = true := bne_iff_ne.2 k
    rw [if_pos k] at hcl ⊢
    refine ACallsF.intro ok48 follows fun X c0 => ?_
    simp only [go_sem]
    refine callC hW rfl rfl rfl rfl ?_
    simp only [go_sem, k']
    refine callDk (ws := []) (ns := []) hcl rfl rfl rfl (by decide) ⟨rfl, ?_⟩
    simp only [go_sem, false_implies, and_self, imp_self]
  subst k
  rw [if_neg (by omega)] at hcl ⊢
  have n0 : ((0 : Int) != 0) = false := rfl
  generalize goS a 0 d ws = r at *
  obtain ⟨rd, rc⟩ := r
  simp only at hcl ⊢
  by_cases k : rc = 0
  · subst k
    rw [if_pos rfl]
    refine ACallsF.intro ok48 follows fun X c0 => ?_
    simp only [go_sem]
    refine callC hW rfl rfl rfl rfl ?_
    simp only [go_sem, n0]
    refine callC hG rfl rfl rfl rfl ?_
    simp only [go_sem, n0]
    refine callDk (ws := []) (ns := []) hcl rfl rfl rfl (by decide) ⟨rfl, ?_⟩
    simp only [go_sem, false_implies, and_self, imp_self]
  · have k' : (rc != 0) = true := bne_iff_ne.2 k
    rw [if_neg k]
    refine ACallsF.intro ok48 follows fun X c0 => ?_
    simp only [go_sem]
    refine callC hW rfl rfl rfl rfl ?_
    simp only [go_sem, n0]
    refine callC hG rfl rfl rfl rfl ?_
    simp only [go_sem, k']
    refine callDk (ws := []) (ns := []) hcl rfl rfl rfl (by decide) ⟨rfl, ?_⟩
    simp only [go_sem, false_implies, and_self, imp_self]
end Go.V
set_option linter.unusedSimpArgs false
set_option maxRecDepth 20000
namespace Go.V
open Go.Proofs
section
variable {P : Program} {t : Nat → T} {H : HMap} {c : Nat} {f : Opd} {args : List Opd} {fid : FuncId} {argsC : List T} {ws : List (Nat × Blk)} {ns : List Nat} {k : Nat} {d : Option Nat} {un : List Nat} {l : List AOper} {prev : List (Nat × List Nat × List Nat)} {K : St → Prop}
/-- A call that makes an act. -/
theorem callLAc {n m : Nat} {a : LA} (hC : ACallsF P fid argsC [newH n m 1 3 (en eI a.keep)] (.pt (oLA n 0 a))) (hf : ev t f = .pt (.one (.fn fid []))) (hl : lendTs H argsC (args.map (ev t)) = some (argsC, ws, ns)) (ha : argsC.all closedA = true)
    (hk : chk prev un ⟨.pt (oLA m (c + k) a), [(m, .arr (c + k) true 1 3 (en eI a.keep))], ns ++ [m], [m]⟩ = true ∧ DRun P l ((k, ns ++ [m], [m]) :: prev) K ⟨updD t d (.pt (oLA m (c + k) a)), upd H m (some (.arr (c + k) true 1 3 (en eI a.keep))), c⟩) :
    step P k d un (.call f args) l prev K t H c := by
  have hN : renN [newH n m 1 3 (en eI a.keep)] n = some (newH n m 1 3 (en eI a.keep)) := by simp [renN]
  refine callF (r' := .pt (oLA m (c + k) a)) (ob := [(m, .arr (c + k) true 1 3 (en eI a.keep))]) [newH n m 1 3 (en eI a.keep)] hC hf hl ha (by simp) (by simp) (by simp) ?_ ?_ ?_ ?_
  · simp only [quiet, List.all_cons, List.all_nil, flatB, en_flat eI eI_flat]; rfl
  · simp only [renOT, renOP, renOs, renO, hN, Option.map_some, verOf]; rfl
  · simp only [renOBs, renOB, verOf]; rfl
  · simpa [updH] using hk
end
end Go.V
set_option linter.unusedSimpArgs false
namespace Go.V
open Go.Proofs
/-! Records in bytes, as a chain. -/
inductive Chain (s : ByteArray) : Nat → List LR → Nat → Prop
  | nil (a : Nat) : Chain s a [] a
  | cons {a c b : Nat} {r : LR} {rs : List LR} (h : frAt s a = some (r, c)) (t : Chain s c rs b) : Chain s a (r :: rs) b
theorem Chain.le {s : ByteArray} {a b : Nat} {rs : List LR} (h : Chain s a rs b) : a ≤ b := by
  induction h with
  | nil => exact Nat.le_refl _
  | cons h _ ih => have := frAt_le h; omega
theorem Chain.app {s : ByteArray} {a b c : Nat} {rs qs : List LR} (h : Chain s a rs b) (g : Chain s b qs c) : Chain s a (rs ++ qs) c := by
  induction h with
  | nil => exact g
  | cons h _ ih => exact .cons h (ih g)
theorem frAt_end {s : ByteArray} {a : Nat} (h : s.size < a + 5) : frAt s a = none := if_neg fun g => by omega
theorem frL_chain (s : ByteArray) : ∀ (k a : Nat), s.size - a ≤ k → Chain s a (frL s a k).1 (frL s a k).2 ∧ frAt s (frL s a k).2 = none
  | 0, a, h => ⟨.nil a, frAt_end (by simp only [frL]; omega)⟩
  | k + 1, a, h => by
    cases hf : frAt s a with
    | none => rw [frL_none hf]; exact ⟨.nil a, hf⟩
    | some x =>
      obtain ⟨r, b⟩ := x
      have hb := frAt_le hf
      obtain ⟨h1, h2⟩ := frL_chain s k b (by omega)
      rw [frL_some hf]
      exact ⟨.cons hf h1, h2⟩
theorem frL_of {s : ByteArray} : ∀ {k a : Nat} {rs : List LR} {b : Nat}, s.size - a ≤ k → Chain s a rs b → frAt s b = none → frL s a k = (rs, b) := by
  intro k a rs b hk h hn
  induction h generalizing k with
  | nil a => exact frL_none hn k
  | cons h _ ih =>
    have hb := frAt_le h
    obtain ⟨j, rfl⟩ : ∃ j, k = j + 1 := ⟨k - 1, by omega⟩
    rw [frL_some h, ih (k := j) (by omega) hn]
theorem frames_chain (s : ByteArray) : Chain s 0 (frames s).1 (frames s).2 ∧ frAt s (frames s).2 = none := frL_chain s s.size 0 (by omega)
theorem frames_of {s : ByteArray} {rs : List LR} {b : Nat} (h : Chain s 0 rs b) (hn : frAt s b = none) : frames s = (rs, b) := frL_of (by omega) h hn
/-- Two texts have the same first bytes. -/
def same (s t : ByteArray) (m : Nat) : Prop := m ≤ s.size ∧ m ≤ t.size ∧ ∀ i, i < m → s.data[i]? = t.data[i]?
theorem same.symm {s t : ByteArray} {m : Nat} (h : same s t m) : same t s m := ⟨h.2.1, h.1, fun i hi => (h.2.2 i hi).symm⟩
theorem same.ext {s t : ByteArray} {m : Nat} (h : same s t m) (a b : Nat) (hb : b ≤ m) : s.extract a b = t.extract a b := by
  apply ByteArray.ext
  rw [ByteArray.data_extract, ByteArray.data_extract]
  apply Array.ext_getElem?
  intro i
  have h1 := h.1
  have h2 := h.2.1
  rw [size_data] at h1 h2
  rw [Array.getElem?_extract, Array.getElem?_extract, Nat.min_eq_left (by omega), Nat.min_eq_left (by omega)]
  split
  · exact h.2.2 _ (by omega)
  · rfl
theorem frAt_same {s t : ByteArray} {m a b : Nat} {r : LR} (h : same s t m) (hb : b ≤ m) (hf : frAt s a = some (r, b)) : frAt t a = some (r, b) := by
  have hl := frAt_le hf
  have hbt : ∀ i, i < m → bt t i = bt s i := fun i hi => by rw [bt, bt, h.2.2 i hi]
  have h2 := h.2.1
  unfold frAt at hf ⊢
  split at hf
  · rename_i g
    rw [Option.some.injEq, Prod.mk.injEq] at hf
    obtain ⟨hr, hb2⟩ := hf
    rw [hbt a (by omega), hbt (a + 1) (by omega), hbt (a + 2) (by omega), hbt (a + 3) (by omega), hbt (a + 4) (by omega), if_pos ⟨by omega, g.2.1, g.2.2.1, g.2.2.2.1, by omega⟩]
    rw [Option.some.injEq, Prod.mk.injEq]
    refine ⟨?_, hb2⟩
    rw [← hr, h.ext _ _ (by omega)]
  · cases hf
theorem Chain.same {s t : ByteArray} {m a b : Nat} {rs : List LR} (h : Chain s a rs b) (hs : Go.V.same s t m) (hb : b ≤ m) : Chain t a rs b := by
  induction h with
  | nil a => exact .nil a
  | cons h t ih => exact .cons (frAt_same hs (Nat.le_trans t.le hb) h) (ih hb)
theorem same_app (x y : ByteArray) : same x (x ++ y) x.size := ⟨Nat.le_refl _, by rw [ByteArray.size_append]; omega, fun i hi => by
  rw [ByteArray.data_append, Array.getElem?_append_left (by rw [← size_data]; exact hi)]⟩
theorem frB_at (r : LR) : ∀ i : Nat, (frB r).data[i]? = ([UInt8.ofNat (r.data.size / 256), UInt8.ofNat (r.data.size % 256), UInt8.ofNat (r.pos.toNat / 65536), UInt8.ofNat (r.pos.toNat / 256 % 256), UInt8.ofNat (r.pos.toNat % 256)] ++ r.data.data.toList : List UInt8)[i]? := by
  intro i
  have e : (frB r).data.toList = [UInt8.ofNat (r.data.size / 256), UInt8.ofNat (r.data.size % 256), UInt8.ofNat (r.pos.toNat / 65536), UInt8.ofNat (r.pos.toNat / 256 % 256), UInt8.ofNat (r.pos.toNat % 256)] ++ r.data.data.toList := by
    rw [frB, ByteArray.data_append, Array.toList_append]
    rfl
  rw [← e, Array.getElem?_toList]
theorem ext_app (x y : ByteArray) : (x ++ y).extract x.size (x ++ y).size = y := by
  apply ByteArray.ext
  rw [ByteArray.data_extract, ByteArray.data_append]
  apply Array.ext_getElem?
  intro i
  have e1 : x.size = x.data.size := rfl
  have e2 : (x ++ y).size = x.data.size + y.data.size := by rw [ByteArray.size_append]; rfl
  rw [Array.getElem?_extract, e1, e2, Array.size_append, Nat.min_self, Nat.add_sub_cancel_left]
  split
  · rw [Array.getElem?_append_right (by omega), Nat.add_sub_cancel_left]
  · exact (Array.getElem?_eq_none (by omega)).symm
set_option maxRecDepth 100000 in
theorem frAt_new {x : ByteArray} {r : LR} (hr : recOk r = true) : frAt (x ++ frB r) x.size = some (r, x.size + (r.data.size + 5)) := by
  simp only [recOk, Bool.and_eq_true, decide_eq_true_eq] at hr
  obtain ⟨⟨r1, r2⟩, r3⟩ := hr
  obtain ⟨p, hp⟩ : ∃ p : Nat, r.pos = p := ⟨r.pos.toNat, (Int.toNat_of_nonneg (by omega)).symm⟩
  have hpt : r.pos.toNat = p := by omega
  have c : x.size + 5 ≤ x.size + (r.data.size + 5) ∧ r.data.size ≤ 2000 ∧ 1 ≤ p ∧ p ≤ 999999 ∧ x.size + 5 + r.data.size ≤ x.size + (r.data.size + 5) := ⟨by omega, by omega, by omega, by omega, by omega⟩
  have hB : ∀ i : Nat, bt (x ++ frB r) (x.size + i) = (((([UInt8.ofNat (r.data.size / 256), UInt8.ofNat (r.data.size % 256), UInt8.ofNat (p / 65536), UInt8.ofNat (p / 256 % 256), UInt8.ofNat (p % 256)] ++ r.data.data.toList : List UInt8)[i]?).getD 0).toNat) := fun i => by
    have e1 : x.size = x.data.size := rfl
    rw [bt, ByteArray.data_append, e1, Array.getElem?_append_right (by omega), Nat.add_sub_cancel_left, frB_at, hpt]
  have hn : ∀ n, n < 256 → (UInt8.ofNat n).toNat = n := fun n h => by rw [UInt8.toNat_ofNat']; omega
  have b0 : bt (x ++ frB r) x.size = r.data.size / 256 := (hB 0).trans (hn _ (by omega))
  have b1 : bt (x ++ frB r) (x.size + 1) = r.data.size % 256 := (hB 1).trans (hn _ (by omega))
  have b2 : bt (x ++ frB r) (x.size + 2) = p / 65536 := (hB 2).trans (hn _ (by omega))
  have b3 : bt (x ++ frB r) (x.size + 3) = p / 256 % 256 := (hB 3).trans (hn _ (by omega))
  have b4 : bt (x ++ frB r) (x.size + 4) = p % 256 := (hB 4).trans (hn _ (by omega))
  have hsz : (x ++ frB r).size = x.size + (r.data.size + 5) := by rw [ByteArray.size_append, frB_size]
  have hd : r.data.size / 256 * 256 + r.data.size % 256 = r.data.size := by omega
  have hp2 : p / 65536 * 65536 + p / 256 % 256 * 256 + p % 256 = p := by
    have h1 : p / 65536 = p / 256 / 256 := (Nat.div_div_eq_div_mul p 256 256).symm
    have h2 := Nat.div_add_mod p 256
    have h3 := Nat.div_add_mod (p / 256) 256
    rw [h1]
    clear hB b0 b1 b2 b3 b4 hn
    generalize p / 256 / 256 = u at *
    generalize p / 256 % 256 = v at *
    generalize p / 256 = w at *
    generalize p % 256 = y at *
    omega
  unfold frAt
  rw [b0, b1, b2, b3, b4, hd, hp2, hsz, if_pos c]
  have e : (x ++ frB r).extract (x.size + 5) (x.size + 5 + r.data.size) = r.data := by
    have hf : frB r = pushB [((r.data.size / 256 : Nat) : Int), ((r.data.size % 256 : Nat) : Int), ((r.pos.toNat / 65536 : Nat) : Int), ((r.pos.toNat / 256 % 256 : Nat) : Int), ((r.pos.toNat % 256 : Nat) : Int)] ++ r.data := rfl
    have h5 : (pushB [((r.data.size / 256 : Nat) : Int), ((r.data.size % 256 : Nat) : Int), ((r.pos.toNat / 65536 : Nat) : Int), ((r.pos.toNat / 256 % 256 : Nat) : Int), ((r.pos.toNat % 256 : Nat) : Int)]).size = 5 := rfl
    rw [hf]
    generalize pushB [((r.data.size / 256 : Nat) : Int), ((r.data.size % 256 : Nat) : Int), ((r.pos.toNat / 65536 : Nat) : Int), ((r.pos.toNat / 256 % 256 : Nat) : Int), ((r.pos.toNat % 256 : Nat) : Int)] = P at h5
    have e2 := ext_app (x ++ P) r.data
    have e3 : (x ++ P).size = x.size + 5 := by rw [ByteArray.size_append, h5]
    have e4 : (x ++ P ++ r.data).size = x.size + 5 + r.data.size := by rw [ByteArray.size_append, e3]
    rw [e3, e4, ba_assoc] at e2
    exact e2
  rw [e, ← hp, Nat.add_assoc, Nat.add_comm 5]
theorem frames_app {x : ByteArray} {r : LR} (hx : (frames x).2 = x.size) (hr : recOk r = true) : frames (x ++ frB r) = ((frames x).1 ++ [r], x.size + (r.data.size + 5)) := by
  obtain ⟨h1, h2⟩ := frames_chain x
  rw [hx] at h1
  refine frames_of ((h1.same (same_app x _) (Nat.le_refl _)).app (.cons (frAt_new hr) (.nil _))) (frAt_end ?_)
  rw [ByteArray.size_append, frB_size]; omega
end Go.V
set_option linter.unusedSimpArgs false
namespace Go.V
open Go.Proofs
/-! What is read of a disk, and what writes make of it. -/
abbrev Vw := ByteArray → Option ByteArray
def eff (w : DW) (v : Vw) : Vw := fun nm =>
  if w.kind = 1 then (if nm = w.name then some ⟨#[]⟩ else v nm)
  else if w.kind = 2 then (if nm = w.name then (v nm).map (· ++ w.data) else v nm)
  else if w.kind = 4 then (if nm = w.name then none else v nm)
  else v nm
theorem has_snoc (ns : List ByteArray) (x nm : ByteArray) : has (ns ++ [x]) nm = (has ns nm || decide (x = nm)) := by simp [has]
theorem has_wo (ns : List ByteArray) (x nm : ByteArray) : has (wo x ns) nm = (has ns nm && !decide (nm = x)) := by
  rw [Bool.eq_iff_iff, Bool.and_eq_true, has_true, has_true]
  simp [wo]
theorem fileOf_snoc (fs : List DF) (g : DF) {nm : ByteArray} (h : g.name ≠ nm) : fileOf (fs ++ [g]) nm = fileOf fs nm := by
  rw [fileOf, fileOf, List.find?_append]
  simp [h]
theorem fnd_neg {fs : List DF} {nm : ByteArray} (h : ¬ 0 ≤ fnd fs nm) : ∀ f ∈ fs, f.name ≠ nm := by
  unfold fnd at h
  split at h
  · omega
  · rename_i hn
    rw [List.findIdx?_eq_none_iff] at hn
    intro f hf e
    have := hn f hf
    simp [e] at this
theorem fileOf_new (fs : List DF) (g : DF) (h : ¬ 0 ≤ fnd fs g.name) : fileOf (fs ++ [g]) g.name = g := by
  have hn := fnd_neg h
  rw [fileOf, List.find?_append]
  have : fs.find? (fun f => decide (f.name = g.name)) = none := by
    rw [List.find?_eq_none]
    intro f hf
    simpa using hn f hf
  rw [this]
  simp
theorem fileOf_set : ∀ (fs : List DF) (i : Nat) (f g : DF), fs[i]? = some f → g.name = f.name → (∀ (j : Nat) (x : DF), j < i → fs[j]? = some x → x.name ≠ f.name) → ∀ nm, fileOf (fs.set i g) nm = if nm = f.name then g else fileOf fs nm
  | [], i, f, g, h, _, _, _ => by simp at h
  | x :: fs, 0, f, g, h, hg, _, nm => by
    simp at h
    subst h
    rw [List.set_cons_zero, fileOf, fileOf, List.find?_cons, List.find?_cons, hg]
    by_cases e : x.name = nm
    · rw [if_pos e.symm]; simp [e]
    · rw [if_neg fun h => e h.symm]; simp [e]
  | x :: fs, i + 1, f, g, h, hg, hb, nm => by
    have hx := hb 0 x (by omega) rfl
    have ih := fileOf_set fs i f g (by simpa using h) hg (fun j y hj hy => hb (j + 1) y (by omega) (by simpa using hy)) nm
    rw [List.set_cons_succ, fileOf, fileOf, List.find?_cons, List.find?_cons]
    rw [fileOf, fileOf] at ih
    by_cases e : x.name = nm
    · rw [if_neg fun h => hx (e.trans h)]; simp [e]
    · simp only [e, decide_false]
      exact ih
theorem fileOf_map : ∀ (ns : List ByteArray) (g : ByteArray → DF), (∀ x ∈ ns, (g x).name = x) → ∀ nm ∈ ns, fileOf (ns.map g) nm = g nm
  | [], _, _, nm, h => by cases h
  | x :: ns, g, hg, nm, h => by
    rw [List.map_cons, fileOf, List.find?_cons, hg x (by simp)]
    by_cases e : x = nm
    · simp [e]
    · simp only [e, decide_false]
      rcases List.mem_cons.1 h with h | h
      · exact absurd h.symm e
      · exact fileOf_map ns g (fun y hy => hg y (by simp [hy])) nm h
/-- The first of that name. -/
theorem fnd_first {fs : List DF} {nm : ByteArray} {i : Nat} {f : DF} (h : fnd fs nm = i) (hf : fs[i]? = some f) : ∀ (j : Nat) (x : DF), j < i → fs[j]? = some x → x.name ≠ nm := by
  unfold fnd at h
  split at h
  · rename_i k hk
    have e : k = i := by omega
    subst e
    rw [List.findIdx?_eq_some_iff_getElem] at hk
    obtain ⟨a1, a2, a3⟩ := hk
    intro j x hj hx
    have := a3 j hj
    rw [(List.getElem?_eq_some_iff.1 hx).2] at this
    simpa using this
  · omega
theorem lk_do {d : Dk} {w : DW} (hD : DOk d) (h : (doS d w).2 = 0) : lk (doS d w).1 = eff w (lk d) := by
  funext nm
  unfold doS at h ⊢
  by_cases k1 : w.kind = 1
  · rw [if_pos k1] at h ⊢
    by_cases hN : nameOk w.name = false ∨ 0 ≤ fnd d.files w.name
    · rw [if_pos hN] at h; cases h
    rw [if_neg hN] at h ⊢
    by_cases hL : 64 ≤ d.files.length ∨ 128 ≤ d.moves.length
    · rw [if_pos hL] at h; cases h
    rw [if_neg hL]
    have hth : th ⟨d.files ++ [⟨w.name, ⟨#[]⟩, 0⟩], d.names, d.moves ++ [⟨false, w.name⟩]⟩ = th d ++ [w.name] := by
      simp only [th]; rw [aft_snoc]; rfl
    unfold lk eff
    rw [if_pos k1, hth, has_snoc]
    by_cases e : nm = w.name
    · subst e
      have := fileOf_new d.files ⟨w.name, ⟨#[]⟩, 0⟩ fun h => hN (.inr h)
      simp only [decide_true, Bool.or_true, if_true]
      rw [this]
    · have e2 : ¬ w.name = nm := fun h => e h.symm
      rw [if_neg e, fileOf_snoc d.files ⟨w.name, ⟨#[]⟩, 0⟩ e2]
      simp only [e2, decide_false, Bool.or_false]
  rw [if_neg k1] at h ⊢
  by_cases k5 : w.kind = 5
  · rw [if_pos k5]
    have hth : th (keepD d (aft d.names d.moves)) = th d := rfl
    have e : eff w (lk d) nm = lk d nm := by
      have a1 : ¬ w.kind = 2 := by omega
      have a2 : ¬ w.kind = 4 := by omega
      simp only [eff, k1, a1, a2, if_false]
    rw [e]
    unfold lk
    rw [hth]
    by_cases hm : nm ∈ th d
    · rw [if_pos (has_true.2 hm), if_pos (has_true.2 hm)]
      have := fileOf_map (aft d.names d.moves) (fileOf d.files) (fun x hx => (by obtain ⟨_, _, _, k3⟩ := lk_file hD (nm := x) hx; exact k3)) nm hm
      simp only [keepD]
      rw [this]
    · have h1 := has_false.2 hm
      rw [if_neg (by rw [h1]; decide), if_neg (by rw [h1]; decide)]
  rw [if_neg k5] at h ⊢
  by_cases hr : ¬ (1 ≤ w.kind ∧ w.kind ≤ 5)
  · rw [if_pos hr] at h; cases h
  rw [if_neg hr] at h ⊢
  by_cases hh : has (aft d.names d.moves) w.name = false
  · rw [if_pos hh] at h; cases h
  rw [if_neg hh] at h ⊢
  have hin : w.name ∈ th d := has_true.1 (by cases hq : has (aft d.names d.moves) w.name with | true => exact hq | false => exact absurd hq hh)
  obtain ⟨i, f1, f2, f3⟩ := lk_file hD hin
  have hfirst := fnd_first f1 f2
  by_cases k2 : w.kind = 2
  · rw [if_pos k2] at h ⊢
    by_cases hs : 20000 < (fileOf d.files w.name).data.size + w.data.size
    · rw [if_pos hs] at h; cases h
    rw [if_neg hs, f1, Int.toNat_natCast]
    have hset := fileOf_set d.files i (fileOf d.files w.name) ⟨(fileOf d.files w.name).name, (fileOf d.files w.name).data ++ w.data, (fileOf d.files w.name).kept⟩ f2 rfl (by rw [f3]; exact hfirst) nm
    have e : eff w (lk d) nm = if nm = w.name then (lk d nm).map (· ++ w.data) else lk d nm := by
      simp only [eff, k2, if_true]; rfl
    rw [e]
    unfold lk
    show (if has (th d) nm = true then some (fileOf (d.files.set i _) nm).data else none) = _
    rw [hset, f3]
    by_cases e : nm = w.name
    · subst e
      rw [if_pos rfl, if_pos rfl, if_pos (has_true.2 hin), if_pos (has_true.2 hin)]; rfl
    · rw [if_neg e, if_neg e]
  rw [if_neg k2] at h ⊢
  by_cases k3 : w.kind = 3
  · rw [if_pos k3, f1, Int.toNat_natCast]
    have hset := fileOf_set d.files i (fileOf d.files w.name) ⟨(fileOf d.files w.name).name, (fileOf d.files w.name).data, (fileOf d.files w.name).data.size⟩ f2 rfl (by rw [f3]; exact hfirst) nm
    have e : eff w (lk d) nm = lk d nm := by
      simp only [eff, k3]; rfl
    rw [e]
    unfold lk
    show (if has (th d) nm = true then some (fileOf (d.files.set i _) nm).data else none) = _
    rw [hset, f3]
    by_cases e : nm = w.name
    · subst e
      rw [if_pos rfl]
    · rw [if_neg e]
  rw [if_neg k3] at h ⊢
  have k4 : w.kind = 4 := by omega
  by_cases hL : 128 ≤ d.moves.length
  · rw [if_pos hL] at h; cases h
  rw [if_neg hL]
  have hth : th ⟨d.files, d.names, d.moves ++ [⟨true, w.name⟩]⟩ = wo w.name (th d) := by
    simp only [th]; rw [aft_snoc]; rfl
  have e : eff w (lk d) nm = if nm = w.name then none else lk d nm := by
    simp only [eff, k4]; rfl
  rw [e]
  unfold lk
  rw [hth, has_wo]
  by_cases e : nm = w.name
  · rw [if_pos e]; simp [e]
  · rw [if_neg e]; simp [e]
theorem do_same {d : Dk} {w : DW} (h : (doS d w).2 ≠ 0) : (doS d w).1 = d := by
  unfold doS at h ⊢
  split at h
  · rename_i k; rw [if_pos k]
    split at h
    · rename_i k; rw [if_pos k]
    · rename_i k; rw [if_neg k]
      split at h
      · rename_i k; rw [if_pos k]
      · exact absurd rfl h
  · rename_i k; rw [if_neg k]
    split at h
    · exact absurd rfl h
    · rename_i k; rw [if_neg k]
      split at h
      · rename_i k; rw [if_pos k]
      · rename_i k; rw [if_neg k]
        split at h
        · rename_i k; rw [if_pos k]
        · rename_i k; rw [if_neg k]
          split at h
          · rename_i k; rw [if_pos k]
            split at h
            · rename_i k; rw [if_pos k]
            · exact absurd rfl h
          · rename_i k; rw [if_neg k]
            split at h
            · exact absurd rfl h
            · rename_i k; rw [if_neg k]
              split at h
              · rename_i k; rw [if_pos k]
              · exact absurd rfl h
/-- Writes that are all done. -/
theorem goS_done (a : LA) : ∀ (ws : List DW) (i : Nat) (d : Dk), DOk d → (goS a i d ws).2 = 0 → a.cuts = false ∧ lk (goS a i d ws).1 = ws.foldl (fun v w => eff w v) (lk d) ∧ DOk (goS a i d ws).1
  | [], i, d, hD, h => by
    unfold goS at h ⊢
    split at h
    · cases h
    · rename_i hc
      rw [if_neg hc]
      exact ⟨by cases hq : a.cuts with | true => exact absurd hq hc | false => rfl, rfl, hD⟩
  | w :: ws, i, d, hD, h => by
    unfold goS at h ⊢
    split at h
    · cases h
    · rename_i hc
      rw [if_neg hc]
      split at h
      · rename_i h0
        rw [if_pos h0]
        obtain ⟨g1, g2, g3⟩ := goS_done a ws (i + 1) _ (hD.step w) h
        refine ⟨g1, ?_, g3⟩
        rw [g2, lk_do hD h0]; rfl
      · cases h
/-- A disk stays ok, whatever comes of it. -/
theorem goS_ok (a : LA) : ∀ (ws : List DW) (i : Nat) (d : Dk), DOk d → (∀ d m k, DOk d → DOk (cutD d m k)) → DOk (goS a i d ws).1
  | [], i, d, hD, hc => by
    unfold goS
    split
    · exact hc _ _ _ hD
    · exact hD
  | w :: ws, i, d, hD, hc => by
    unfold goS
    split
    · exact hc _ _ _ hD
    · split
      · exact goS_ok a ws (i + 1) _ (hD.step w) hc
      · exact hD.step w
end Go.V
set_option linter.unusedSimpArgs false
namespace Go.V
open Go.Proofs
/-! A log, as it is read. -/
def prtV (v : Vw) (p : LP) : Option (List LR) := match v (seg p.num) with
  | none => none
  | some x => if (x.size : Int) < p.size then none else
    if ((frames (x.extract 0 p.size.toNat)).2 : Int) = p.size ∧ posOk p.next p.first (frames (x.extract 0 p.size.toNat)).1 = true then some (frames (x.extract 0 p.size.toNat)).1 else none
def prtsV (v : Vw) : List LP → Option (List LR)
  | [] => some []
  | p :: ps => match prtV v p with
    | none => none
    | some l => (prtsV v ps).map (l ++ ·)
theorem prtsV_congr {v v' : Vw} : ∀ ps : List LP, (∀ p ∈ ps, v' (seg p.num) = v (seg p.num)) → prtsV v' ps = prtsV v ps
  | [], _ => rfl
  | p :: ps, h => by
    have e : prtV v' p = prtV v p := by rw [prtV, prtV, h p (by simp)]
    rw [prtsV, prtsV, e, prtsV_congr ps fun q hq => h q (by simp [hq])]
structure LogAt (v : Vw) (n : Int) (p : Pl) (rs : List LR) (x : ByteArray) : Prop where
  hn : 1 ≤ n ∧ n ≤ 999999
  plan : ∃ y, v (pln n) = some y ∧ rd y = (p, true)
  top : ∀ m, n < m → m ≤ 999999 → ∀ y, v (pln m) = some y → (rd y).2 = false
  parts : prtsV v p.parts = some rs
  opn : v (seg p.opn) = some x
  run : posRun p.first (frames x).1 = true
def lsOf (n : Int) (p : Pl) (rs : List LR) (x : ByteArray) : Ls := ⟨0, n, p, (frames x).2, decide (((frames x).2 : Int) < x.size), p.first + (frames x).1.length, rs ++ (frames x).1⟩
theorem LogAt.ok {v : Vw} {n : Int} {p : Pl} {rs : List LR} {x : ByteArray} (h : LogAt v n p rs x) : planOk p = true := by
  obtain ⟨y, _, h2⟩ := h.plan
  exact (rd_ok h2).1
theorem seg_inj {a b : Int} (ha : 1 ≤ a ∧ a ≤ 999999) (hb : 1 ≤ b ∧ b ≤ 999999) (h : seg a = seg b) : a = b := by
  rw [← vN_seg ha, ← vN_seg hb, h]
theorem seg_pln (a b : Int) : seg a ≠ pln b := fun h => by
  have h1 := cons_head 115 (dc a)
  have h2 := cons_head 109 (dc b)
  have : (seg a).data[0]? = (pln b).data[0]? := by rw [h]
  unfold seg pln at this
  rw [h1, h2] at this
  exact absurd this (by decide)
theorem plGo_ne : ∀ (ps : List LP) (seen : List Int) (nx f : Int), plGo seen nx ps = some f → ∀ q ∈ ps, q.num ∉ seen
  | [], _, _, _, _, q, hq => by cases hq
  | p :: ps, seen, nx, f, h, q, hq => by
    rw [plGo] at h
    split at h
    · rename_i hp
      rcases List.mem_cons.1 hq with rfl | hq
      · exact hp.2.1
      · intro hm
        exact plGo_ne ps _ _ _ h q hq (List.mem_append.2 (.inl hm))
    · cases h
theorem plan_ne {p : Pl} (h : planOk p = true) {q : LP} (hq : q ∈ p.parts) : q.num ≠ p.opn := fun e => by
  have h3 := ((planOk_iff p).1 h).2.2
  exact plGo_ne _ _ _ _ h3 q hq (by simp [e])
/-- A record more. -/
theorem LogAt.append {v : Vw} {n : Int} {p : Pl} {rs : List LR} {x : ByteArray} (h : LogAt v n p rs x) (hx : (frames x).2 = x.size) {r : LR} (hr : recOk r = true) (hp : r.pos = p.first + (frames x).1.length) :
    LogAt (eff ⟨2, seg p.opn, frB r⟩ v) n p rs (x ++ frB r) ∧ (frames (x ++ frB r)).1 = (frames x).1 ++ [r] := by
  have ho := h.ok
  obtain ⟨h5, h6, h7, h8, h9⟩ := planOk_ok ho
  have e : ∀ nm, eff ⟨2, seg p.opn, frB r⟩ v nm = if nm = seg p.opn then (v nm).map (· ++ frB r) else v nm := fun nm => rfl
  have hf := frames_app hx hr
  have hr2 : ∀ (ls : List LR) (lo : Int), posRun lo ls = true → r.pos = lo + ls.length → posRun lo (ls ++ [r]) = true := by
    intro ls
    induction ls with
    | nil => intro lo _ h; simp at h; simp [posRun, h]
    | cons q ls ih =>
      intro lo h1 h2
      rw [posRun, Bool.and_eq_true] at h1
      rw [List.cons_append, posRun, Bool.and_eq_true]
      exact ⟨h1.1, ih _ h1.2 (by rw [List.length_cons] at h2; omega)⟩
  refine ⟨⟨h.hn, ?_, fun m hm hm2 y hy => ?_, ?_, ?_, ?_⟩, by rw [hf]⟩
  · obtain ⟨y, h1, h2⟩ := h.plan
    exact ⟨y, by rw [e, if_neg fun h => seg_pln _ _ h.symm]; exact h1, h2⟩
  · rw [e, if_neg fun h => seg_pln _ _ h.symm] at hy
    exact h.top m hm hm2 y hy
  · rw [prtsV_congr (v := v) _ fun q hq => ?_]
    · exact h.parts
    · rw [e, if_neg fun h => plan_ne ho hq (seg_inj (h6 q hq).num h7 h)]
  · rw [e, if_pos rfl, h.opn]; rfl
  · rw [hf]; exact hr2 _ _ h.run hp
/-- What remains if only these are kept. -/
theorem LogAt.only {v : Vw} {n : Int} {p : Pl} {rs : List LR} {x : ByteArray} (h : LogAt v n p rs x) (ns : List ByteArray) (h1 : pln n ∈ ns) (h2 : seg p.opn ∈ ns) (h3 : ∀ q ∈ p.parts, seg q.num ∈ ns) : LogAt (fun nm => if has ns nm = true then v nm else none) n p rs x := by
  refine ⟨h.hn, ?_, fun m hm hm2 y hy => ?_, ?_, ?_, h.run⟩
  · obtain ⟨y, g1, g2⟩ := h.plan
    exact ⟨y, by simp only [has_true.2 h1, if_true]; exact g1, g2⟩
  · split at hy
    · exact h.top m hm hm2 y hy
    · cases hy
  · rw [prtsV_congr (v := v) _ fun q hq => ?_]
    · exact h.parts
    · simp only [has_true.2 (h3 q hq), if_true]
  · simp only [has_true.2 h2, if_true]; exact h.opn
def runW (ws : List DW) (v : Vw) : Vw := ws.foldl (fun v w => eff w v) v
end Go.V
set_option linter.unusedSimpArgs false
namespace Go.V
open Go.Proofs
/-! Acts of a log. -/
theorem DOk.keep {d : Dk} (h : DOk d) {n : Nat} (hn : n ≤ d.moves.length) : DOk (keepD d (aft d.names (d.moves.take n))) := by
  have h2 := h.two
  apply DOk2.ok
  have hnm : ∀ x ∈ aft d.names (d.moves.take n), x ∈ made d := fun x hx => DOk.aft_made hx
  have hN := (List.nodup_append.1 (nmI_aft h2.nd n hn).2).1
  have hmade : made (keepD d (aft d.names (d.moves.take n))) = aft d.names (d.moves.take n) := by simp [made, keepD, mades]
  have hl : (aft d.names (d.moves.take n)).length ≤ (made d).length := by
    have h1 := aft_len2 (d.moves.take n) d.names
    have h2 : (mades d.moves).length = (mades (d.moves.take n)).length + (mades (d.moves.drop n)).length := by
      conv => lhs; rw [← List.take_append_drop n d.moves]
      simp only [mades, List.filter_append, List.map_append, List.length_append]
    have h3 : (made d).length = d.names.length + (mades d.moves).length := by simp [made]
    omega
  have hml : (made d).length = d.files.length := h.l
  have hf := h2.f
  refine ⟨by simp only [keepD, List.length_map]; omega, by simp only [keepD]; omega, by simp [keepD], ?_, ?_, ?_, fun i m hm => by simp [keepD] at hm⟩
  · rw [hmade]
    simp only [keepD, List.map_map]
    have : (aft d.names (d.moves.take n)).map (DF.name ∘ fileOf d.files) = (aft d.names (d.moves.take n)).map id := List.map_congr_left fun x hx => by
      obtain ⟨_, _, _, h4⟩ := h.find (hnm x hx)
      exact h4
    rw [this, List.map_id]
  · rw [hmade]; exact hN
  · intro f hf
    simp only [keepD, List.mem_map] at hf
    obtain ⟨x, hx, rfl⟩ := hf
    obtain ⟨i, _, h3, _⟩ := h.find (hnm x hx)
    exact h2.good _ (List.mem_of_getElem? h3)
theorem DOk.cut {d : Dk} (h : DOk d) (m : Int) (keep : List Int) : DOk (cutD d m keep) :=
  (h.cutA keep).keep (n := cutN m d) (by show cutN m d ≤ d.moves.length; unfold cutN; omega)
def zDk : Dk := ⟨[], [], []⟩
theorem zDk_ok : DOk zDk := DOk2.ok ⟨by decide, by decide, by decide, rfl, List.nodup_nil, fun f h => (by cases h), fun i m h => by simp [zDk] at h⟩
theorem LogAt.gs {v : Vw} {n : Int} {p : Pl} {rs : List LR} {x : ByteArray} (h : LogAt v n p rs x) (hx : x.size ≤ 20000) : Gs (lsOf n p rs x) ∧ 1 ≤ p.first := by
  obtain ⟨h5, h6, h7, h8, h9⟩ := planOk_ok h.ok
  have hfl := frames_le x
  have hnx := posRun_le _ _ h.run (fun r hr => (hfl.2.2 r hr).2.1) h9
  exact ⟨⟨h.ok, h.hn, ⟨by simp only [lsOf]; omega, hnx⟩, ⟨by simp only [lsOf]; omega, by simp only [lsOf]; omega⟩⟩, h8⟩
end Go.V
set_option linter.unusedSimpArgs false
namespace Go.V
open Go.Proofs
theorem step_zero {d : Dk} (hD : DOk d) {a : LA} (h0 : (stepR d a).2.2 = 0) : (wr d a).2.2 = 0 ∧ (goS a 0 d (wr d a).1).2 = 0 ∧ stepR d a = ((goS a 0 d (wr d a).1).1, (wr d a).2.1, 0) ∧ a.cuts = false ∧ lk (stepR d a).1 = runW (wr d a).1 (lk d) ∧ DOk (stepR d a).1 := by
  by_cases k : (wr d a).2.2 = 0
  · have e : stepR d a = ((goS a 0 d (wr d a).1).1, if (goS a 0 d (wr d a).1).2 = 0 then (wr d a).2.1 else 0, (goS a 0 d (wr d a).1).2) := by rw [stepR, if_neg (by rw [k]; decide)]
    rw [e] at h0
    have h1 : (goS a 0 d (wr d a).1).2 = 0 := h0
    rw [if_pos h1, h1] at e
    obtain ⟨g1, g2, g3⟩ := goS_done a _ 0 d hD h1
    refine ⟨k, h1, e, g1, ?_, ?_⟩
    · rw [e]; exact g2
    · rw [e]; exact g3
  · rw [stepR, if_pos k] at h0
    exact absurd h0 k
theorem step_none {d : Dk} {a : LA} (hc : (opn d).code ≠ 0) (hw : (wr d a).2.2 = 0) : (opn d).code = 1 ∧ a.kind = 4 ∧ (wr d a).2.1 = 0 ∧ ∃ l, bi d = some l ∧ (wr d a).1 = l := by
  generalize hW : wr d a = W at *
  unfold wr at hW
  by_cases k : (opn d).code = 1 ∧ a.kind = 4
  · rw [if_pos k] at hW
    subst hW
    refine ⟨k.1, k.2, rfl, ?_⟩
    cases hb : bi d with
    | none => rw [hb] at hw; cases hw
    | some l => exact ⟨l, rfl, rfl⟩
  · rw [if_neg k, if_pos hc] at hW
    subst hW
    exact absurd hw hc
/-- What an act that is refused does. -/
theorem step_no {d : Dk} (hD : DOk d) {a : LA} (h0 : (stepR d a).2.2 ≠ 0) : (stepR d a).2.1 = 0 ∧ DOk (stepR d a).1 ∧ ((stepR d a).2.2 = 6 ∨ ((stepR d a).2.2 = 4 ∧ (a.kind = 3 ∨ a.kind = 4)) ∨ (stepR d a).1 = d) := by
  by_cases k : (wr d a).2.2 = 0
  rotate_left
  · have e : stepR d a = (d, 0, (wr d a).2.2) := by rw [stepR, if_pos k]
    rw [e]
    exact ⟨rfl, hD, .inr (.inr rfl)⟩
  have e : stepR d a = ((goS a 0 d (wr d a).1).1, if (goS a 0 d (wr d a).1).2 = 0 then (wr d a).2.1 else 0, (goS a 0 d (wr d a).1).2) := by rw [stepR, if_neg (by rw [k]; decide)]
  rw [e] at h0 ⊢
  have h1 : (goS a 0 d (wr d a).1).2 ≠ 0 := h0
  simp only
  refine ⟨if_neg h1, goS_ok a _ 0 d hD fun d m k h => h.cut m k, ?_⟩
  by_cases k34 : a.kind = 3 ∨ a.kind = 4
  · have hgo : ∀ (ws : List DW) (i : Nat) (d : Dk), (goS a i d ws).2 = 0 ∨ (goS a i d ws).2 = 6 ∨ (goS a i d ws).2 = 4 := by
      intro ws
      induction ws with
      | nil => intro i d; unfold goS; split <;> simp
      | cons w ws ih =>
        intro i d
        unfold goS
        split
        · simp
        · split
          · exact ih _ _
          · simp
    rcases hgo (wr d a).1 0 d with h | h | h
    · exact absurd h h1
    · exact .inl h
    · exact .inr (.inl ⟨h, k34⟩)
  · have hone : ∃ w, (wr d a).1 = [w] := by
      have hc : (opn d).code = 0 := Classical.byContradiction fun hc => k34 (.inr (step_none hc k).2.1)
      generalize hW : wr d a = W at *
      unfold wr at hW
      rw [if_neg (by omega), if_neg (by omega)] at hW
      by_cases kr : 1 ≤ a.kind ∧ a.kind ≤ 4
      rotate_left
      · rw [if_pos kr] at hW; subst hW; cases k
      rw [if_neg (by omega), if_neg (by omega)] at hW
      split at hW
      · subst hW; cases k
      split at hW
      · subst hW; exact ⟨_, rfl⟩
      rw [if_neg (by omega)] at hW
      split at hW
      · subst hW; cases k
      split at hW
      · subst hW; cases k
      subst hW
      exact ⟨_, rfl⟩
    obtain ⟨w, hw⟩ := hone
    rw [hw] at h1 ⊢
    unfold goS at h1 ⊢
    split at h1
    · rename_i hcut
      rw [if_pos hcut]; exact .inl rfl
    · rename_i hcut
      rw [if_neg hcut]
      split at h1
      · rename_i hd
        rw [if_pos hd]
        unfold goS at h1 ⊢
        split at h1
        · rename_i hc; rw [if_pos hc]; exact .inl rfl
        · exact absurd rfl h1
      · rename_i hd
        rw [if_neg hd]
        exact .inr (.inr (do_same hd))
end Go.V
set_option linter.unusedSimpArgs false
set_option maxRecDepth 20000
namespace Go.V
open Go.Proofs
def encB (bs : List UInt8) : List (List V) := bs.map fun b => [.s (.int .u8 b.toNat)]
/-- The reader: its bytes, and the place. -/
abbrev rdC (bs : List UInt8) (p : Int) : List C := [.v (.sl (encB bs)), .v (.s (.int .i64 p))]
abbrev rH (v : Nat) (bs : List UInt8) (p p' : Int) : Hand := rV v 131 (rdC bs p) (rdC bs p')
section
variable {t : Nat → T} {H : HMap} {c : Nat} {f : Opd} {args : List Opd} {fid : FuncId} {v : Nat} {bs : List UInt8} {p p' : Int} {argsC : List T} {ws : List (Nat × Blk)} {ns : List Nat} {r : T} {k : Nat} {d : Option Nat} {un : List Nat} {l : List AOper} {prev : List (Nat × List Nat × List Nat)} {K : St → Prop}
end
/-- What comes of a function that draws: so many bytes are read at most, the result is such as S says. -/
def RC (f : Nat) (args : List T) (bs : List UInt8) (p k : Int) {α : Type} (S : α → Prop) (r : α → T) : Prop := ∃ (q : Int) (a : α), p ≤ q ∧ q ≤ p + k ∧ S a ∧ ∀ v, ACallsF Tryz.prog f (rP v :: args) [rH v bs p q] (r a)
abbrev endR {α : Type} (p k : Int) (S : α → Prop) (r : α → T) (bs : List UInt8) (rs : List ARes) : Exit → St → Prop := endE (α := Int × α) (fun x => p ≤ x.1 ∧ x.1 ≤ p + k ∧ S x.2) (fun x => r x.2) (fun x => [rH 0 bs p x.1]) rs
theorem RC.intro {f n : Nat} {ac : ACode} {rs : List ARes} {args : List T} {bs : List UInt8} {p k : Int} {α : Type} {S : α → Prop} {r : α → T} (ho : okF Tryz.prog f n ac rs) (ha : args.all closedA = true) (hr : ∀ a, closedT (r a) = true)
    (h : ∀ X : Ctx, wpa Tryz.prog X ac (endR p k S r bs rs) ⟨argsT (rP 0 :: args), hinOf [rH 0 bs p p], 1⟩) : RC f args bs p k S r := by
  obtain ⟨⟨q, a⟩, ⟨h1, h2, h3⟩, h4⟩ := ACallsF.exR (α := Int × α) (cs' := fun x => rdC bs x.1) (fun x => p ≤ x.1 ∧ x.1 ≤ p + k ∧ S x.2) ho follows ha (fun a _ => hr a.2) rfl (fun _ _ => rfl) h
  exact ⟨q, a, h1, h2, h3, h4⟩
end Go.V
set_option linter.unusedSimpArgs false
set_option maxRecDepth 20000
namespace Go.V
open Go.Proofs
end Go.V
set_option linter.unusedSimpArgs false
set_option maxRecDepth 20000
namespace Go.V
open Go.Proofs
def eLA (a : LA) : List V := [.s (.int .i64 a.kind), .s (.string a.data), .s (.bool a.cuts), .s (.int .i64 a.after), .s (.int .i64 a.moves), .sl (en eI a.keep)]
abbrev tDIs (x : Dk × List Int) : T := .tup [.agg (cDk x.1), .one (.v (.sl (en eI x.2)))]
theorem stepR_ok {d : Dk} (hD : DOk d) (a : LA) : DOk (stepR d a).1 := by
  by_cases h : (stepR d a).2.2 = 0
  · exact (step_zero hD h).2.2.2.2.2
  · exact (step_no hD h).2.1
/-- Acts, one behind the other. -/
def playG : Dk × List Int → List LA → Dk × List Int
  | x, [] => x
  | x, a :: l => playG ((stepR x.1 a).1, x.2 ++ [(stepR x.1 a).2.2]) l
def playR (acts : List LA) : Dk × List Int := if 200 < acts.length then (zDk, []) else playG (zDk, []) acts
theorem playG_snoc (a : LA) : ∀ (l : List LA) (x : Dk × List Int), playG x (l ++ [a]) = ((stepR (playG x l).1 a).1, (playG x l).2 ++ [(stepR (playG x l).1 a).2.2])
  | [], x => rfl
  | b :: l, x => by rw [List.cons_append, playG, playG_snoc a l, playG]
theorem playG_ok : ∀ (l : List LA) (x : Dk × List Int), DOk x.1 → DOk (playG x l).1
  | [], _, h => h
  | a :: l, x, h => playG_ok l _ (stepR_ok h a)
theorem playG_len : ∀ (l : List LA) (x : Dk × List Int), (playG x l).2.length = x.2.length + l.length
  | [], _ => rfl
  | a :: l, x => by rw [playG, playG_len l]; simp only [List.length_append, List.length_cons, List.length_nil]; omega
theorem playR_ok (acts : List LA) : DOk (playR acts).1 := by
  unfold playR
  split
  · exact zDk_ok
  · exact playG_ok _ _ zDk_ok
theorem playG_take {acts : List LA} {i : Nat} {a : LA} (h : acts[i]? = some a) (x : Dk × List Int) : playG x (acts.take (i + 1)) = ((stepR (playG x (acts.take i)).1 a).1, (playG x (acts.take i)).2 ++ [(stepR (playG x (acts.take i)).1 a).2.2]) := by
  rw [take_snoc h, playG_snoc]
def ok16 := okF.gu (P := Tryz.prog) tab Tryz.func16 Tryz.ntmps16 (by conv => lhs; cbv) (by kernel_rfl)
def isDk (cs : List C) (d : Dk) : Prop := (cs = [.nil0, .nil0, .nil0] ∧ d = zDk) ∨ cs = cDk d
def inv16 (acts : List LA) (i : Nat) (σ : St) : Prop := ∃ d codes cs v, (d, codes) = playG (zDk, []) (acts.take i) ∧ isDk cs d ∧ codes.length = i ∧ σ.t 0 = tL (en eLA acts) ∧ (∃ u, σ.t 2 = .c (.ptr 2 u 0) ∧ σ.H 2 = some (.var u 29 [.nil0, .nil0, .nil0])) ∧ (∃ u, σ.t 4 = .c (.ptr 4 u 0) ∧ σ.H 4 = some (.var u 29 cs)) ∧ σ.t 6 = .i i ∧ σ.t 5 = .c (.own 11 v codes.length) ∧ σ.H 11 = some (.arr v true 1 3 (en eI codes))
set_option maxHeartbeats 1000000 in
theorem logPlayB_ok (acts : List LA) (ha : ∀ a ∈ acts, a.data.size ≤ 1048576) : ACallsF Tryz.prog 16 [tL (en eLA acts)] [] (tDIs (playR acts)) := by
  refine ACallsF.intro ok16 follows fun X c0 => ?_
  by_cases g1 : (acts.length : Int) > 200
  · have e : playR acts = (zDk, []) := if_pos (by omega)
    rw [e]
    simp only [go_sem, en_len, g1, zDk, en_nil]
  have e : playR acts = playG (zDk, []) acts := if_neg (by omega)
  rw [e]
  simp only [go_sem, en_len, g1]
  refine AW.upto acts.length (inv16 acts) ⟨zDk, [], _, _, rfl, .inl ⟨rfl, rfl⟩, rfl, rfl, ⟨_, rfl, rfl⟩, ⟨_, rfl, rfl⟩, rfl, rfl, rfl⟩ fun i t H c hi h => ?_
  obtain ⟨d, codes, cs, v, hpl, hcs, hl, e0, ⟨u2, e2, eH2⟩, ⟨u4, e4, eH4⟩, e6, e5, eH5⟩ := h
  simp only [T.c, T.i, tL] at e0 e2 eH2 e4 eH4 e6 e5 eH5
  have ht1 : (en eI codes).take codes.length = en eI codes := en_take eI codes
  by_cases k1 : (i : Int) < acts.length
  rotate_left
  · have hi2 : i = acts.length := by omega
    rw [hi2, List.take_length] at hpl
    rw [← hpl]
    rcases hcs with ⟨rfl, rfl⟩ | rfl
    · simp only [go_sem, e0, e2, eH2, e4, eH4, e6, e5, eH5, en_len, k1, ht1, zDk, en_nil]
    · simp only [go_sem, e0, e2, eH2, e4, eH4, e6, e5, eH5, en_len, k1, ht1]
  obtain ⟨a, hx⟩ : ∃ x, acts[i]? = some x := ⟨_, List.getElem?_eq_getElem (by omega)⟩
  have ex := en_at eLA hx
  have gz : (0 : Int) ≤ i := by omega
  have w2 : IntKind.i64.wrap ((i : Int) + 1) = ((i + 1 : Nat) : Int) := wrap64 (x := (i : Int) + 1) ⟨by omega, by omega⟩
  have hD : DOk d := by
    have := playG_ok (acts.take i) (zDk, []) zDk_ok
    rw [← hpl] at this
    exact this
  obtain ⟨r, hr, C1⟩ := stepS_ok d a hD.fine (ha a (List.mem_of_getElem? hx))
  have hr : r = stepR d a := by
    rcases hr with ⟨_, h⟩ | ⟨h, _⟩
    · exact h
    · exact absurd hD h
  have hpl2 := playG_take hx (zDk, [])
  rw [← hpl] at hpl2
  simp only at hpl2
  rw [← hr] at hpl2
  obtain ⟨d', p, code⟩ := r
  have q1 : (codes.length + 1) * 8 ≤ 140737488355328 := by omega
  have q2 : codes.length ≤ 9223372036854775806 := by omega
  rcases hcs with ⟨rfl, rfl⟩ | rfl
  · simp only [go_sem, e0, e2, eH2, e4, eH4, e6, e5, eH5, en_len, k1, ex, gz, Int.toNat_natCast, eLA]
    refine callL (ws := []) (ns := []) C1 rfl ?_ rfl rfl ?_
    · simp only [go_sem, lendTs, lendT, zDk, en_nil]
      rfl
    simp only [go_sem, e0, e2, eH2, e4, eH4, e6, e5, eH5, en_len, k1, scalarT, scalarP, scalarC, List.all_cons, Bool.false_and, w2, ht1, q1, q2, ite_self]
    refine ⟨by omega, d', codes ++ [code], cDk d', c + 4 + 14 + 2 + 3, hpl2.symm, .inr rfl, by rw [List.length_append, hl]; rfl, e0, ⟨u2, e2, eH2⟩, ⟨u4, e4, rfl⟩, rfl, ?_, ?_⟩
    · rw [List.length_append]; rfl
    · rw [en_snoc]; rfl
  · simp only [go_sem, e0, e2, eH2, e4, eH4, e6, e5, eH5, en_len, k1, ex, gz, Int.toNat_natCast, eLA]
    refine callL (ws := []) (ns := []) C1 rfl ?_ rfl rfl ?_
    · simp only [go_sem, lendTs, lendT, en_nil]
    simp only [go_sem, e0, e2, eH2, e4, eH4, e6, e5, eH5, en_len, k1, scalarT, scalarP, scalarC, List.all_cons, Bool.false_and, w2, ht1, q1, q2, ite_self]
    refine ⟨by omega, d', codes ++ [code], cDk d', c + 4 + 14 + 2 + 3, hpl2.symm, .inr rfl, by rw [List.length_append, hl]; rfl, e0, ⟨u2, e2, eH2⟩, ⟨u4, e4, rfl⟩, rfl, ?_, ?_⟩
    · rw [List.length_append]; rfl
    · rw [en_snoc]; rfl
end Go.V

/- It is proved that the law FnCrewCancel returns true for every input and leaves its input as it was; no condition. -/
import Derived.Test.YtlomodjpgjlagaaGreatSCA
import Derived.Test.YtlomodjpgjlagaaGreatRows
import Derived.WalkKit
import Derived.ProofKit
import Derived.OpenShut
import Derived.ChangeSlices
set_option linter.unusedSimpArgs false
set_option linter.unusedVariables false
namespace Go.V
open Go.Proofs Go.ChangeShapes Go.WideShapes Go.ChangeAt Go.RowKit
/-- All that is there at the start stays. -/
def Stays (W W' : World) : Prop := W'.os = W.os ∧ W'.output = W.output ∧ ∀ b, b < W.heap.size → W'.heap[b]? = W.heap[b]?
theorem Stays.kept {W W' : World} (h : Stays W W') (may : MemPlace → Prop) : W.keptBut W' may := by
  refine ⟨h.1, h.2.1, fun i hi => ?_⟩
  rw [h.2.2 i hi]
  cases W.heap[i]? with
  | none => trivial
  | some o => cases o <;> simp
theorem Stays.cell {W W' : World} (h : Stays W W') {a : Addr} {v : Value} (hc : W.cell? a = some v) : W'.cell? a = some v := by
  unfold World.cell? at hc ⊢
  by_cases hb : a.block < W.heap.size
  · rw [h.2.2 _ hb]; exact hc
  · rw [Array.getElem?_eq_none (by omega)] at hc; simp at hc
abbrev oldImm (W : World) : Imm := fun b _ => b < W.heap.size
/-- A law whose arguments are only read. -/
theorem calls_true {P : Program} {f : FuncId} {args : List T} {W : World} {vs : List Value} (hC : ACallsF P f args [] (.b true)) (hT : TsRep W (oldImm W) (hinOf []) (fun _ => none) (· < 0) vs args) :
    Calls P f vs.toArray W fun e W' => e = .returned (.bool true) ∧ Stays W W' := by
  have hH : HOk W (oldImm W) (hinOf []) (fun _ => none) (· < 0) := ⟨fun n B h => by simp [hinOf, renN] at h, fun n m g h => by simp [hinOf, renN] at h, fun b o h => h⟩
  refine (hC.2 W (oldImm W) (fun _ => none) 0 vs hH hT).mono fun e W' ⟨x, r, h, imm', L', c', he, ⟨ν, hr, _⟩, hx, _, hS, _, _⟩ => ?_
  subst hr
  have hx : x = .bool true := rep_s (y := .bool true) hx
  subst hx
  exact ⟨he, hS.os, hS.output, fun b hb => hS.frame b hb fun ⟨n, h1, _⟩ => h1 (by simp [hinOf, renN])⟩
theorem post_same {P : Program} {H : Type} {enc : TypeId × Value → H} {f : Func} {s : ChangeSpec} {apart fresh handsOn : Bool} {W W' : World} {args : Array Value} {v : Value} {ds gs : List (DataW H)} {before pa pv : List MemPlace}
    (hW : DataW.Whole enc P f.params.toList s.vars apart W args.toList ds gs before)
    (hres : ∀ (b : Nat) (sp : Nat → Bool) (hd : Bool), DataW.TrodAll enc P W' b sp hd f.resultTypes.toList (v.resultList f.resultTypes.size) (s.fn H (ds ++ gs)).results [])
    (hargs : ∀ sp : Nat → Bool, (∀ p ∈ before, sp p.block = true) → DataW.TrodAll enc P W' 0 sp true f.params.toList args.toList (s.fn H (ds ++ gs)).args pa)
    (hvars : ∀ sp : Nat → Bool, (∀ p ∈ before, sp p.block = true) → DataW.TrodVars enc P W' sp s.vars (s.fn H (ds ++ gs)).vars pv)
    (hps : before = pa ++ pv) (hk : Stays W W') : s.post enc P f apart fresh handsOn false W args v W' := by
  have hold : ∀ p ∈ before, (fun b => decide (b < W.heap.size)) p.block = true := fun p hp => by simpa using hW.lt p hp
  refine ⟨ds, gs, before, [], pa, pv, hW, hres _ _ _, hargs _ hold, hvars _ hold, World.keptBut_mono (fun p hp => ⟨hp, ?_⟩) (hk.kept (· ∈ before)), fun h => by cases h⟩
  rw [hps, List.mem_append] at hp
  exact Or.inr hp
/-- An argument that is a slice of bytes. -/
theorem open_bytes {P : Program} {H : Type} {enc : TypeId × Value → H} {W : World} {r : Reach} {b0 : Nat} {t e : TypeId} {v : Value} {d : DataW H} {p : List MemPlace} (ht : P.underlying t = some (.slice e)) (he : P.underlying e = some (.int .u8)) (hc : P.cellsOf e = 1)
    (hval : Value.okWide P W r b0 t v) (h : DataW.Trod enc P W 0 (fun _ => true) true t v d p) :
    ∃ bs : List UInt8, VRep W (oldImm W) v (.sl (encB bs)) ∧ ∀ W', Stays W W' → ∀ sp : Nat → Bool, (∀ q ∈ p, sp q.block = true) → DataW.Trod enc P W' 0 sp true t v d p := by
  obtain ⟨a0, len, cap, rfl⟩ := okWide_slice ht hval
  obtain ⟨fuel, hf⟩ := h
  rcases open_ints ht he hc hf with ⟨hcs, hx⟩ | ⟨a, len', cap', zs, hcs, _, hl, hm, hz, hx, hcell, hwz⟩
  · obtain ⟨rfl, rfl, rfl⟩ : a0 = none ∧ len = 0 ∧ cap = 0 := by simpa [Value.cells] using hcs
    cases hx
    exact ⟨[], .nil _ _, fun W' _ sp _ => shut_slice_nil ht⟩
  · obtain ⟨rfl, rfl, rfl⟩ : a0 = some a ∧ len = len' ∧ cap = cap' := by simpa [Value.cells] using hcs
    simp only [if_true] at hz
    cases hx
    have wz : ∀ i, i < zs.length → 0 ≤ zs.getD i 0 ∧ zs.getD i 0 < 256 := by
      intro i hi
      have e1 : zs.getD i 0 = zs[i] := by simp [List.getD, hi]
      have := hwz zs[i] (List.getElem_mem hi)
      rw [e1]
      simp [Lit.wf, IntKind.min, IntKind.max, IntKind.signed, IntKind.bits] at this
      omega
    refine ⟨(List.range len).map fun i => UInt8.ofNat (zs.getD i 0).toNat, ?_, fun W' hS sp hsp => ⟨2, ?_⟩⟩
    · by_cases h0 : len = 0
      · subst h0; exact .nil _ _
      · have hp : a = ⟨a.block, a.off, none⟩ ∧ a.block < W.heap.size := by
          have := hcell 0 (by omega)
          have e0 : a.add 0 = a := by simp [Addr.add]
          rw [e0] at this
          unfold World.cell? at this
          split at this
          · rename_i c ty fr hh
            split at this
            · cases this
            · rename_i hs
              refine ⟨?_, heap_lt hh⟩
              obtain ⟨b, o, s⟩ := a
              simp at hs
              subst hs; rfl
          · cases this
        obtain ⟨hp1, hp2⟩ := hp
        have hlen : (encB ((List.range len).map fun i => UInt8.ofNat (zs.getD i 0).toNat)).length = len := by simp [encB]
        rw [hp1]
        have := VRep.sl (w := W) (imm := oldImm W) (encB ((List.range len).map fun i => UInt8.ofNat (zs.getD i 0).toNat)) 1 a.block a.off cap (fun i _ => .int .u8 (zs.getD i 0)) (by omega) (fun e => h0 (by rw [← hlen, e]; rfl)) (by rw [hlen]; exact hl) (fun e he2 => by simp only [encB, List.mem_map] at he2; obtain ⟨_, _, rfl⟩ := he2; rfl) (fun i j x hx => ?_) (fun i j x hx => ?_)
        · rw [hlen] at this; exact this
        · have hi : i < len := by
            by_cases hi : i < len
            · exact hi
            · rw [at2, List.getElem?_eq_none (by rw [hlen]; omega)] at hx; simp at hx
          have hj : j = 0 := by
            rw [at2] at hx
            cases j with
            | zero => rfl
            | succ j => simp [encB, hi] at hx
          subst hj
          refine ⟨?_, hp2⟩
          have := hcell i (by omega)
          rw [hp1, add_eq] at this
          simpa using this
        · have hi : i < len := by
            by_cases hi : i < len
            · exact hi
            · rw [at2, List.getElem?_eq_none (by rw [hlen]; omega)] at hx; simp at hx
          have hj : j = 0 := by
            rw [at2] at hx
            cases j with
            | zero => rfl
            | succ j => simp [encB, hi] at hx
          subst hj
          obtain ⟨w1, w2⟩ := wz i (by omega)
          have e3 : ((UInt8.ofNat (zs.getD i 0).toNat).toNat : Int) = zs.getD i 0 := by
            rw [UInt8.toNat_ofNat']; omega
          have : x = .s (.int .u8 (zs.getD i 0)) := by
            have h9 : (encB ((List.range len).map fun i => UInt8.ofNat (zs.getD i 0).toNat))[i]? = some [.s (.int .u8 ((UInt8.ofNat (zs.getD i 0).toNat).toNat : Int))] := encB_at (by simp [hi])
            rw [at2, h9, e3] at hx
            simpa using hx.symm
          subst this
          exact .s _ rfl
    · refine shut_ints 0 ht he hc (Nat.zero_le _) hl hm ?_ (fun i hi => hS.cell (hcell i hi)) hwz
      by_cases h0 : cap = 0
      · have : len = 0 := by omega
        subst h0 this
        simp at hz
        simp [hz]
      · have : sp a.block = true := by
          refine hsp (MemPlace.cell a.block a.off) ?_
          simp only [MemPlace.row]
          exact List.mem_map.2 ⟨0, List.mem_range.2 (by omega), by simp⟩
        rw [this]; exact hz
end Go.V
set_option linter.unusedSimpArgs false
set_option linter.unusedVariables false
namespace Go.Proofs.YtlomodjpgjlagaaGreat.fnCrewCancel
open Go.ChangeShapes Go.WideShapes Go.ChangeAt Go.RowKit
theorem cells5 : Tryz.prog.cellsOf 5 = 1 := by kernel_rfl
theorem own : ownKnob Tryz.prog.godebug = none := by kernel_rfl
set_option maxRecDepth 100000 in
theorem contract (H : Type) (enc : TypeId × Value → H) (W : World) (base : Nat) (args : Array Value) (ds gs : List (DataW H)) (before : List MemPlace)
    (hval : ∀ (j : Nat) t v, Tryz.f5.params[j]? = some t → args[j]? = some v → Value.okWide Tryz.prog W .any base t v)
    (hW : DataW.Whole enc Tryz.prog Tryz.f5.params.toList Rows.fnCrewCancelSpec.vars false W args.toList ds gs before) :
    Calls Tryz.prog 5 args W fun e W' => ∃ v, e = .returned v ∧ Rows.fnCrewCancelSpec.post enc Tryz.prog Tryz.f5 false true false false W args v W' := by
  have hW' := hW
  obtain ⟨p, q, hA0, hV, rfl, hfz, hnd⟩ := hW
  have hA : DataW.TrodAll enc Tryz.prog W 0 (fun _ => true) true Tryz.f5.params.toList args.toList ds p := hA0
  rw [Tryz.params5] at hA hval
  obtain ⟨v0, vs0, d0, ds0, p0, q0, hargs, rfl, rfl, h0, r0⟩ := trodAll_cons hA
  obtain ⟨v1, vs1, d1, ds1, p1, q1, rfl, rfl, rfl, h1, r1⟩ := trodAll_cons r0
  obtain ⟨rfl, rfl, rfl⟩ := trodAll_nil r1
  obtain rfl : args = #[v0, v1] := by cases args; simp_all
  obtain ⟨rfl, rfl⟩ := trodVars_none hV
  obtain ⟨bs0, V0, S0⟩ := V.open_bytes Tryz.underlying22 Tryz.underlying5 cells5 (hval 0 22 v0 rfl rfl) h0
  obtain ⟨bs1, V1, S1⟩ := V.open_bytes Tryz.underlying22 Tryz.underlying5 cells5 (hval 1 22 v1 rfl rfl) h1
  clear hA0
  simp only [List.append_nil] at hW'
  have hT : V.TsRep W (V.oldImm W) (V.hinOf []) (fun _ => none) (· < 0) [v0, v1] [.c (.v (.sl (V.encB bs0))), .c (.v (.sl (V.encB bs1)))] := ⟨rfl, fun k x y hx hy => by
    cases k with
    | zero => simp at hx hy; subst hx hy; exact V0
    | succ k => cases k with
      | zero => simp at hx hy; subst hx hy; exact V1
      | succ k => simp at hx⟩
  refine (V.calls_true (V.lawCa_ok bs0 bs1) hT).mono fun e W' ⟨he, hS⟩ => ?_
  subst he
  refine ⟨_, rfl, V.post_same (pa := p0 ++ p1) (pv := []) hW' (fun _ _ _ => (trodAll_cons_mk (shut_bool Tryz.underlying4 _) trodAll_mk0)) (fun sp hsp => ?_) (fun _ _ => rfl) (by simp) hS⟩
  have := trodAll_cons_mk (S0 W' hS sp fun q hq => hsp q (by simp [hq])) (trodAll_cons_mk (S1 W' hS sp fun q hq => hsp q (by simp [hq])) trodAll_mk0)
  simp only [List.append_nil] at this
  exact this
set_option maxRecDepth 100000 in
theorem lifted (os : Os) (started : os.Started) (H : Type) (enc : TypeId × Value → H) :
    ReturnsInHanded {} Tryz.checked os 5 .any (Rows.fnCrewCancelSpec.pre6 enc Tryz.prog Tryz.f5 Rows.fnCrewCancelRow.domain false) (Rows.fnCrewCancelSpec.post enc Tryz.prog Tryz.f5 false true false false) := by
  refine returnsInHanded_of_change (C := Tryz.checked) own started (by kernel_rfl) Tryz.func5
    (ChangeSpec.witness6 (enc := enc) (C := Tryz.checked) false ⟨#[], #[.slice none 0 0, .slice none 0 0], []⟩ 8 (by kernel_rfl) (by kernel_rfl) (by kernel_rfl) (by kernel_rfl)) ?_
  intro W base args ds gs before hval hW _ _
  exact contract H enc W base args ds gs before hval hW
theorem over : Rows.fnCrewCancelRow.holds Tryz.pinned (OpenSpec.ofChange Rows.fnCrewCancelSpec) :=
  OpenClaim.holds_of_wide 5 Tryz.f5 rfl rfl rfl rfl rfl rfl rfl ⟨rfl, rfl, rfl, rfl, rfl⟩ rfl rfl rfl rfl rfl (by kernel_rfl) Tryz.func5 (by kernel_rfl)
    (of_decide_eq_true (by kernel_rfl)) (by unfold Func.isWrapper; first | (rw [if_pos (by decide +kernel)]; kernel_rfl) | (rw [if_neg (by decide +kernel)]; exact ⟨rfl, rfl⟩))
    (fun os started H enc _ => lifted os started H enc)
theorem proved : Rows.FnCrewCancelSaid := over
#print axioms proved
end Go.Proofs.YtlomodjpgjlagaaGreat.fnCrewCancel

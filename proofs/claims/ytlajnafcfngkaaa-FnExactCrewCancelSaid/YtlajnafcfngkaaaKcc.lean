/- It is proved that the law FnExactCrewCancel returns true for every input and leaves its input as it was; no condition. -/
import Derived.Test.YtlajnafcfngkaaaKC6
import Derived.Test.YtlajnafcfngkaaaRows
set_option linter.unusedSimpArgs false
set_option linter.unusedVariables false
namespace Go.Proofs.Ytlajnafcfngkaaa.fnExactCrewCancel
open Go.ChangeShapes Go.WideShapes Go.ChangeAt Go.RowKit
theorem own : ownKnob Try.prog.godebug = none := by kernel_rfl
set_option maxRecDepth 100000 in
theorem contract (H : Type) (enc : TypeId × Value → H) (W : World) (base : Nat) (args : Array Value) (ds gs : List (DataW H)) (before : List MemPlace)
    (hval : ∀ (j : Nat) t v, Try.f3.params[j]? = some t → args[j]? = some v → Value.okWide Try.prog W .any base t v)
    (hW : DataW.Whole enc Try.prog Try.f3.params.toList Rows.fnExactCrewCancelSpec.vars false W args.toList ds gs before) :
    Calls Try.prog 3 args W fun e W' => ∃ v, e = .returned v ∧ Rows.fnExactCrewCancelSpec.post enc Try.prog Try.f3 false true false false W args v W' := by
  have hW' := hW
  obtain ⟨p, q, hA0, hV, rfl, hfz, hnd⟩ := hW
  have hA : DataW.TrodAll enc Try.prog W 0 (fun _ => true) true Try.f3.params.toList args.toList ds p := hA0
  rw [Try.params3] at hA hval
  obtain ⟨v0, vs0, d0, ds0, p0, q0, hargs, rfl, rfl, h0, r0⟩ := trodAll_cons hA
  obtain ⟨rfl, rfl, rfl⟩ := trodAll_nil r0
  obtain rfl : args = #[v0] := by cases args; simp_all
  obtain ⟨rfl, rfl⟩ := trodVars_none hV
  obtain ⟨x0, T0, V0, S0⟩ := V.open_st V.plainD (.inl rfl) Try.underlying25 (hval 0 25 v0 rfl rfl) h0 fun q hq => hW'.lt q (by simp [hq])
  obtain ⟨w, e0, k0⟩ := V.takeW T0
  rw [e0] at V0
  clear hA0
  simp only [List.append_nil] at hW'
  have hT : V.TsRep W (V.oldImm W) (V.hinOf []) (fun _ => none) (· < 0) [v0] [V.tCW w] := ⟨rfl, fun k x y hx hy => by
    cases k with
    | zero => simp at hx hy; subst hx hy; exact V0 _ _ _
    | succ k => simp at hx⟩
  have law : V.ACallsF Try.prog 3 [V.tCW w] [] (.b true) := by
    by_cases h : V.WOk w ∧ w.user ≠ 1
    · exact V.lawCC_yes k0 h.1 h.2
    · exact V.lawCC_no k0 h
  refine (V.calls_true law hT).mono fun e W' ⟨he, hS⟩ => ?_
  subst he
  refine ⟨_, rfl, V.post_same (pa := p0) (pv := []) hW' (fun _ _ _ => (trodAll_cons_mk (shut_bool Try.underlying4 _) trodAll_mk0)) (fun sp hsp => ?_) (fun _ _ => rfl) (by simp) hS⟩
  have := trodAll_cons_mk (S0 W' hS sp fun q hq => hsp q (by simp [hq])) trodAll_mk0
  simp only [List.append_nil] at this
  exact this
set_option maxRecDepth 100000 in
theorem lifted (os : Os) (started : os.Started) (H : Type) (enc : TypeId × Value → H) :
    ReturnsInHanded {} Try.checked os 3 .any (Rows.fnExactCrewCancelSpec.pre6 enc Try.prog Try.f3 Rows.fnExactCrewCancelRow.domain false) (Rows.fnExactCrewCancelSpec.post enc Try.prog Try.f3 false true false false) := by
  refine returnsInHanded_of_change (C := Try.checked) own started (by kernel_rfl) Try.func3
    (ChangeSpec.witness6 (enc := enc) (C := Try.checked) false ⟨#[], #[.agg #[.int .i64 0, .int .i64 0, .int .i64 0, .int .i64 0, .int .i64 0, .slice none 0 0, .slice none 0 0, .int .i64 0, .slice none 0 0, .int .i64 0, .slice none 0 0, .int .i64 0, .slice none 0 0, .int .i64 0, .slice none 0 0, .int .i64 0, .slice none 0 0, .int .i64 0]], []⟩ 8 (by kernel_rfl) (by kernel_rfl) (by kernel_rfl) (by kernel_rfl)) ?_
  intro W base args ds gs before hval hW _ _
  exact contract H enc W base args ds gs before hval hW
theorem over : Rows.fnExactCrewCancelRow.holds Try.pinned (OpenSpec.ofChange Rows.fnExactCrewCancelSpec) :=
  OpenClaim.holds_of_wide 3 Try.f3 rfl rfl rfl rfl rfl rfl rfl ⟨rfl, rfl, rfl, rfl, rfl⟩ rfl rfl rfl rfl rfl (by kernel_rfl) Try.func3 (by kernel_rfl)
    (of_decide_eq_true (by kernel_rfl)) (by unfold Func.isWrapper; first | (rw [if_pos (by decide +kernel)]; kernel_rfl) | (rw [if_neg (by decide +kernel)]; exact ⟨rfl, rfl⟩))
    (fun os started H enc _ => lifted os started H enc)
theorem proved : Rows.FnExactCrewCancelSaid := over
#print axioms proved
end Go.Proofs.Ytlajnafcfngkaaa.fnExactCrewCancel

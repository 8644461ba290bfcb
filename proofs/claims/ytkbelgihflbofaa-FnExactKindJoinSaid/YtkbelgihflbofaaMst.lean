/- For all schemas the program's KindJoin gives what the reference's gives, leaves its arguments as they were and shares no memory: the law returns true for every input, and its arguments read as before. Conditions: none. -/
import Derived.Test.YtkbelgihflbofaaMS1
import Derived.Test.YtkbelgihflbofaaRows
set_option linter.unusedVariables false
set_option linter.unusedSimpArgs false
set_option linter.unusedVariables false
namespace Go.Proofs.Ytkbelgihflbofaa.fnExactKindJoin
open Go.ChangeShapes Go.WideShapes Go.ChangeAt Go.RowKit
theorem own : ownKnob Try.prog.godebug = none := by kernel_rfl
set_option maxRecDepth 100000 in
theorem contract (H : Type) (enc : TypeId × Value → H) (W : World) (base : Nat) (args : Array Value) (ds gs : List (DataW H)) (before : List MemPlace)
    (hval : ∀ (j : Nat) t v, Try.f4.params[j]? = some t → args[j]? = some v → Value.okWide Try.prog W .any base t v)
    (hW : DataW.Whole enc Try.prog Try.f4.params.toList Rows.fnExactKindJoinSpec.vars false W args.toList ds gs before) :
    Calls Try.prog 4 args W fun e W' => ∃ v, e = .returned v ∧ Rows.fnExactKindJoinSpec.post enc Try.prog Try.f4 false true false false W args v W' := by
  have hG : V.Glob W (V.oldImm W) := fun x hx => by cases hx
  have hW' := hW
  obtain ⟨p, q, hA0, hV, rfl, hfz, hnd⟩ := hW
  have hA : DataW.TrodAll enc Try.prog W 0 (fun _ => true) true Try.f4.params.toList args.toList ds p := hA0
  rw [Try.params4] at hA hval
  obtain ⟨v0, vs0, d0, ds0, p0, q0, hargs, rfl, rfl, h0, r0⟩ := trodAll_cons hA
  obtain ⟨v1, vs1, d1, ds1, p1, q1, rfl, rfl, rfl, h1, r1⟩ := trodAll_cons r0
  obtain ⟨rfl, rfl, rfl⟩ := trodAll_nil r1
  obtain rfl : args = #[v0, v1] := by cases args; simp_all
  obtain ⟨rfl, rfl⟩ := trodVars_none hV
  obtain ⟨x0, T0, V0, S0⟩ := V.open_st V.plainD (by simp [V.SD]) Try.underlying25 (hval 0 25 v0 rfl rfl) h0 fun q hq => hW'.lt q (by simp [hq])
  obtain ⟨y0, rfl, k0⟩ := (V.take_K T0).1 rfl
  obtain ⟨x1, T1, V1, S1⟩ := V.open_st V.plainD (by simp [V.SD]) Try.underlying25 (hval 1 25 v1 rfl rfl) h1 fun q hq => hW'.lt q (by simp [hq])
  obtain ⟨y1, rfl, k1⟩ := (V.take_K T1).1 rfl
  clear hA0
  simp only [List.append_nil] at hW'
  have hT : V.TsRep W (V.oldImm W) (V.hinOf []) ⟨fun _ => none, fun _ _ => False⟩ (· < 0) [v0, v1] [V.tK y0, V.tK y1] := ⟨rfl, fun k x y hx hy => by
    match k, hx, hy with
    | 0, hx, hy => simp only [List.getElem?_cons_succ, List.getElem?_cons_zero, Option.some.injEq] at hx hy; subst hx hy; exact V0 _ _ _
    | 1, hx, hy => simp only [List.getElem?_cons_succ, List.getElem?_cons_zero, Option.some.injEq] at hx hy; subst hx hy; exact V1 _ _ _
    | k + 2, hx, hy => simp at hx⟩
  refine (V.calls_true (V.lawKJ_ok y0 k0 y1 k1) hG hT).mono fun e W' ⟨he, hS⟩ => ?_
  subst he
  refine ⟨_, rfl, V.post_same (pa := p0 ++ p1) (pv := []) hW' (fun _ _ _ => (trodAll_cons_mk (shut_bool Try.underlying4 _) trodAll_mk0)) (fun sp hsp => ?_) (fun _ _ => rfl) (by simp) hS⟩
  have := (trodAll_cons_mk (S0 W' hS sp fun q hq => hsp q (by simp [hq])) (trodAll_cons_mk (S1 W' hS sp fun q hq => hsp q (by simp [hq])) trodAll_mk0))
  simp only [List.append_nil] at this
  exact this
set_option maxRecDepth 100000 in
theorem lifted (os : Os) (started : os.Started) (H : Type) (enc : TypeId × Value → H) :
    ReturnsInHanded {} Try.checked os 4 .any (Rows.fnExactKindJoinSpec.pre6 enc Try.prog Try.f4 Rows.fnExactKindJoinRow.domain false) (Rows.fnExactKindJoinSpec.post enc Try.prog Try.f4 false true false false) := by
  refine returnsInHanded_of_change (C := Try.checked) own started (by kernel_rfl) Try.func4
    (ChangeSpec.witness6 (enc := enc) (C := Try.checked) false ⟨#[], #[.agg #[.int .i64 0, .slice none 0 0, .slice none 0 0], .agg #[.int .i64 0, .slice none 0 0, .slice none 0 0]], []⟩ 8 (by kernel_rfl) (by kernel_rfl) (by kernel_rfl) (by kernel_rfl)) ?_
  intro W base args ds gs before hval hW _ _
  exact contract H enc W base args ds gs before hval hW
theorem over : Rows.fnExactKindJoinRow.holds Try.pinned (OpenSpec.ofChange Rows.fnExactKindJoinSpec) :=
  OpenClaim.holds_of_wide 4 Try.f4 rfl rfl rfl rfl rfl rfl rfl ⟨rfl, rfl, rfl, rfl, rfl⟩ rfl rfl rfl rfl rfl (by kernel_rfl) Try.func4 (by kernel_rfl)
    (of_decide_eq_true (by kernel_rfl)) (by unfold Func.isWrapper; first | (rw [if_pos (by decide +kernel)]; kernel_rfl) | (rw [if_neg (by decide +kernel)]; exact ⟨rfl, rfl⟩))
    (fun os started H enc _ => lifted os started H enc)
theorem proved : Rows.FnExactKindJoinSaid := over
#print axioms proved
end Go.Proofs.Ytkbelgihflbofaa.fnExactKindJoin

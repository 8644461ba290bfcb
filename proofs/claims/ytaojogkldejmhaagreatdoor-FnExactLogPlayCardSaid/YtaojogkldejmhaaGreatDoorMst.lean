/- The program's LogPlay returns what the reference's returns, for all arguments. -/
import Derived.Test.YtaojogkldejmhaaGreatDoorMS1
import Derived.Test.YtaojogkldejmhaaGreatDoorCards
set_option linter.unusedVariables false
set_option linter.unusedSimpArgs false
set_option linter.unusedVariables false
namespace Go.V
open Go.Proofs
theorem cl57 : Tryz.prog.cellsOf 57 = 1 := by kernel_rfl
/-- The types of rows of acts. -/
def SDL (t : TypeId) : Prop := t = 57 ∨ SD t
theorem plainDL : Plain Tryz.prog SDL := ⟨fun t h => by
  rcases h with rfl | h
  · exact .inr (.inr (.inr (.inl ⟨_, Tryz.underlying57, .inr (by simp [SD]), by rw [cl70]; decide⟩)))
  · rcases plainD.kind t h with h1 | h1 | h1 | ⟨e, h1, h2, h3⟩ | ⟨fs, h1, h2, h3⟩
    · exact .inl h1
    · exact .inr (.inl h1)
    · exact .inr (.inr (.inl h1))
    · exact .inr (.inr (.inr (.inl ⟨e, h1, .inr h2, h3⟩)))
    · exact .inr (.inr (.inr (.inr ⟨fs, h1, fun f hf => .inr (h2 f hf), h3⟩)))⟩
theorem mapv_inj : ∀ {a b : List V}, a.map C.v = b.map C.v → a = b
  | [], [], _ => rfl
  | [], _ :: _, h => by simp at h
  | _ :: _, [], h => by simp at h
  | x :: a, y :: b, h => by
    simp only [List.map_cons, List.cons.injEq, C.v.injEq] at h
    rw [h.1, mapv_inj h.2]
theorem take_AE {cs : List V} (h : VT Tryz.prog 70 cs) : ∃ a : LA, cs = eLA a ∧ okLA a := by
  obtain ⟨a, h1, h2⟩ := take_A h
  refine ⟨a, ?_, h2⟩
  have h3 : (eLA a).map C.v = cs.map C.v := h1.symm
  exact (mapv_inj h3).symm
theorem take_AL {y : V} (h : VT Tryz.prog 57 [y]) : ∃ xs : List LA, y = .sl (en eLA xs) ∧ xs.length ≤ 9223372036854775807 ∧ ∀ a ∈ xs, okLA a := by
  obtain ⟨es, e1, l1, k1⟩ := VT.sl_inv Tryz.underlying57 h
  obtain ⟨xs, rfl, q1⟩ := en_of eLA okLA es fun x hx => take_AE (k1 x hx)
  rw [en_len] at l1
  simp at e1
  exact ⟨xs, e1, l1, q1⟩
end Go.V
namespace Go.Proofs.YtaojogkldejmhaaGreatDoor.fnExactLogPlay
open Go.ChangeShapes Go.WideShapes Go.ChangeAt Go.RowKit
theorem own : ownKnob Tryz.prog.godebug = none := by kernel_rfl
set_option maxRecDepth 100000 in
theorem contract (H : Type) (enc : TypeId × Value → H) (W : World) (base : Nat) (args : Array Value) (ds gs : List (DataW H)) (before : List MemPlace)
    (hval : ∀ (j : Nat) t v, Tryz.f7.params[j]? = some t → args[j]? = some v → Value.okWide Tryz.prog W .any base t v)
    (hW : DataW.Whole enc Tryz.prog Tryz.f7.params.toList Rows.fnExactLogPlaySpec.vars false W args.toList ds gs before) (hL : laidMetH Tryz.prog V.lst W) (hsh : W.ShapedOpen Tryz.prog) :
    Calls Tryz.prog 7 args W fun e W' => ∃ v, e = .returned v ∧ Rows.fnExactLogPlaySpec.post enc Tryz.prog Tryz.f7 false true false false W args v W' := by
  have hG := V.glob_of hL hsh
  have hW' := hW
  obtain ⟨p, q, hA0, hV, rfl, hfz, hnd⟩ := hW
  have hA : DataW.TrodAll enc Tryz.prog W 0 (fun _ => true) true Tryz.f7.params.toList args.toList ds p := hA0
  rw [Tryz.params7] at hA hval
  obtain ⟨v0, vs0, d0, ds0, p0, q0, hargs, rfl, rfl, h0, r0⟩ := trodAll_cons hA
  obtain ⟨rfl, rfl, rfl⟩ := trodAll_nil r0
  obtain rfl : args = #[v0] := by cases args; simp_all
  obtain ⟨rfl, rfl⟩ := trodVars_none hV
  have hc0 : v0.cells = #[v0] := by
    obtain ⟨a, l, c, rfl⟩ := okWide_slice Tryz.underlying57 (hval 0 57 v0 rfl rfl)
    rfl
  obtain ⟨x0, T0, V0, S0⟩ := V.open_one V.plainDL (.inl rfl) hc0 h0 fun q hq => hW'.lt q (by simp [hq])
  obtain ⟨xs, rfl, k0, k1⟩ := V.take_AL T0
  clear hA0
  simp only [List.append_nil] at hW'
  have hT : V.TsRep W (V.oldImm W) (V.hinOf []) ⟨fun _ => none, fun _ _ => False⟩ (· < 0) [v0] [V.tL (V.en V.eLA xs)] := ⟨rfl, fun k x y hx hy => by
    match k, hx, hy with
    | 0, hx, hy => simp at hx hy; subst hx hy; exact V0 _ _ _
    | k + 1, hx, hy => simp at hx⟩
  refine (V.calls_true (V.lawLP_ok xs k0 k1) hG hT).mono fun e W' ⟨he, hS⟩ => ?_
  subst he
  refine ⟨_, rfl, V.post_same (pa := p0) (pv := []) hW' (fun _ _ _ => (trodAll_cons_mk (shut_bool Tryz.underlying4 _) trodAll_mk0)) (fun sp hsp => ?_) (fun _ _ => rfl) (by simp) hS⟩
  have := trodAll_cons_mk (S0 W' hS sp fun q hq => hsp q (by simp [hq])) trodAll_mk0
  simp only [List.append_nil] at this
  exact this
set_option maxRecDepth 100000 in
theorem lifted (os : Os) (started : os.Started) (H : Type) (enc : TypeId × Value → H) :
    ReturnsInHanded {} Tryz.checked os 7 .any (fun w args => (Rows.fnExactLogPlaySpec.pre enc Tryz.prog Tryz.f7 [] false w args ∧ laidMetH Tryz.prog V.lst w) ∧ sizedMet enc Tryz.prog Tryz.f7 (OpenSpec.ofChange Rows.fnExactLogPlaySpec) false w args)
      (Rows.fnExactLogPlaySpec.post enc Tryz.prog Tryz.f7 false true false false) := by
  refine V.returns_shaped (C := Tryz.checked) (X := fun w _ => laidMetH Tryz.prog V.lst w) (fun _ _ _ hh h => h.of_heap hh) own started (by kernel_rfl) Tryz.func7
    (ChangeSpec.witness_shaped (enc := enc) (C := Tryz.checked) (os := os) (X := fun w _ => laidMetH Tryz.prog V.lst w) false (World.laidAll Tryz.prog os V.lst) #[.slice none 0 0] 8 (World.laidAll_os _ _ _)
      (World.shaped_of_ZipB (by kernel_rfl) (by kernel_rfl)) (by kernel_rfl) (by kernel_rfl) (by kernel_rfl) (V.laid_met os _)) ?_
  intro W base args ds gs before hval hW hL hsh
  exact contract H enc W base args ds gs before hval hW hL hsh
theorem over : Rows.FnExactLogPlaySaid :=
  OpenClaim.holds_of_wide 7 Tryz.f7 rfl rfl rfl rfl rfl rfl rfl ⟨rfl, rfl, rfl, rfl, rfl⟩ rfl rfl rfl rfl rfl (by kernel_rfl) Tryz.func7 (by kernel_rfl)
    (of_decide_eq_true (by kernel_rfl)) (by unfold Func.isWrapper; first | (rw [if_pos (by decide +kernel)]; kernel_rfl) | (rw [if_neg (by decide +kernel)]; exact ⟨rfl, rfl⟩))
    (fun os started H enc _ => lifted os started H enc)
theorem proved : Rows.FnExactLogPlayCardSaid :=
  Claim7.holds_tied_plain_at .later [] [.data, .data, .data, .data, .sentinel, .sentinel, .pinned] true (true, "eda1890f3523f913acf752080efd92b5c173c5688703da778cf843b9147d0ce5") true
    over (fun _ h => by cases h) (by kernel_rfl) (fun _ h => by cases h) fnExactLogPlay_row_tie rfl ⟨rfl, rfl⟩ (by kernel_rfl) rfl
    (fun f fn hf hfn => by
      obtain rfl : f = 7 := Option.some.inj ((show Tryz.prog.funcNamed "loop.example/teagle/laws.FnExactLogPlay" = some 7 by kernel_rfl).symm.trans hf) |>.symm
      obtain rfl : fn = Tryz.f7 := (Option.some.inj (Tryz.func7.symm.trans hfn)).symm
      exact ⟨by kernel_rfl, fun j t ht => by
        rw [Tryz.params7] at ht
        have hm : t ∈ [57] := by simpa using Array.mem_of_getElem? ht
        have hall : ([57].all fun u => !Tryz.prog.wantsStandIn u) = true := by kernel_rfl
        exact (show Tryz.prog.wantsStandIn t = false by simpa using List.all_eq_true.1 hall t hm)⟩)
    (by kernel_rfl)
#print axioms proved
end Go.Proofs.YtaojogkldejmhaaGreatDoor.fnExactLogPlay

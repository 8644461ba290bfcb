/- The Go function laws.FnLogMend returns true for every input, in the program's own Lean form: however power was lost, the log can be mended, and goes on. Conditions: those of the given row and card. -/
import Derived.Test.YtaojogkldejmhaaGreatDoorMX10
import Derived.WalkKit
import Derived.ProofKit
import Derived.OpenShut
import Derived.ChangeSlices
import Derived.ChangeArms
import Derived.ChangeReads
import Derived.WideShapes
import Derived.Test.YtaojogkldejmhaaGreatDoorTie
import Derived.LaidMore
import Derived.Lay
import Derived.LaidLaws
import Derived.Lib.LaidTab
import Derived.SevenTiedAt
import Derived.Stop.Joined
set_option linter.unusedVariables false
set_option linter.unusedSimpArgs false
namespace Go.V
open Go.Proofs Go.ChangeShapes Go.WideShapes Go.ChangeAt Go.RowKit
/-- All that is there at the start stays. -/
def Stays (W W' : World) : Prop := W'.os = W.os ∧ W'.output = W.output ∧ ∀ b, b < W.heap.size → W'.heap[b]? = W.heap[b]?
theorem Stays.kept {W W' : World} (h : Stays W W') (may : MemPlace → Prop) : W.keptBut W' may := by
  refine ⟨h.1, h.2.1, fun i hi => ?_⟩
  rw [h.2.2 i hi]
  cases W.heap[i]? with
  | none => trivial
  | some o => cases o <;> simp
abbrev oldImm (W : World) : Imm := fun b _ => b < W.heap.size
/-- A law whose arguments are only read. -/
theorem calls_true {P : Program} {f : FuncId} {args : List T} {W : World} {vs : List Value} (hC : ACallsF P f args [] (.b true)) (hG : Glob W (oldImm W)) (hT : TsRep W (oldImm W) (hinOf []) (fun _ => none) (· < 0) vs args) :
    Calls P f vs.toArray W fun e W' => e = .returned (.bool true) ∧ Stays W W' := by
  have hH : HOk W (oldImm W) (hinOf []) (fun _ => none) (· < 0) := ⟨fun n B h => by simp [hinOf, renN] at h, fun n m g h => by simp [hinOf, renN] at h, hG, fun b o h => h⟩
  refine (hC.2 W (oldImm W) (fun _ => none) 0 vs hH hT).mono fun e W' ⟨x, r, h, imm', L', c', he, ⟨ν, hr, _⟩, hx, _, hS, _, _⟩ => ?_
  subst hr
  have hx : x = .bool true := rep_s (y := .bool true) hx
  subst hx
  exact ⟨he, hS.os, hS.output, fun b hb => hS.frame b hb fun ⟨n, h1, _⟩ => h1 (by simp [hinOf, renN])⟩
theorem post_same {P : Program} {H : Type} {enc : TypeId × Value → H} {f : Func} {s : ChangeSpec} {apart fresh handsOn : Bool} {W W' : World} {args : Array Value} {v : Value} {ds gs : List (DataW H)} {before pa pv : List MemPlace}
    (hW : DataW.Whole enc P f.params.toList s.vars apart W args.toList ds gs before)
    (hres : ∀ (b : Nat) (sp : Nat → Bool) (hd : Bool), DataW.TrodAll enc P W' b sp hd f.resultTypes.toList (v.resultList f.resultTypes.size) (s.fn H (ds ++ gs)).results [])
    (hargs : ∀ sp : Nat → Bool, (∀ p ∈ before, sp p.block = true) → DataW.TrodAll enc P W' 0 sp true f.params.toList args.toList (s.fn H (ds ++ gs)).args pa)
    (hvars : ∀ sp : Nat → Bool, (∀ p ∈ before, sp p.block = true) → DataW.TrodVars enc P W' sp s.vars (s.fn H (ds ++ gs)).vars pv)
    (hps : before = pa ++ pv) (hk : Stays W W') : s.post enc P f apart fresh handsOn false W args v W' := by
  have hold : ∀ p ∈ before, (fun b => decide (b < W.heap.size)) p.block = true := fun p hp => by simpa using hW.lt p hp
  refine ⟨ds, gs, before, [], pa, pv, hW, hres _ _ _, hargs _ hold, hvars _ hold, World.keptBut_mono (fun p hp => ⟨hp, ?_⟩) (hk.kept (· ∈ before)), fun h => by cases h⟩
  rw [hps, List.mem_append] at hp
  exact Or.inr hp
theorem cell_plain {w : World} {a : Addr} {u : Value} (h : w.cell? a = some u) : a = ⟨a.block, a.off, none⟩ ∧ a.block < w.heap.size := by
  unfold World.cell? at h
  split at h
  · rename_i c ty fr hh
    split at h
    · cases h
    · rename_i hs
      refine ⟨?_, heap_lt hh⟩
      obtain ⟨b, o, s⟩ := a
      simp at hs
      subst hs; rfl
  · cases h
theorem Stays.cell {W W' : World} (h : Stays W W') {a : Addr} {v : Value} (hc : W.cell? a = some v) : W'.cell? a = some v := by
  unfold World.cell? at hc ⊢
  by_cases hb : a.block < W.heap.size
  · rw [h.2.2 _ hb]; exact hc
  · rw [Array.getElem?_eq_none (by omega)] at hc; simp at hc
/-- An argument that is a slice of bytes. -/
theorem open_bytes {P : Program} {H : Type} {enc : TypeId × Value → H} {W : World} {r : Reach} {b0 : Nat} {t e : TypeId} {v : Value} {d : DataW H} {p : List MemPlace} (ht : P.underlying t = some (.slice e)) (he : P.underlying e = some (.int .u8)) (hc : P.cellsOf e = 1)
    (hval : Value.okWide P W r b0 t v) (h : DataW.Trod enc P W 0 (fun _ => true) true t v d p) :
    ∃ bs : List UInt8, VRep W (oldImm W) v (.sl (encB bs)) ∧ ∀ W', Stays W W' → ∀ sp : Nat → Bool, (∀ q ∈ p, sp q.block = true) → DataW.Trod enc P W' 0 sp true t v d p := by
  obtain ⟨a0, len, cap, rfl⟩ := okWide_slice ht hval
  obtain ⟨fuel, hf⟩ := h
  rcases open_ints ht he hc hf with ⟨hcs, hx⟩ | ⟨a, len', cap', zs, hcs, _, hl, hm, hz, hx, hcell, hwz⟩
  · obtain ⟨rfl, rfl, rfl⟩ : a0 = none ∧ len = 0 ∧ cap = 0 := by simpa [Value.cells] using hcs
    cases hx
    exact ⟨[], .nil _ _, fun W' _ sp _ => shut_slice_nil ht⟩
  · obtain ⟨rfl, rfl, rfl⟩ : a0 = some a ∧ len = len' ∧ cap = cap' := by simpa [Value.cells] using hcs
    simp only [if_true] at hz
    cases hx
    have wz : ∀ i, i < zs.length → 0 ≤ zs.getD i 0 ∧ zs.getD i 0 < 256 := by
      intro i hi
      have e1 : zs.getD i 0 = zs[i] := by simp [List.getD, hi]
      have := hwz zs[i] (List.getElem_mem hi)
      rw [e1]
      simp [Lit.wf, IntKind.min, IntKind.max, IntKind.signed, IntKind.bits] at this
      omega
    refine ⟨(List.range len).map fun i => UInt8.ofNat (zs.getD i 0).toNat, ?_, fun W' hS sp hsp => ⟨2, ?_⟩⟩
    · by_cases h0 : len = 0
      · subst h0; exact .nil _ _
      · have hp : a = ⟨a.block, a.off, none⟩ ∧ a.block < W.heap.size := by
          have := hcell 0 (by omega)
          have e0 : a.add 0 = a := by simp [Addr.add]
          rw [e0] at this
          unfold World.cell? at this
          split at this
          · rename_i c ty fr hh
            split at this
            · cases this
            · rename_i hs
              refine ⟨?_, heap_lt hh⟩
              obtain ⟨b, o, s⟩ := a
              simp at hs
              subst hs; rfl
          · cases this
        obtain ⟨hp1, hp2⟩ := hp
        have hlen : (encB ((List.range len).map fun i => UInt8.ofNat (zs.getD i 0).toNat)).length = len := by simp [encB]
        rw [hp1]
        have := VRep.sl (w := W) (imm := oldImm W) (encB ((List.range len).map fun i => UInt8.ofNat (zs.getD i 0).toNat)) 1 a.block a.off cap (fun i _ => .int .u8 (zs.getD i 0)) (by omega) (fun e => h0 (by rw [← hlen, e]; rfl)) (by rw [hlen]; exact hl) (fun e he2 => by simp only [encB, List.mem_map] at he2; obtain ⟨_, _, rfl⟩ := he2; rfl) (fun i j x hx => ?_) (fun i j x hx => ?_)
        · rw [hlen] at this; exact this
        · have hi : i < len := by
            by_cases hi : i < len
            · exact hi
            · rw [at2, List.getElem?_eq_none (by rw [hlen]; omega)] at hx; simp at hx
          have hj : j = 0 := by
            rw [at2] at hx
            cases j with
            | zero => rfl
            | succ j => simp [encB, hi] at hx
          subst hj
          refine ⟨?_, hp2⟩
          have := hcell i (by omega)
          rw [hp1, add_eq] at this
          simpa using this
        · have hi : i < len := by
            by_cases hi : i < len
            · exact hi
            · rw [at2, List.getElem?_eq_none (by rw [hlen]; omega)] at hx; simp at hx
          have hj : j = 0 := by
            rw [at2] at hx
            cases j with
            | zero => rfl
            | succ j => simp [encB, hi] at hx
          subst hj
          obtain ⟨w1, w2⟩ := wz i (by omega)
          have e3 : ((UInt8.ofNat (zs.getD i 0).toNat).toNat : Int) = zs.getD i 0 := by
            rw [UInt8.toNat_ofNat']; omega
          have : x = .s (.int .u8 (zs.getD i 0)) := by
            have h9 : (encB ((List.range len).map fun i => UInt8.ofNat (zs.getD i 0).toNat))[i]? = some [.s (.int .u8 ((UInt8.ofNat (zs.getD i 0).toNat).toNat : Int))] := encB_at (by simp [hi])
            rw [at2, h9, e3] at hx
            simpa using hx.symm
          subst this
          exact .s _ rfl
    · refine shut_ints 0 ht he hc (Nat.zero_le _) hl hm ?_ (fun i hi => hS.cell (hcell i hi)) hwz
      by_cases h0 : cap = 0
      · have : len = 0 := by omega
        subst h0 this
        simp at hz
        simp [hz]
      · have : sp a.block = true := by
          refine hsp (MemPlace.cell a.block a.off) ?_
          simp only [MemPlace.row]
          exact List.mem_map.2 ⟨0, List.mem_range.2 (by omega), by simp⟩
        rw [this]; exact hz
/-- The claim's wrap, with what is known of the variables' shape. -/
theorem returns_shaped {H : Type} {enc : TypeId × Value → H} {C : Checked} {os : Os} {f : FuncId} {fn : Func} {s : ChangeSpec} {conds : List PathCond} {apart fresh handsOn again : Bool} {X : World → Array Value → Prop} {a : Assume}
    (hX : ∀ (w w' : World) (args : Array Value), w.heap = w'.heap → X w args → X w' args)
    (own : ownKnob C.prog.godebug = none) (started : os.Started) (noInit : C.prog.inits.idxOf? f = none) (hfn : C.prog.funcs[f]? = some fn)
    (witness : ∃ (w : World) (tape : Tape) (i : Input), w.os = os ∧ (w.forCall tape i).Shaped C.prog ∧ i.vars = [] ∧ Input.okWide C.prog (w.forCall tape i) .any w.heap.size f i ∧
      ((s.pre enc C.prog fn conds apart (w.forCall tape i).memory i.args ∧ X (w.forCall tape i).memory i.args) ∧ sizedMet enc C.prog fn (OpenSpec.ofChange s) apart (w.forCall tape i).memory i.args) ∧ a.holds C.prog (lone (Frame.enter C.prog f i.args .normal) [] (w.forCall tape i)))
    (contract : ∀ (W : World) (base : Nat) (args : Array Value) (ds gs : List (DataW H)) (before : List MemPlace),
      (∀ (j : Nat) t v, fn.params[j]? = some t → args[j]? = some v → Value.okWide C.prog W .any base t v) →
      DataW.Whole enc C.prog fn.params.toList s.vars apart W args.toList ds gs before → X W args → W.ShapedOpen C.prog →
      Calls C.prog f args W fun e W' => ∃ v, e = .returned v ∧ s.post enc C.prog fn apart fresh handsOn again W args v W') :
    ReturnsInHanded a C os f .any (fun w args => (s.pre enc C.prog fn conds apart w args ∧ X w args) ∧ sizedMet enc C.prog fn (OpenSpec.ofChange s) apart w args) (s.post enc C.prog fn apart fresh handsOn again) := by
  refine returnsInHanded_of_calls own started noInit witness ?_
  intro w tape i _ hsh _ hok hpre _
  obtain ⟨_, _, _, fn', hfn', _, _, _, _, hval⟩ := hok
  have e : fn' = fn := Option.some.inj (hfn'.symm.trans hfn)
  subst e
  obtain ⟨⟨⟨ds, gs, before, hw, hc⟩, hx⟩, hz⟩ := hpre
  have hw' := DataW.Whole.of_heap (w' := w.forCall tape i) (by rfl) hw
  refine (contract (w.forCall tape i) w.heap.size i.args ds gs before hval hw' (hX _ _ _ (by rfl) hx) hsh).mono fun e W' ⟨v, he, hp⟩ => ?_
  subst he
  exact ChangeSpec.post_blind hp
end Go.V
set_option linter.unusedSimpArgs false
set_option linter.unusedVariables false
namespace Go.V
open Go.Proofs Go.RowKit Go.Proofs.YtaojogkldejmhaaGreatDoor
def VarIs (P : Program) (w : World) (n : String) (d : DataW Unit) : Prop := ∃ g t cs fuel p, P.globalNamed n = some g ∧ (P.globals[g]?).map (·.type) = some t ∧ w.var? P n = some cs ∧ DataW.trod (fun _ => ()) P w 0 (fun _ => true) false fuel t cs.toList = some (d, p)
theorem varIs_of {P : Program} {w : World} : ∀ {l : List (String × DataW Unit)} {ps : List MemPlace}, DataW.LaidVars P w l ps → ∀ n d, (n, d) ∈ l → VarIs P w n d
  | [], _, _, _, _, hm => by cases hm
  | (n', d') :: r, ps, h, n, d, hm => by
    obtain ⟨g, t, cs, fuel, p, q, h1, h2, h3, h4, h5, _⟩ := h
    rcases List.mem_cons.1 hm with e | e
    · cases e
      exact ⟨g, t, cs, fuel, p, h1, h2, h3, h4⟩
    · exact varIs_of h5 n d e
theorem int_of_shape {P : Program} {w : World} {g : Nat} {t : TypeId} {zero : Array Value} {k : IntKind} (h : w.ShapedOpen P) (hg : g < P.globals.size)
    (h0 : ((begin P (fun _ _ => 0) default).world.heap[g]?).bind Obj.row? = some (zero, t)) (hz : zero.size = 1)
    (hb : P.buildable t = true) (hc : P.cellTypes P.depth t = some [t]) (hu : P.underlying t = some (.int k)) : ∃ m, w.cell? ⟨g, 0, none⟩ = some (.int k m) := by
  obtain ⟨cs, hh, hs, hr⟩ := h.1 g zero t hg h0
  obtain ⟨ts, hts, _, hall⟩ := hr hb
  rw [hc] at hts
  cases hts
  have h1 : 0 < cs.size := by omega
  obtain ⟨u, hu', hok⟩ := hall 0 cs[0] (by simp [h1])
  have : u = t := by simpa using hu'.symm
  subst this
  have hcell : w.cell? ⟨g, 0, none⟩ = some cs[0] := by simp [World.cell?, hh, h1]
  rw [hcell]
  unfold Cell.ok at hok
  rw [hu] at hok
  cases hv : cs[0] with
  | int k' m =>
    rw [hv] at hok
    simp at hok
    obtain ⟨rfl, _⟩ := hok
    exact ⟨_, rfl⟩
  | _ => rw [hv] at hok; simp at hok
abbrev lst : List (String × DataW Unit) := Rows.fnExactLogStepRow.laid
theorem glob_of {W : World} (h : laidMetH Tryz.prog lst W) (hsh : W.ShapedOpen Tryz.prog) : Glob W (oldImm W) := by
  rw [MakeChecks.laidMetH_plain _ _ _ (by kernel_rfl)] at h
  obtain ⟨ps, hv, _, _⟩ := h
  have r0 := varIs_of hv "internal/strconv.uint64pow10" Rows.laid_internal_strconv_uint64pow10 (.tail _ (.tail _ (.head _)))
  have r1 := varIs_of hv "strconv.ErrSyntax" Rows.laid_strconv_ErrSyntax (.tail _ (.tail _ (.tail _ (.tail _ (.tail _ (.head _))))))
  have r2 := varIs_of hv "strconv.ErrRange" Rows.laid_strconv_ErrRange (.tail _ (.tail _ (.tail _ (.tail _ (.head _)))))
  have c0 : ∀ o, W.cell? ⟨0, o, none⟩ = ((List.range 20).map fun i => Value.int .u64 ((10 ^ i : Nat) : Int))[o]? := by
    obtain ⟨g, t, cs, fuel, p, hg, ht, hw, hd⟩ := r0
    obtain rfl := Option.some.inj ((show Tryz.prog.globalNamed "internal/strconv.uint64pow10" = some 0 by kernel_rfl).symm.trans hg)
    obtain rfl := Option.some.inj ((show (Tryz.prog.globals[0]?).map (·.type) = some 227 by kernel_rfl).symm.trans ht)
    have ed : Rows.laid_internal_strconv_uint64pow10 = (Lib.tabData .u64 ((List.range 20).map fun i => ((10 ^ i : Nat) : Int)) : DataW Unit) := by kernel_rfl
    rw [ed] at hd
    have hcs := Lib.cells_of_tab (show Tryz.prog.underlying 227 = some (.array 20 212) by kernel_rfl) (show Tryz.prog.underlying 212 = some (.int .u64) by kernel_rfl) (by kernel_rfl) (by kernel_rfl) hd
    intro o
    rw [World.var?_cell hg hw o]
    have : cs[o]? = cs.toList[o]? := by simp
    rw [this, hcs, List.map_map]
    rfl
  have c1 : ∃ a b, W.cell? ⟨1, 0, none⟩ = some (.iface a b) := by
    obtain ⟨g, t, cs, fuel, p, hg, ht, hw, hd⟩ := r1
    obtain rfl := Option.some.inj ((show Tryz.prog.globalNamed "strconv.ErrSyntax" = some 1 by kernel_rfl).symm.trans hg)
    obtain rfl := Option.some.inj ((show (Tryz.prog.globals[1]?).map (·.type) = some 197 by kernel_rfl).symm.trans ht)
    obtain ⟨_, u, v, hcs, _, _⟩ := iface_of_trod Tryz.underlying197 hd
    refine ⟨u, v, ?_⟩
    rw [World.var?_cell hg hw 0]
    have : cs[0]? = cs.toList[0]? := by simp
    rw [this, hcs]; rfl
  have c2 : ∃ a b, W.cell? ⟨2, 0, none⟩ = some (.iface a b) := by
    obtain ⟨g, t, cs, fuel, p, hg, ht, hw, hd⟩ := r2
    obtain rfl := Option.some.inj ((show Tryz.prog.globalNamed "strconv.ErrRange" = some 2 by kernel_rfl).symm.trans hg)
    obtain rfl := Option.some.inj ((show (Tryz.prog.globals[2]?).map (·.type) = some 197 by kernel_rfl).symm.trans ht)
    obtain ⟨_, u, v, hcs, _, _⟩ := iface_of_trod Tryz.underlying197 hd
    refine ⟨u, v, ?_⟩
    rw [World.var?_cell hg hw 0]
    have : cs[0]? = cs.toList[0]? := by simp
    rw [this, hcs]; rfl
  have c3 : ∃ m, W.cell? ⟨3, 0, none⟩ = some (.int .i64 m) :=
    int_of_shape hsh (t := 3) (zero := #[.int .i64 0]) (of_decide_eq_true (by kernel_rfl)) (by kernel_rfl) rfl (by kernel_rfl) (by kernel_rfl) Tryz.underlying3
  have lt : ∀ {b : Nat} {v : Value}, W.cell? ⟨b, 0, none⟩ = some v → b < W.heap.size := fun h => (cell_plain h).2
  intro x hx o
  simp only [gdom, List.mem_cons, List.not_mem_nil, or_false] at hx
  rcases hx with rfl | rfl | rfl | rfl
  · exact ⟨lt (c0 0), c0 o⟩
  · obtain ⟨a, b, h1⟩ := c1
    exact ⟨lt h1, fun e => by subst e; exact ⟨a, b, h1⟩⟩
  · obtain ⟨a, b, h1⟩ := c2
    exact ⟨lt h1, fun e => by subst e; exact ⟨a, b, h1⟩⟩
  · obtain ⟨m, h1⟩ := c3
    exact ⟨lt h1, fun e => by subst e; exact ⟨m, h1⟩⟩
theorem laid_met (os : Os) (args : Array Value) : laidMetH Tryz.prog lst ((World.laidAll Tryz.prog os lst).forCall (fun _ _ => 0) ⟨#[], args, []⟩).memory := by
  rw [MakeChecks.laidMetH_plain _ _ _ (by kernel_rfl)]
  exact laidMet_laidAll _ (by kernel_rfl) (by kernel_rfl)
end Go.V

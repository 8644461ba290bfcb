/- It is proved that the law FnExactCrewStep returns true for all arguments and leaves its arguments as they were; no condition. -/
import Derived.Test.YtlomodjpgjlagaaGreatSC1
set_option linter.unusedSimpArgs false
namespace Go.V
open Go.Proofs
open Nat (reduceAdd reduceEqDiff reduceLT reduceLeDiff)
/-- A world behind a pointer, only looked at. -/
abbrev wHd (m v : Nat) (w : CW) : Hand := ⟨1000, m, some (cwB v w), cwB v w, true⟩
abbrev wP (m v : Nat) : T := .c (.ptr m v 0)
/-- What comes of a function that looks at a world, told by what is asked of it. -/
def WC (f : Nat) (args : List T) (w : CW) {α : Type} (S : α → Prop) (r : α → T) : Prop := ∃ a : α, S a ∧ ∀ m v, ACallsF Tryz.prog f (wP 1000 v :: args) [wHd m v w] (r a)
theorem ACallsF.anyM {P : Program} {f : FuncId} {args : List T} {n m m' : Nat} {b : Option Blk} {b' : Blk} {k : Bool} {r : T} (h : ACallsF P f args [⟨n, m, b, b', k⟩] r) : ACallsF P f args [⟨n, m', b, b', k⟩] r := by
  have e0 : hinOf [⟨n, m', b, b', k⟩] = hinOf [⟨n, m, b, b', k⟩] := by
    funext q; rw [hinOf_cons, hinOf_cons]
  refine ⟨h.1, ?_⟩
  rw [e0]
  refine fun w imm L c vs hH hT => (h.2 w imm L c vs hH hT).mono ?_
  rintro e w' ⟨x, r, h', imm', L', c', he, ⟨ν, hr, hh⟩, hx⟩
  refine ⟨x, r, h', imm', L', c', he, ⟨ν, hr, fun c h g => ?_⟩, hx⟩
  have e1 : n = c ∧ h = ⟨n, m', b, b', k⟩ := by
    simp only [renN, List.find?] at g
    by_cases q : (n == c) = true
    · rw [q] at g; exact ⟨beq_iff_eq.1 q, (Option.some.inj g).symm⟩
    · rw [Bool.not_eq_true] at q; rw [q] at g; cases g
  obtain ⟨rfl, rfl⟩ := e1
  exact hh n ⟨n, m, b, b', k⟩ (by simp [renN])
theorem WC.intro {f n : Nat} {ac : ACode} {rs : List ARes} {args : List T} {w : CW} {α : Type} {S : α → Prop} {r : α → T} (ho : okF Tryz.prog f n ac rs) (ha : args.all closedA = true) (hr : ∀ a, closedT (r a) = true)
    (h : ∀ X : Ctx, wpa Tryz.prog X ac (endE S r (fun _ => [rV 0 26 (cwC w) (cwC w)]) rs) ⟨argsT (rP 0 :: args), hinOf [rV 0 26 (cwC w) (cwC w)], 1⟩) : WC f args w S r := by
  obtain ⟨a, hS, hC⟩ := ACallsF.exR (cs' := fun _ => cwC w) S ho follows ha (fun a _ => hr a) rfl (fun _ _ => rfl) h
  exact ⟨a, hS, fun m v => (hC v).anyM⟩
section
variable {P : Program} {t : Nat → T} {H : HMap} {c : Nat} {f : Opd} {args : List Opd} {fid : FuncId} {r : T} {k : Nat} {d : Option Nat} {un : List Nat} {l : List AOper} {prev : List (Nat × List Nat × List Nat)} {K : St → Prop}
theorem wHd_parts (m v : Nat) (w : CW) (H : HMap) : renN [wHd m v w] 1000 = some (wHd m v w) ∧ inN [wHd m v w] 1000 = some m ∧ renIB [wHd m v w] (cwB v w) = some (cwB v w) ∧ ∀ nv, renOBs [wHd m v w] nv [wHd m v w] = some [(m, cwB v w)] := by
  have hcl : (cwC w).all closedC = true := rfl
  have hN : renN [wHd m v w] 1000 = some (wHd m v w) := by simp [renN]
  refine ⟨hN, by simp [inN, hN], by simp only [renIB, (closed_Cs _ H (cwC w) hcl).2.1, Option.map_some], fun nv => ?_⟩
  simp only [renOBs, renOB, verOf, Blk.ver, if_true]
  rw [(closed_Cs _ H (cwC w) hcl).2.2]
  rfl
theorem updH_same {H : HMap} {m : Nat} {b : Blk} (h : H m = some b) : updH H [(m, b)] = H := by
  funext n
  simp only [updH, upd]
  split
  · rename_i e; subst e; exact h.symm
  · rfl
/-- A call of a method that looks at a world. -/
theorem callP {m v : Nat} {w : CW} {al : List T} (hC : ∀ m v, ACallsF P fid (wP 1000 v :: al) [wHd m v w] r) (hf : ev t f = .pt (.one (.fn fid []))) (hl : args.map (ev t) = wP m v :: al) (ha : al.all closedA = true) (hr : closedT r = true) (hH : H m = some (cwB v w))
    (hk : chk prev un ⟨r, [], [m], []⟩ = true ∧ DRun P l ((k, [m], []) :: prev) K ⟨updD t d r, H, c⟩) :
    step P k d un (.call f args) l prev K t H c := by
  obtain ⟨p1, p2, p3, p4⟩ := wHd_parts m v w H
  obtain ⟨x1, x2⟩ := closed_As [wHd m v w] H al ha
  refine callW0 (caps := []) («as» := wP m v :: al) (ws := []) (ns := []) (r' := r) (ob := [(m, cwB v w)]) [wHd m v w] (hC m v) hf ?_ ?_ ⟨?_, trivial⟩ (by simp) (by simp) (closed_T _ r hr _) (p4 _) ?_ ?_
  · have a1 : lendT H (wP 1000 v) (wP m v) = some (wP m v, [], []) := rfl
    rw [hl]
    simp only [List.map_nil, List.append_nil, lendTs, a1, x1]
  · have a1 : renIT [wHd m v w] (wP 1000 v) = some (wP m v) := by simp only [wP, T.c, renIT, renI, p2, Option.map_some]
    simp only [renITs, x2, a1]
  · show (match renIB [wHd m v w] (cwB v w) with | some B => (updH H []) m = some B | none => False)
    rw [p3]; exact hH
  · have : (if quiet r [wHd m v w] = true then ([] : List (Nat × Blk)) else []) = [] := by split <;> rfl
    rw [this]; exact updH_same hH
  · simpa using hk
/-- A call that is given a function. -/
theorem callG {a : T} {g : FuncId} (hC : ACallsF P fid [a, .c (.fn g [])] [] r) (hf : ev t f = .pt (.one (.fn fid []))) (hl : args.map (ev t) = [a, .c (.fn g [])]) (ha : closedA a = true) (hr : closedT r = true)
    (hk : chk prev un ⟨r, [], [], []⟩ = true ∧ DRun P l ((k, [], []) :: prev) K ⟨updD t d r, H, c⟩) :
    step P k d un (.call f args) l prev K t H c := by
  obtain ⟨x1, x2⟩ := closed_A [] H a ha
  refine callW0 (caps := []) («as» := [a, .c (.fn g [])]) (ws := []) (ns := []) (r' := r) (ob := []) [] hC hf ?_ ?_ trivial (by simp) (by simp) (closed_T _ r hr _) rfl ?_ (by simpa using hk)
  · have a1 : lendT H (T.c (.fn g [])) (T.c (.fn g [])) = some (T.c (.fn g []), [], []) := rfl
    rw [hl]
    simp only [List.map_nil, List.append_nil, lendTs, x1, a1]
  · have a1 : renIT [] (T.c (.fn g [])) = some (T.c (.fn g [])) := by simp only [T.c, renIT, renI, capsI, Option.map_some]
    simp only [renITs, x2, a1]
  · have : (if quiet r [] = true then ([] : List (Nat × Blk)) else []) = [] := by split <;> rfl
    rw [this]; rfl
end
def ixf {α : Type} (p : α → Bool) (xs : List α) : Int := match xs.findIdx? p with
  | some i => i
  | none => -1
theorem ixf_at {α : Type} {p : α → Bool} {xs : List α} {i : Nat} {x : α} (hi : xs[i]? = some x) (hp : p x = true) (hb : ∀ j : Nat, j < i → ∀ y, xs[j]? = some y → p y = false) : ixf p xs = i := by
  have : xs.findIdx? p = some i := by
    rw [List.findIdx?_eq_some_iff_getElem]
    obtain ⟨h1, h2⟩ := List.getElem?_eq_some_iff.1 hi
    refine ⟨h1, by rw [h2]; exact hp, fun j hj => ?_⟩
    rw [hb j hj _ (List.getElem?_eq_getElem (by omega))]; decide
  simp only [ixf, this]
theorem ixf_no {α : Type} {p : α → Bool} {xs : List α} (hb : ∀ (j : Nat) y, xs[j]? = some y → p y = false) : ixf p xs = -1 := by
  have : xs.findIdx? p = none := by
    rw [List.findIdx?_eq_none_iff]
    intro x hx
    obtain ⟨j, hj⟩ := List.mem_iff_getElem?.1 hx
    exact hb j x hj
  simp only [ixf, this]
theorem ixf_any {α : Type} (p : α → Bool) (xs : List α) : decide (0 ≤ ixf p xs) = xs.any p := by
  rw [← List.findIdx?_isSome, ixf]
  cases xs.findIdx? p with
  | none => rfl
  | some i => exact decide_eq_true (show (0 : Int) ≤ (i : Int) by omega)
/- slices.IndexFunc[[]int,int] -/
def r109_0 : List AOper := [ao 0 4 (.mv (.k (.i 0)))]
def r109_1 : List AOper := [ao 0 6 (.mv (.t 0)),
  ao 1 7 (.len (.t 6)),
  ao 2 8 (.mv (.k (.i 0)))]
def r109_2 : List AOper := [ao 0 9 (.bin .lss (.t 8) (.t 7))]
def c109_3 : ACode := .cond (.t 9) .skip (.exit 0)
def r109_4 : List AOper := [ao 0 10 (.mv (.t 8)),
  ao 1 5 (.mv (.t 10))]
def r109_5 : List AOper := [ao 0 11 (.mv (.t 1)),
  ao 1 12 (.mv (.t 0)),
  ao 2 13 (.mv (.t 5)),
  ao 3 14 (.ia 1 (.t 12) (.t 13)),
  ao 4 15 (.ld 1 false (.t 14)),
  ao 5 16 (.call (.t 11) [(.t 15)])]
def r109_6 : List AOper := [ao 0 17 (.mv (.t 5)),
  ao 1 4 (.mv (.t 17))]
def c109_7 : ACode := .seq (.reg r109_6) .ret
def c109_8 : ACode := .cond (.t 16) c109_7 .skip
def c109_9 : ACode := .seq (.reg r109_4) (.seq (.reg r109_5) c109_8)
def c109_10 : ACode := .block 1 c109_9
def r109_11 : List AOper := [ao 0 18 (.bin .add (.t 8) (.k (.i 1))),
  ao 1 8 (.mv (.t 18))]
def c109_12 : ACode := .seq (.reg r109_2) (.seq c109_3 (.seq c109_10 (.reg r109_11)))
def c109_13 : ACode := .loop c109_12
def c109_14 : ACode := .block 0 c109_13
def c109_15 : ACode := .seq (.reg r109_1) c109_14
def r109_16 : List AOper := [ao 0 4 (.mv (.k (.i (-1))))]
def c109 : ACode := .seq (.reg r109_0) (.seq c109_15 (.seq (.reg r109_16) .ret))
def s109 : List ARes := [.tmp 4]
theorem ok109 : okF Tryz.prog 109 19 c109 s109 := ⟨Tryz.f109, Tryz.func109, Tryz.ntmps109, by kernel_rfl, by kernel_rfl, by kernel_rfl⟩
def inv109 (xs : List Int) (p : Int → Bool) (g : Nat) (i : Nat) (σ : St) : Prop := (∀ j : Nat, j < i → ∀ y, xs[j]? = some y → p y = false) ∧ σ.t 0 = tL (en eI xs) ∧ σ.t 1 = .c (.fn g []) ∧ σ.t 7 = .i xs.length ∧ σ.t 8 = .i i
def UCi_1 := Bx.mk <|
  aN (uA c109.eq_1) <| aN (uR r109_0.eq_1) <| aN (uA c109_15.eq_1) <| aN (uR r109_1.eq_1) <| aN (uA c109_14.eq_1) <| aN (uA c109_13.eq_1) <| aN (uR r109_16.eq_1) <| s109.eq_1
def UCi_13 := Bx.mk <|
  aN (uA c109_12.eq_1) <| aN (uR r109_2.eq_1) <| aN (uA c109_3.eq_1) <| aN (uA c109_10.eq_1) <| aN (uA c109_9.eq_1) <| aN (uR r109_4.eq_1) <| aN (uR r109_5.eq_1) <| aN (uA c109_8.eq_1) <| aN (uA c109_7.eq_1) <| aN (uR r109_6.eq_1) <| aN (uR r109_11.eq_1) <| aN (uA c109.eq_1) <| aN (uR r109_0.eq_1) <| aN (uA c109_15.eq_1) <| aN (uR r109_1.eq_1) <| aN (uA c109_14.eq_1) <| aN (uA c109_13.eq_1) <| aN (uR r109_16.eq_1) <| s109.eq_1
theorem idx_int (xs : List Int) (p : Int → Bool) (g : Nat) (hl : xs.length ≤ 2000000) (hg : ∀ x, ACallsF Tryz.prog g [.i x] [] (.b (p x))) : ACallsF Tryz.prog 109 [tL (en eI xs), .c (.fn g [])] [] (.i (ixf p xs)) := by
  refine ACallsF.intro ok109 follows fun X c0 => ?_
  simp only [RZ, reduceAdd, reduceIte, reduceEqDiff, reduceLT, reduceLeDiff, reduceCtorEq, Nat.reduceBEq, UCi_1.d]
  refine AW.upto xs.length (inv109 xs p g) ⟨fun j hj => absurd hj (Nat.not_lt_zero j), rfl, rfl, rfl, rfl⟩ fun i t H c hi h => ?_
  obtain ⟨a, e0, e1, e7, e8⟩ := h
  simp only [T.c, T.i] at e0 e1 e7 e8
  by_cases k1 : (i : Int) < xs.length
  · obtain ⟨x, hx⟩ : ∃ x, xs[i]? = some x := ⟨_, List.getElem?_eq_getElem (by omega)⟩
    have ex := en_at eI hx
    have gz : (0 : Int) ≤ i := by omega
    have gw := w1_ok (i := i) (by omega)
    simp only [RZ, reduceAdd, reduceIte, reduceEqDiff, reduceLT, reduceLeDiff, reduceCtorEq, Nat.reduceBEq, UCi_13.d, e0, e1, e7, e8, k1, en_len, ex, gz, gw, eI]
    refine callC (hg x) rfl rfl rfl rfl ?_
    cases hp : p x with
    | true =>
      have hr := ixf_at hx hp a
      simp only [RZ, reduceAdd, reduceIte, reduceEqDiff, reduceLT, reduceLeDiff, reduceCtorEq, Nat.reduceBEq, UCi_13.d, e0, e1, e7, e8, k1, en_len, ex, gz, gw, eI, hr]
    | false =>
      simp only [RZ, reduceAdd, reduceIte, reduceEqDiff, reduceLT, reduceLeDiff, reduceCtorEq, Nat.reduceBEq, UCi_13.d, e0, e1, e7, e8, k1, en_len, ex, gz, gw, eI]
      exact ⟨by omega, upto_next a hx hp, e0, e1, e7, rfl⟩
  · have hr : ixf p xs = -1 := ixf_no (upto_all (p := fun _ y => p y = false) a (by omega))
    simp only [RZ, reduceAdd, reduceIte, reduceEqDiff, reduceLT, reduceLeDiff, reduceCtorEq, Nat.reduceBEq, UCi_13.d, UCi_1.d, e0, e1, e7, e8, k1, hr]
/- slices.ContainsFunc[[]int,int] -/
def r100_0 : List AOper := [ao 0 4 (.mv (.k (.b false)))]
def r100_1 : List AOper := [ao 0 5 (.mv (.t 0)),
  ao 1 6 (.mv (.t 1)),
  ao 2 7 (.call (.k (.c (.fn 109 []))) [(.t 5), (.t 6)]),
  ao 3 8 (.bin .geq (.t 7) (.k (.i 0))),
  ao 4 4 (.mv (.t 8))]
def c100 : ACode := .seq (.reg r100_0) (.seq (.reg r100_1) .ret)
def s100 : List ARes := [.tmp 4]
theorem ok100 : okF Tryz.prog 100 9 c100 s100 := ⟨Tryz.f100, Tryz.func100, Tryz.ntmps100, by kernel_rfl, by kernel_rfl, by kernel_rfl⟩
def UCi_2 := Bx.mk <|
  aN (uA c100.eq_1) <| aN (uR r100_0.eq_1) <| aN (uR r100_1.eq_1) <| s100.eq_1
theorem any_int (xs : List Int) (p : Int → Bool) (g : Nat) (hl : xs.length ≤ 2000000) (hg : ∀ x, ACallsF Tryz.prog g [.i x] [] (.b (p x))) : ACallsF Tryz.prog 100 [tL (en eI xs), .c (.fn g [])] [] (.b (xs.any p)) := by
  refine ACallsF.intro ok100 follows fun X c0 => ?_
  simp only [RZ, reduceAdd, reduceIte, reduceEqDiff, reduceLT, reduceLeDiff, reduceCtorEq, Nat.reduceBEq, UCi_2.d]
  refine callG (idx_int xs p g hl hg) rfl rfl rfl rfl ⟨rfl, ?_⟩
  simp only [RZ, reduceAdd, reduceIte, reduceEqDiff, reduceLT, reduceLeDiff, reduceCtorEq, Nat.reduceBEq, UCi_2.d, ge_iff_le, ixf_any]
/- slices.IndexFunc[[]loop.example/teagle/impl.CrewHand,loop.example/teagle/impl.CrewHand] -/
def r107_0 : List AOper := [ao 0 4 (.mv (.k (.i 0)))]
def r107_1 : List AOper := [ao 0 6 (.mv (.t 0)),
  ao 1 7 (.len (.t 6)),
  ao 2 8 (.mv (.k (.i 0)))]
def r107_2 : List AOper := [ao 0 9 (.bin .lss (.t 8) (.t 7))]
def c107_3 : ACode := .cond (.t 9) .skip (.exit 0)
def r107_4 : List AOper := [ao 0 10 (.mv (.t 8)),
  ao 1 5 (.mv (.t 10))]
def r107_5 : List AOper := [ao 0 11 (.mv (.t 1)),
  ao 1 12 (.mv (.t 0)),
  ao 2 13 (.mv (.t 5)),
  ao 3 14 (.ia 2 (.t 12) (.t 13)),
  ao 4 15 (.ld 2 true (.t 14)),
  ao 5 16 (.call (.t 11) [(.t 15)])]
def r107_6 : List AOper := [ao 0 17 (.mv (.t 5)),
  ao 1 4 (.mv (.t 17))]
def c107_7 : ACode := .seq (.reg r107_6) .ret
def c107_8 : ACode := .cond (.t 16) c107_7 .skip
def c107_9 : ACode := .seq (.reg r107_4) (.seq (.reg r107_5) c107_8)
def c107_10 : ACode := .block 1 c107_9
def r107_11 : List AOper := [ao 0 18 (.bin .add (.t 8) (.k (.i 1))),
  ao 1 8 (.mv (.t 18))]
def c107_12 : ACode := .seq (.reg r107_2) (.seq c107_3 (.seq c107_10 (.reg r107_11)))
def c107_13 : ACode := .loop c107_12
def c107_14 : ACode := .block 0 c107_13
def c107_15 : ACode := .seq (.reg r107_1) c107_14
def r107_16 : List AOper := [ao 0 4 (.mv (.k (.i (-1))))]
def c107 : ACode := .seq (.reg r107_0) (.seq c107_15 (.seq (.reg r107_16) .ret))
def s107 : List ARes := [.tmp 4]
theorem ok107 : okF Tryz.prog 107 19 c107 s107 := ⟨Tryz.f107, Tryz.func107, Tryz.ntmps107, by kernel_rfl, by kernel_rfl, by kernel_rfl⟩
def inv107 (xs : List Hd) (p : Hd → Bool) (g : Nat) (i : Nat) (σ : St) : Prop := (∀ j : Nat, j < i → ∀ y, xs[j]? = some y → p y = false) ∧ σ.t 0 = tL (en eH xs) ∧ σ.t 1 = .c (.fn g []) ∧ σ.t 7 = .i xs.length ∧ σ.t 8 = .i i
def UCi_3 := Bx.mk <|
  aN (uA c107.eq_1) <| aN (uR r107_0.eq_1) <| aN (uA c107_15.eq_1) <| aN (uR r107_1.eq_1) <| aN (uA c107_14.eq_1) <| aN (uA c107_13.eq_1) <| aN (uR r107_16.eq_1) <| s107.eq_1
def UCi_14 := Bx.mk <|
  aN (uA c107_12.eq_1) <| aN (uR r107_2.eq_1) <| aN (uA c107_3.eq_1) <| aN (uA c107_10.eq_1) <| aN (uA c107_9.eq_1) <| aN (uR r107_4.eq_1) <| aN (uR r107_5.eq_1) <| aN (uA c107_8.eq_1) <| aN (uA c107_7.eq_1) <| aN (uR r107_6.eq_1) <| aN (uR r107_11.eq_1) <| aN (uA c107.eq_1) <| aN (uR r107_0.eq_1) <| aN (uA c107_15.eq_1) <| aN (uR r107_1.eq_1) <| aN (uA c107_14.eq_1) <| aN (uA c107_13.eq_1) <| aN (uR r107_16.eq_1) <| s107.eq_1
theorem idx_hand (xs : List Hd) (p : Hd → Bool) (g : Nat) (hl : xs.length ≤ 2000000) (hg : ∀ x, ACallsF Tryz.prog g [tH x] [] (.b (p x))) : ACallsF Tryz.prog 107 [tL (en eH xs), .c (.fn g [])] [] (.i (ixf p xs)) := by
  refine ACallsF.intro ok107 follows fun X c0 => ?_
  simp only [RZ, reduceAdd, reduceIte, reduceEqDiff, reduceLT, reduceLeDiff, reduceCtorEq, Nat.reduceBEq, UCi_3.d]
  refine AW.upto xs.length (inv107 xs p g) ⟨fun j hj => absurd hj (Nat.not_lt_zero j), rfl, rfl, rfl, rfl⟩ fun i t H c hi h => ?_
  obtain ⟨a, e0, e1, e7, e8⟩ := h
  simp only [T.c, T.i] at e0 e1 e7 e8
  by_cases k1 : (i : Int) < xs.length
  · obtain ⟨x, hx⟩ : ∃ x, xs[i]? = some x := ⟨_, List.getElem?_eq_getElem (by omega)⟩
    have ex := en_at eH hx
    have gz : (0 : Int) ≤ i := by omega
    have gw := w1_ok (i := i) (by omega)
    simp only [RZ, reduceAdd, reduceIte, reduceEqDiff, reduceLT, reduceLeDiff, reduceCtorEq, Nat.reduceBEq, UCi_14.d, e0, e1, e7, e8, k1, en_len, ex, gz, gw, eH]
    refine callC (hg x) rfl rfl rfl rfl ?_
    cases hp : p x with
    | true =>
      have hr := ixf_at hx hp a
      simp only [RZ, reduceAdd, reduceIte, reduceEqDiff, reduceLT, reduceLeDiff, reduceCtorEq, Nat.reduceBEq, UCi_14.d, e0, e1, e7, e8, k1, en_len, ex, gz, gw, eH, hr]
    | false =>
      simp only [RZ, reduceAdd, reduceIte, reduceEqDiff, reduceLT, reduceLeDiff, reduceCtorEq, Nat.reduceBEq, UCi_14.d, e0, e1, e7, e8, k1, en_len, ex, gz, gw, eH]
      exact ⟨by omega, upto_next a hx hp, e0, e1, e7, rfl⟩
  · have hr : ixf p xs = -1 := ixf_no (upto_all (p := fun _ y => p y = false) a (by omega))
    simp only [RZ, reduceAdd, reduceIte, reduceEqDiff, reduceLT, reduceLeDiff, reduceCtorEq, Nat.reduceBEq, UCi_14.d, UCi_3.d, e0, e1, e7, e8, k1, hr]
/- slices.ContainsFunc[[]loop.example/teagle/impl.CrewHand,loop.example/teagle/impl.CrewHand] -/
def r80_0 : List AOper := [ao 0 4 (.mv (.k (.b false)))]
def r80_1 : List AOper := [ao 0 5 (.mv (.t 0)),
  ao 1 6 (.mv (.t 1)),
  ao 2 7 (.call (.k (.c (.fn 107 []))) [(.t 5), (.t 6)]),
  ao 3 8 (.bin .geq (.t 7) (.k (.i 0))),
  ao 4 4 (.mv (.t 8))]
def c80 : ACode := .seq (.reg r80_0) (.seq (.reg r80_1) .ret)
def s80 : List ARes := [.tmp 4]
theorem ok80 : okF Tryz.prog 80 9 c80 s80 := ⟨Tryz.f80, Tryz.func80, Tryz.ntmps80, by kernel_rfl, by kernel_rfl, by kernel_rfl⟩
def UCi_4 := Bx.mk <|
  aN (uA c80.eq_1) <| aN (uR r80_0.eq_1) <| aN (uR r80_1.eq_1) <| s80.eq_1
theorem any_hand (xs : List Hd) (p : Hd → Bool) (g : Nat) (hl : xs.length ≤ 2000000) (hg : ∀ x, ACallsF Tryz.prog g [tH x] [] (.b (p x))) : ACallsF Tryz.prog 80 [tL (en eH xs), .c (.fn g [])] [] (.b (xs.any p)) := by
  refine ACallsF.intro ok80 follows fun X c0 => ?_
  simp only [RZ, reduceAdd, reduceIte, reduceEqDiff, reduceLT, reduceLeDiff, reduceCtorEq, Nat.reduceBEq, UCi_4.d]
  refine callG (idx_hand xs p g hl hg) rfl rfl rfl rfl ⟨rfl, ?_⟩
  simp only [RZ, reduceAdd, reduceIte, reduceEqDiff, reduceLT, reduceLeDiff, reduceCtorEq, Nat.reduceBEq, UCi_4.d, ge_iff_le, ixf_any]
/- (*loop.example/teagle/impl.CrewWorld).sizesOk$1 -/
def r101_0 : List AOper := [ao 0 2 (.mv (.k (.b false)))]
def r101_1 : List AOper := [ao 0 3 (.mv (.t 0)),
  ao 1 4 (.call (.k (.c (.fn 82 []))) [(.t 3), (.k (.i 0)), (.k (.i 1))]),
  ao 2 5 (.un .not (.t 4)),
  ao 3 2 (.mv (.t 5))]
def c101 : ACode := .seq (.reg r101_0) (.seq (.reg r101_1) .ret)
def s101 : List ARes := [.tmp 2]
theorem ok101 : okF Tryz.prog 101 6 c101 s101 := ⟨Tryz.f101, Tryz.func101, Tryz.ntmps101, by kernel_rfl, by kernel_rfl, by kernel_rfl⟩
def UCi_5 := Bx.mk <|
  aN (uA c101.eq_1) <| aN (uR r101_0.eq_1) <| aN (uR r101_1.eq_1) <| s101.eq_1
theorem notBit_ok (n : Int) : ACallsF Tryz.prog 101 [.i n] [] (.b (!(decide (0 ≤ n) && decide (n ≤ 1)))) := by
  refine ACallsF.intro ok101 follows fun X c0 => ?_
  simp only [RZ, reduceAdd, reduceIte, reduceEqDiff, reduceLT, reduceLeDiff, reduceCtorEq, Nat.reduceBEq, UCi_5.d]
  refine callC (inRange_ok n 0 1) rfl rfl rfl rfl ?_
  simp only [RZ, reduceAdd, reduceIte, reduceEqDiff, reduceLT, reduceLeDiff, reduceCtorEq, Nat.reduceBEq, UCi_5.d]
def hdBad (h : Hd) : Bool := !(decide (0 ≤ h.state) && decide (h.state ≤ 3)) || (h.job != 0 && (h.state == 0 || h.state == 3))
theorem hdBad_ok (h : Hd) : hdBad h = false ↔ HdOk h := by
  unfold hdBad
  constructor
  · intro g
    simp only [Bool.or_eq_false_iff, Bool.not_eq_false', Bool.and_eq_true, decide_eq_true_eq, Bool.and_eq_false_iff, bne_eq_false_iff_eq, beq_eq_false_iff_ne] at g
    exact ⟨g.1, by omega⟩
  · intro g
    have h1 := g.state
    have h2 := g.job
    simp only [Bool.or_eq_false_iff, Bool.not_eq_false', Bool.and_eq_true, decide_eq_true_eq, Bool.and_eq_false_iff, bne_eq_false_iff_eq, beq_eq_false_iff_ne]
    exact ⟨h1, by omega⟩
/- (*loop.example/teagle/impl.CrewWorld).sizesOk$2 -/
def r102_0 : List AOper := [ao 0 1 (.box 68 (.t 0)),
  ao 1 2 (.mv (.k (.b false)))]
def r102_1 : List AOper := [ao 0 3 (.fa 0 (.t 1)),
  ao 1 4 (.ld 1 false (.t 3)),
  ao 2 5 (.call (.k (.c (.fn 82 []))) [(.t 4), (.k (.i 0)), (.k (.i 3))]),
  ao 3 6 (.un .not (.t 5)),
  ao 4 7 (.mv (.t 6)),
  ag 5 8 7 false [] (.fa 1 (.t 1)),
  ag 6 9 7 false [] (.ld 1 false (.t 8)),
  ag 7 10 7 false [] (.bin .neq (.t 9) (.k (.i 0))),
  ag 8 11 7 false [] (.mv (.t 10)),
  ag 9 12 11 true [] (.fa 0 (.t 1)),
  ag 10 13 11 true [] (.ld 1 false (.t 12)),
  ag 11 14 11 true [] (.bin .eql (.t 13) (.k (.i 0))),
  ag 12 15 11 true [] (.mv (.t 14)),
  ag 13 16 15 false [] (.fa 0 (.t 1)),
  ag 14 17 15 false [] (.ld 1 false (.t 16)),
  ag 15 18 15 false [] (.bin .eql (.t 17) (.k (.i 3))),
  ag 16 19 11 true [] (.pick (.t 15) (.k (.b true)) (.t 18)),
  ag 17 20 7 false [] (.pick (.t 11) (.t 19) (.k (.b false))),
  ao 18 21 (.pick (.t 7) (.k (.b true)) (.t 20)),
  ao 19 2 (.mv (.t 21))]
def c102 : ACode := .seq (.reg r102_0) (.seq (.reg r102_1) .ret)
def s102 : List ARes := [.tmp 2]
theorem ok102 : okF Tryz.prog 102 22 c102 s102 := ⟨Tryz.f102, Tryz.func102, Tryz.ntmps102, by kernel_rfl, by kernel_rfl, by kernel_rfl⟩
def UCi_6 := Bx.mk <|
  aN (uA c102.eq_1) <| aN (uR r102_0.eq_1) <| aN (uR r102_1.eq_1) <| s102.eq_1
theorem hdBad_run (h : Hd) : ACallsF Tryz.prog 102 [tH h] [] (.b (hdBad h)) := by
  refine ACallsF.intro ok102 follows fun X c0 => ?_
  simp only [RZ, reduceAdd, reduceIte, reduceEqDiff, reduceLT, reduceLeDiff, reduceCtorEq, Nat.reduceBEq, UCi_6.d]
  refine callC (inRange_ok h.state 0 3) rfl rfl rfl rfl ?_
  unfold hdBad
  cases g1 : (decide (0 ≤ h.state) && decide (h.state ≤ 3)) with
  | false => simp only [RZ, reduceAdd, reduceIte, reduceEqDiff, reduceLT, reduceLeDiff, reduceCtorEq, Nat.reduceBEq, UCi_6.d, g1]
  | true =>
    cases g2 : (h.job != 0) with
    | false => simp only [RZ, reduceAdd, reduceIte, reduceEqDiff, reduceLT, reduceLeDiff, reduceCtorEq, Nat.reduceBEq, UCi_6.d, g1, g2]
    | true => cases g3 : (h.state == 0) <;> cases g4 : (h.state == 3) <;> simp only [RZ, reduceAdd, reduceIte, reduceEqDiff, reduceLT, reduceLeDiff, reduceCtorEq, Nat.reduceBEq, UCi_6.d, g1, g2, g3, g4]
/- (*loop.example/teagle/impl.CrewWorld).haveEnded$1 -/
def r81_0 : List AOper := [ao 0 1 (.box 68 (.t 0)),
  ao 1 2 (.mv (.k (.b false)))]
def r81_1 : List AOper := [ao 0 3 (.fa 0 (.t 1)),
  ao 1 4 (.ld 1 false (.t 3)),
  ao 2 5 (.bin .neq (.t 4) (.k (.i 3))),
  ao 3 2 (.mv (.t 5))]
def c81 : ACode := .seq (.reg r81_0) (.seq (.reg r81_1) .ret)
def s81 : List ARes := [.tmp 2]
theorem ok81 : okF Tryz.prog 81 6 c81 s81 := ⟨Tryz.f81, Tryz.func81, Tryz.ntmps81, by kernel_rfl, by kernel_rfl, by kernel_rfl⟩
def UCi_7 := Bx.mk <|
  aN (uA c81.eq_1) <| aN (uR r81_0.eq_1) <| aN (uR r81_1.eq_1) <| s81.eq_1
theorem goes_ok (h : Hd) : ACallsF Tryz.prog 81 [tH h] [] (.b (h.state != 3)) := by
  refine ACallsF.intro ok81 follows fun X c0 => ?_
  simp only [RZ, reduceAdd, reduceIte, reduceEqDiff, reduceLT, reduceLeDiff, reduceCtorEq, Nat.reduceBEq, UCi_7.d]
/- (*loop.example/teagle/impl.CrewWorld).someHasEnded$1 -/
def r113_0 : List AOper := [ao 0 1 (.box 68 (.t 0)),
  ao 1 2 (.mv (.k (.b false)))]
def r113_1 : List AOper := [ao 0 3 (.fa 0 (.t 1)),
  ao 1 4 (.ld 1 false (.t 3)),
  ao 2 5 (.bin .eql (.t 4) (.k (.i 3))),
  ao 3 2 (.mv (.t 5))]
def c113 : ACode := .seq (.reg r113_0) (.seq (.reg r113_1) .ret)
def s113 : List ARes := [.tmp 2]
theorem ok113 : okF Tryz.prog 113 6 c113 s113 := ⟨Tryz.f113, Tryz.func113, Tryz.ntmps113, by kernel_rfl, by kernel_rfl, by kernel_rfl⟩
def UCi_8 := Bx.mk <|
  aN (uA c113.eq_1) <| aN (uR r113_0.eq_1) <| aN (uR r113_1.eq_1) <| s113.eq_1
theorem ended_ok (h : Hd) : ACallsF Tryz.prog 113 [tH h] [] (.b (h.state == 3)) := by
  refine ACallsF.intro ok113 follows fun X c0 => ?_
  simp only [RZ, reduceAdd, reduceIte, reduceEqDiff, reduceLT, reduceLeDiff, reduceCtorEq, Nat.reduceBEq, UCi_8.d]
abbrev YW (f : Nat) (w : CW) (p : Prop) : Prop := WC f [] w (fun b : Bool => b = true ↔ p) T.b
/- (*loop.example/teagle/impl.CrewWorld).isStopped -/
def r105_0 : List AOper := [ao 0 2 (.mv (.k (.b false)))]
def r105_1 : List AOper := [ao 0 3 (.mv (.t 0)),
  ao 1 4 (.nck (.t 3)),
  ao 2 5 (.fa 16 (.t 4)),
  ao 3 6 (.ld 1 false (.t 5)),
  ao 4 7 (.ia 1 (.t 6) (.k (.i 3))),
  ao 5 8 (.ld 1 false (.t 7)),
  ao 6 9 (.bin .eql (.t 8) (.k (.i 1))),
  ao 7 2 (.mv (.t 9))]
def c105 : ACode := .seq (.reg r105_0) (.seq (.reg r105_1) .ret)
def s105 : List ARes := [.tmp 2]
theorem ok105 : okF Tryz.prog 105 10 c105 s105 := ⟨Tryz.f105, Tryz.func105, Tryz.ntmps105, by kernel_rfl, by kernel_rfl, by kernel_rfl⟩
def UCi_9 := Bx.mk <|
  aN (uA c105.eq_1) <| aN (uR r105_0.eq_1) <| aN (uR r105_1.eq_1) <| s105.eq_1
theorem stopped_at {w : CW} (hs : w.shut[3]? = some (sh w 3)) : YW 105 w (sh w 3 = 1) := by
  have s3 := en_at eI hs
  refine WC.intro ok105 rfl (fun _ => rfl) fun X => ?_
  simp only [RZ, reduceAdd, reduceIte, reduceEqDiff, reduceLT, reduceLeDiff, reduceCtorEq, Nat.reduceBEq, rV, UCi_9.d, s3, eI]
  refine ES.mk (sh w 3 == 1) beq_iff_eq ?_
  simp only [RZ, reduceAdd, reduceIte, reduceEqDiff, reduceLT, reduceLeDiff, reduceCtorEq, Nat.reduceBEq, rV, UCi_9.d, s3, eI]
theorem stopped_ok {w : CW} (h : Form w) : YW 105 w (sh w 3 = 1) := stopped_at (sh_at h (by omega))
/- (*loop.example/teagle/impl.CrewWorld).haveEnded -/
def r41_0 : List AOper := [ao 0 2 (.mv (.k (.b false)))]
def r41_1 : List AOper := [ao 0 3 (.mv (.t 0)),
  ao 1 4 (.nck (.t 3)),
  ao 2 5 (.fa 6 (.t 4)),
  ao 3 6 (.ld 1 false (.t 5)),
  ao 4 7 (.call (.k (.c (.fn 80 []))) [(.t 6), (.k (.c (.fn 81 [])))]),
  ao 5 8 (.un .not (.t 7)),
  ao 6 2 (.mv (.t 8))]
def c41 : ACode := .seq (.reg r41_0) (.seq (.reg r41_1) .ret)
def s41 : List ARes := [.tmp 2]
theorem ok41 : okF Tryz.prog 41 9 c41 s41 := ⟨Tryz.f41, Tryz.func41, Tryz.ntmps41, by kernel_rfl, by kernel_rfl, by kernel_rfl⟩
theorem all_any (hs : List Hd) : (!(hs.any fun h => h.state != 3)) = true ↔ ∀ h ∈ hs, h.state = 3 := by
  simp only [Bool.not_eq_true', List.any_eq_false, bne_iff_ne, ne_eq, Decidable.not_not]
theorem any_any (hs : List Hd) : (hs.any fun h => h.state == 3) = true ↔ ∃ h ∈ hs, h.state = 3 := by
  simp only [List.any_eq_true, beq_iff_eq]
def UCi_10 := Bx.mk <|
  aN (uA c41.eq_1) <| aN (uR r41_0.eq_1) <| aN (uR r41_1.eq_1) <| s41.eq_1
theorem haveEnded_ok {w : CW} (h : Form w) : YW 41 w (All w) := by
  have h1 := h.lh
  have h2 := h.st.k
  refine WC.intro ok41 rfl (fun _ => rfl) fun X => ?_
  simp only [RZ, reduceAdd, reduceIte, reduceEqDiff, reduceLT, reduceLeDiff, reduceCtorEq, Nat.reduceBEq, rV, UCi_10.d]
  refine callG (any_hand w.hands (fun h => h.state != 3) 81 (by omega) goes_ok) rfl rfl rfl rfl ⟨rfl, ?_⟩
  simp only [RZ, reduceAdd, reduceIte, reduceEqDiff, reduceLT, reduceLeDiff, reduceCtorEq, Nat.reduceBEq, rV, UCi_10.d]
  refine ES.mk (!(w.hands.any fun h => h.state != 3)) (all_any _) ?_
  simp only [RZ, reduceAdd, reduceIte, reduceEqDiff, reduceLT, reduceLeDiff, reduceCtorEq, Nat.reduceBEq, rV, UCi_10.d]
/- (*loop.example/teagle/impl.CrewWorld).someHasEnded -/
def r106_0 : List AOper := [ao 0 2 (.mv (.k (.b false)))]
def r106_1 : List AOper := [ao 0 3 (.mv (.t 0)),
  ao 1 4 (.nck (.t 3)),
  ao 2 5 (.fa 6 (.t 4)),
  ao 3 6 (.ld 1 false (.t 5)),
  ao 4 7 (.call (.k (.c (.fn 80 []))) [(.t 6), (.k (.c (.fn 113 [])))]),
  ao 5 2 (.mv (.t 7))]
def c106 : ACode := .seq (.reg r106_0) (.seq (.reg r106_1) .ret)
def s106 : List ARes := [.tmp 2]
theorem ok106 : okF Tryz.prog 106 8 c106 s106 := ⟨Tryz.f106, Tryz.func106, Tryz.ntmps106, by kernel_rfl, by kernel_rfl, by kernel_rfl⟩
def UCi_11 := Bx.mk <|
  aN (uA c106.eq_1) <| aN (uR r106_0.eq_1) <| aN (uR r106_1.eq_1) <| s106.eq_1
theorem someHasEnded_ok {w : CW} (h : Form w) : YW 106 w (Any w) := by
  have h1 := h.lh
  have h2 := h.st.k
  refine WC.intro ok106 rfl (fun _ => rfl) fun X => ?_
  simp only [RZ, reduceAdd, reduceIte, reduceEqDiff, reduceLT, reduceLeDiff, reduceCtorEq, Nat.reduceBEq, rV, UCi_11.d]
  refine callG (any_hand w.hands (fun h => h.state == 3) 113 (by omega) ended_ok) rfl rfl rfl rfl ⟨rfl, ?_⟩
  simp only [RZ, reduceAdd, reduceIte, reduceEqDiff, reduceLT, reduceLeDiff, reduceCtorEq, Nat.reduceBEq, rV, UCi_11.d]
  refine ES.mk (w.hands.any fun h => h.state == 3) (any_any _) ?_
  simp only [RZ, reduceAdd, reduceIte, reduceEqDiff, reduceLT, reduceLeDiff, reduceCtorEq, Nat.reduceBEq, rV, UCi_11.d]
/- (*loop.example/teagle/impl.CrewWorld).hasDue -/
def r78_0 : List AOper := [ao 0 2 (.mv (.k (.b false)))]
def r78_1 : List AOper := [ao 0 3 (.mv (.t 0)),
  ao 1 4 (.nck (.t 3)),
  ao 2 5 (.fa 10 (.t 4)),
  ao 3 6 (.ld 1 false (.t 5)),
  au 4 7 (ru 4) (.mv (.t 0)),
  au 5 8 (ru 4) (.nck (.t 7)),
  au 6 9 (ru 4) (.fa 11 (.t 8)),
  au 7 10 (ru 4) (.ld 1 false (.t 9)),
  au 8 11 (ru 8) (.mv (.t 0)),
  au 9 12 (ru 8) (.nck (.t 11)),
  au 10 13 (ru 8) (.fa 2 (.t 12)),
  au 11 14 (ru 8) (.ld 1 false (.t 13)),
  au 12 15 (ru 4) (.bin .rem (.t 10) (.t 14)),
  ao 13 16 (.ia 1 (.t 6) (.t 15)),
  ao 14 17 (.ld 1 false (.t 16)),
  au 15 18 (ru 15) (.mv (.t 0)),
  au 16 19 (ru 15) (.nck (.t 18)),
  au 17 20 (ru 15) (.fa 11 (.t 19)),
  au 18 21 (ru 15) (.ld 1 false (.t 20)),
  ao 19 22 (.bin .eql (.t 17) (.t 21)),
  ao 20 2 (.mv (.t 22))]
def c78 : ACode := .seq (.reg r78_0) (.seq (.reg r78_1) .ret)
def s78 : List ARes := [.tmp 2]
theorem ok78 : okF Tryz.prog 78 23 c78 s78 := ⟨Tryz.f78, Tryz.func78, Tryz.ntmps78, by kernel_rfl, by kernel_rfl, by kernel_rfl⟩
def UCi_12 := Bx.mk <|
  aN (uA c78.eq_1) <| aN (uR r78_0.eq_1) <| aN (uR r78_1.eq_1) <| s78.eq_1
theorem hasDue_ok {w : CW} (h : Form w) : YW 78 w (Due w) := by
  have hn := h.st.n
  have hs := slot_lt h
  have ht := slot_int h
  have hz : ¬ w.window = 0 := by omega
  have gz : (0 : Int) ≤ slot w := by omega
  obtain ⟨x, hx⟩ : ∃ x, w.ring[slot w]? = some x := ⟨_, List.getElem?_eq_getElem (by omega)⟩
  have ex := en_at eI hx
  refine WC.intro ok78 rfl (fun _ => rfl) fun X => ?_
  simp only [RZ, reduceAdd, reduceIte, reduceEqDiff, reduceLT, reduceLeDiff, reduceCtorEq, Nat.reduceBEq, rV, UCi_12.d, hz, ht, gz, ex, eI, Int.toNat_natCast]
  refine ES.mk (x == w.due) (by rw [Due, hx, beq_iff_eq, Option.some.injEq]) ?_
  simp only [RZ, reduceAdd, reduceIte, reduceEqDiff, reduceLT, reduceLeDiff, reduceCtorEq, Nat.reduceBEq, rV, UCi_12.d, hz, ht, gz, ex, eI, Int.toNat_natCast]
end Go.V
set_option linter.unusedSimpArgs false
namespace Go.V
open Go.Proofs
open Nat (reduceAdd reduceEqDiff reduceLT reduceLeDiff)
/-- An array that a call makes. -/
abbrev newH (c m st : Nat) (ty : TypeId) (es : List (List V)) : Hand := ⟨c, m, none, .arr 0 true st ty es, false⟩
/-- What a call does for every empty slice it does for the empty list. -/
theorem nilArgH {P : Program} {f : FuncId} {hs : List Hand} {r : T} (h : ∀ ad c, ACallsF P f [.s (.slice ad 0 c)] hs r) : ACallsF P f [.c (.v (.sl []))] hs r := by
  refine ⟨(h none 0).1, fun w imm L c vs hH hT => ?_⟩
  obtain ⟨x, rfl⟩ : ∃ x, vs = [x] := by
    have := hT.1
    cases vs with
    | nil => simp at this
    | cons x l => cases l with
      | nil => exact ⟨x, rfl⟩
      | cons _ _ => simp at this
  have hx : VRep w imm x (.sl []) := hT.2 0 x _ rfl rfl
  cases hx with
  | nil a cap => exact (h a cap).2 w imm L c _ hH ⟨rfl, fun k x y hx hy => by
      cases k with
      | zero => simp at hx hy; subst hx hy; exact .s _ rfl
      | succ k => simp at hx⟩
  | sl _ _ _ _ _ _ _ hne => exact absurd rfl hne
/-- A nil slice that is returned is an array of the call's own, too. -/
theorem ownNil {P : Program} {f : FuncId} {args : List T} {n m st : Nat} {ty : TypeId} (hst : 0 < st) (h : ACallsF P f args [] (.c .nil0)) : ACallsF P f args [newH n m st ty []] (.c (.own n 0 0)) := by
  refine ⟨h.1, fun w imm L c vs hH hT => ?_⟩
  have e0 : hinOf [newH n m st ty []] = hinOf [] := by
    funext k; rw [hinOf_cons]; split <;> rfl
  rw [e0] at hH hT ⊢
  refine (h.2 w imm L c vs hH hT).mono ?_
  rintro e w' ⟨x, r, h', imm', L', c', he, ⟨ν, hr, _⟩, hx, hHo, hS, hN, hE⟩
  subst hr
  obtain ⟨a, hxa⟩ : ∃ a, x = .slice a 0 0 := hx
  subst hxa
  have hcc : c ≤ c' := by
    rcases Nat.eq_zero_or_pos c with h0 | h0
    · omega
    · have := hE.use (c - 1) (by omega); omega
  refine ⟨.slice a 0 0, .c (.own n c' 0), fun k => if k = n then some (.arr c' true st ty []) else none, imm', fun _ => none, c' + 1, he, ⟨fun _ => c', rfl, fun k hd hh => ?_⟩, ?_, ⟨fun k B hB => ?_, fun _ _ g _ _ hg => (by cases hg), hHo.imm⟩, hS, fun _ g _ hg => (by cases hg), ⟨fun v hv => ?_, fun k ver ty' cs hu hk => ?_, fun k ver wr st' ty' es hu hk => ?_, fun k ver wr st' ty' es g cur hu hk hg => (by cases hg)⟩⟩
  · obtain ⟨h1, h2⟩ := renN_mem hh
    rw [List.mem_singleton] at h1
    subst h1
    have h2' : n = k := h2
    subst h2'
    simp [newH, verB]
  · refine ⟨Nat.lt_succ_self _, ⟨a, 0, rfl, Nat.le_refl _⟩, fun wr st' ty' es hes => ⟨Nat.zero_le _, .inl ⟨a, rfl, rfl⟩⟩⟩
  · have hB' : (if k = n then some (Blk.arr c' true st ty []) else none) = some B := hB
    split at hB'
    · cases hB'
      exact ⟨Nat.lt_succ_self _, hst, fun e he => (by cases he), .inl ⟨rfl, rfl⟩⟩
    · cases hB'
  · have := hE.use v hv; omega
  · have hk' : (if k = n then some (Blk.arr c' true st ty []) else none) = some (Blk.var ver ty' cs) := hk
    split at hk' <;> cases hk'
  · have hk' : (if k = n then some (Blk.arr c' true st ty []) else none) = some (Blk.arr ver wr st' ty' es) := hk
    split at hk'
    · cases hk'; omega
    · cases hk'
section
variable {P : Program} {t : Nat → T} {H : HMap} {c : Nat} {f : Opd} {args : List Opd} {fid : FuncId} {argsC : List T} {ws : List (Nat × Blk)} {ns : List Nat} {k : Nat} {d : Option Nat} {un : List Nat} {l : List AOper} {prev : List (Nat × List Nat × List Nat)} {K : St → Prop}
/-- A call that makes arrays, and is lent slices. -/
theorem callF (hs : List Hand) {r r' : T} {ob : List (Nat × Blk)} (hC : ACallsF P fid argsC hs r) (hf : ev t f = .pt (.one (.fn fid []))) (hl : lendTs H argsC (args.map (ev t)) = some (argsC, ws, ns)) (ha : argsC.all closedA = true) (hb : ∀ h ∈ hs, h.b = none) (hm : (hs.map (·.m)).Nodup) (hc : (hs.map (·.c)).Nodup)
    (hq : quiet r hs = true) (hr : renOT hs (c + k) r = some r') (ho : renOBs hs (c + k) hs = some ob)
    (hk : chk prev un ⟨r', ob, ns ++ hs.map (·.m), hs.map (·.m)⟩ = true ∧ DRun P l ((k, ns ++ hs.map (·.m), hs.map (·.m)) :: prev) K ⟨updD t d r', updH H ob, c⟩) :
    step P k d un (.call f args) l prev K t H c := by
  refine callW (caps := []) («as» := argsC) (ws := ws) (ns := ns) (r' := r') (ob := ob) hs hC hf (by simpa using hl) (closed_As hs H argsC ha).2 ?_ hm hc hr ho (by simpa [hq] using hk)
  have : ∀ l : List Hand, (∀ h ∈ l, h.b = none) → handsIn (updH H ws) hs l := by
    intro l
    induction l with
    | nil => intro _; trivial
    | cons h l ih => intro hl; exact ⟨by rw [hl h (by simp)]; trivial, ih fun x hx => hl x (by simp [hx])⟩
  exact this hs hb
/-- A call that makes one array. -/
theorem callA1 {n m N st : Nat} {ty : TypeId} {es : List (List V)} (hC : ACallsF P fid argsC [newH n m st ty es] (.c (.own n 0 N))) (hf : ev t f = .pt (.one (.fn fid []))) (hl : lendTs H argsC (args.map (ev t)) = some (argsC, ws, ns)) (ha : argsC.all closedA = true) (he : (es.all fun e => e.all flatV) = true)
    (hk : chk prev un ⟨.c (.own m (c + k) N), [(m, .arr (c + k) true st ty es)], ns ++ [m], [m]⟩ = true ∧ DRun P l ((k, ns ++ [m], [m]) :: prev) K ⟨updD t d (.c (.own m (c + k) N)), upd H m (some (.arr (c + k) true st ty es)), c⟩) :
    step P k d un (.call f args) l prev K t H c := by
  have hN : renN [newH n m st ty es] n = some (newH n m st ty es) := by simp [renN]
  refine callF (r' := .c (.own m (c + k) N)) (ob := [(m, .arr (c + k) true st ty es)]) [newH n m st ty es] hC hf hl ha (by simp) (by simp) (by simp) ?_ ?_ ?_ ?_
  · simp only [quiet, List.all_cons, List.all_nil, flatB, he]; rfl
  · simp only [T.c, renOT, renOP, renO, hN, Option.map_some, verOf]; rfl
  · simp only [renOBs, renOB, verOf]; rfl
  · simpa [updH] using hk
end
def part {α : Type} (xs : List α) (z : α) (i : Nat) : List α := xs.take i ++ List.replicate (xs.length - i) z
theorem part_len {α : Type} (xs : List α) (z : α) {i : Nat} (h : i ≤ xs.length) : (part xs z i).length = xs.length := by simp [part]; omega
theorem part_zero {α : Type} (xs : List α) (z : α) : part xs z 0 = List.replicate xs.length z := by simp [part]
theorem part_end {α : Type} (xs : List α) (z : α) : part xs z xs.length = xs := by simp [part]
theorem part_set {α : Type} (xs : List α) (z : α) {i : Nat} {x : α} (h : xs[i]? = some x) : (part xs z i).set i x = part xs z (i + 1) := by
  have hi := (List.getElem?_eq_some_iff.1 h).1
  have e : xs.length - i = (xs.length - (i + 1)) + 1 := by omega
  have hl : (xs.take i).length = i := by simp; omega
  rw [part, e, List.replicate_succ, List.set_append, if_neg (by omega), hl, Nat.sub_self, List.set_cons_zero, part, List.take_add_one, h]
  simp
theorem part_at {α : Type} (xs : List α) (z : α) {i : Nat} (h : i < xs.length) : (part xs z i)[i]? = some z := by
  have hl : (xs.take i).length = i := by simp; omega
  rw [part, List.getElem?_append_right (by omega), hl, Nat.sub_self, List.getElem?_replicate, if_pos (by omega)]
abbrev u64T (n : Int) : T := .s (.int .u64 n)
theorem u64_mask {n : Int} (h : 0 ≤ n ∧ n ≤ 16) : IntKind.u64.wrap ((BitVec.ofInt IntKind.u64.bits n &&& BitVec.ofInt IntKind.u64.bits 4294967295).toNat : Nat) = n := by
  rcases (by omega : n = 0 ∨ n = 1 ∨ n = 2 ∨ n = 3 ∨ n = 4 ∨ n = 5 ∨ n = 6 ∨ n = 7 ∨ n = 8 ∨ n = 9 ∨ n = 10 ∨ n = 11 ∨ n = 12 ∨ n = 13 ∨ n = 14 ∨ n = 15 ∨ n = 16) with rfl | rfl | rfl | rfl | rfl | rfl | rfl | rfl | rfl | rfl | rfl | rfl | rfl | rfl | rfl | rfl | rfl <;> rfl
theorem u64_high {n : Int} (h : 0 ≤ n ∧ n ≤ 16) : Int.fdiv n (2 ^ min (Int.toNat 32) IntKind.u64.bits) = 0 := by
  rcases (by omega : n = 0 ∨ n = 1 ∨ n = 2 ∨ n = 3 ∨ n = 4 ∨ n = 5 ∨ n = 6 ∨ n = 7 ∨ n = 8 ∨ n = 9 ∨ n = 10 ∨ n = 11 ∨ n = 12 ∨ n = 13 ∨ n = 14 ∨ n = 15 ∨ n = 16) with rfl | rfl | rfl | rfl | rfl | rfl | rfl | rfl | rfl | rfl | rfl | rfl | rfl | rfl | rfl | rfl | rfl <;> rfl
theorem u64_wrap {n : Int} (h : 0 ≤ n ∧ n ≤ 16) : IntKind.u64.wrap n = n := by
  rcases (by omega : n = 0 ∨ n = 1 ∨ n = 2 ∨ n = 3 ∨ n = 4 ∨ n = 5 ∨ n = 6 ∨ n = 7 ∨ n = 8 ∨ n = 9 ∨ n = 10 ∨ n = 11 ∨ n = 12 ∨ n = 13 ∨ n = 14 ∨ n = 15 ∨ n = 16) with rfl | rfl | rfl | rfl | rfl | rfl | rfl | rfl | rfl | rfl | rfl | rfl | rfl | rfl | rfl | rfl | rfl <;> rfl
/- math/bits.Mul64 -/
def r128_0 : List AOper := [ao 0 4 (.mv (.k (.s (.int .u64 0)))),
  ao 1 5 (.mv (.k (.s (.int .u64 0))))]
def r128_1 : List AOper := [ao 0 14 (.mv (.t 0)),
  ao 1 15 (.bin .and (.t 14) (.k (.s (.int .u64 4294967295)))),
  ao 2 6 (.mv (.t 15))]
def r128_2 : List AOper := [ao 0 16 (.mv (.t 0)),
  ao 1 17 (.bin .shr (.t 16) (.k (.s (.int .u64 32)))),
  ao 2 7 (.mv (.t 17))]
def r128_3 : List AOper := [ao 0 18 (.mv (.t 1)),
  ao 1 19 (.bin .and (.t 18) (.k (.s (.int .u64 4294967295)))),
  ao 2 8 (.mv (.t 19))]
def r128_4 : List AOper := [ao 0 20 (.mv (.t 1)),
  ao 1 21 (.bin .shr (.t 20) (.k (.s (.int .u64 32)))),
  ao 2 9 (.mv (.t 21))]
def r128_5 : List AOper := [ao 0 22 (.mv (.t 6)),
  ao 1 23 (.mv (.t 8)),
  ao 2 24 (.bin .mul (.t 22) (.t 23)),
  ao 3 10 (.mv (.t 24))]
def r128_6 : List AOper := [ao 0 25 (.mv (.t 7)),
  ao 1 26 (.mv (.t 8)),
  ao 2 27 (.bin .mul (.t 25) (.t 26)),
  ao 3 28 (.mv (.t 10)),
  ao 4 29 (.bin .shr (.t 28) (.k (.s (.int .u64 32)))),
  ao 5 30 (.bin .add (.t 27) (.t 29)),
  ao 6 11 (.mv (.t 30))]
def r128_7 : List AOper := [ao 0 31 (.mv (.t 11)),
  ao 1 32 (.bin .and (.t 31) (.k (.s (.int .u64 4294967295)))),
  ao 2 12 (.mv (.t 32))]
def r128_8 : List AOper := [ao 0 33 (.mv (.t 11)),
  ao 1 34 (.bin .shr (.t 33) (.k (.s (.int .u64 32)))),
  ao 2 13 (.mv (.t 34))]
def r128_9 : List AOper := [ao 0 35 (.mv (.t 12)),
  ao 1 36 (.mv (.t 6)),
  ao 2 37 (.mv (.t 9)),
  ao 3 38 (.bin .mul (.t 36) (.t 37)),
  ao 4 39 (.bin .add (.t 35) (.t 38)),
  ao 5 12 (.mv (.t 39))]
def r128_10 : List AOper := [ao 0 40 (.mv (.t 7)),
  ao 1 41 (.mv (.t 9)),
  ao 2 42 (.bin .mul (.t 40) (.t 41)),
  ao 3 43 (.mv (.t 13)),
  ao 4 44 (.bin .add (.t 42) (.t 43)),
  ao 5 45 (.mv (.t 12)),
  ao 6 46 (.bin .shr (.t 45) (.k (.s (.int .u64 32)))),
  ao 7 47 (.bin .add (.t 44) (.t 46)),
  ao 8 4 (.mv (.t 47))]
def r128_11 : List AOper := [ao 0 48 (.mv (.t 0)),
  ao 1 49 (.mv (.t 1)),
  ao 2 50 (.bin .mul (.t 48) (.t 49)),
  ao 3 5 (.mv (.t 50))]
def c128 : ACode := .seq (.reg r128_0) (.seq (.reg r128_1) (.seq (.reg r128_2) (.seq (.reg r128_3) (.seq (.reg r128_4) (.seq (.reg r128_5) (.seq (.reg r128_6) (.seq (.reg r128_7) (.seq (.reg r128_8) (.seq (.reg r128_9) (.seq (.reg r128_10) (.seq (.reg r128_11) .ret)))))))))))
def s128 : List ARes := [.tmp 4, .tmp 5]
theorem ok128 : okF Tryz.prog 128 51 c128 s128 := ⟨Tryz.f128, Tryz.func128, Tryz.ntmps128, by kernel_rfl, by kernel_rfl, by kernel_rfl⟩
def UCj_1 := Bx.mk <|
  aN (uA c128.eq_1) <| aN (uR r128_0.eq_1) <| aN (uR r128_1.eq_1) <| aN (uR r128_2.eq_1) <| aN (uR r128_3.eq_1) <| aN (uR r128_4.eq_1) <| aN (uR r128_5.eq_1) <| aN (uR r128_6.eq_1) <| aN (uR r128_7.eq_1) <| aN (uR r128_8.eq_1) <| aN (uR r128_9.eq_1) <| aN (uR r128_10.eq_1) <| aN (uR r128_11.eq_1) <| s128.eq_1
theorem mul64_ok (n : Int) (h : 1 ≤ n ∧ n ≤ 16) : ACallsF Tryz.prog 128 [u64T 1, u64T n] [] (.tup [.one (.v (.s (.int .u64 0))), .one (.v (.s (.int .u64 n)))]) := by
  have z0 : ¬ (32 : Int) < 0 := by decide
  have hn : 0 ≤ n ∧ n ≤ 16 := by omega
  have h0 : (0 : Int) ≤ 0 ∧ (0 : Int) ≤ 16 := by decide
  have h1 : (0 : Int) ≤ 1 ∧ (1 : Int) ≤ 16 := by decide
  have m0 := u64_mask h0
  have m1 := u64_mask h1
  have mn := u64_mask hn
  have s0 := u64_high h0
  have s1 := u64_high h1
  have sn := u64_high hn
  have w0 := u64_wrap h0
  have wn := u64_wrap hn
  refine ACallsF.intro ok128 follows fun X c0 => ?_
  simp only [RZ, reduceAdd, reduceIte, reduceEqDiff, reduceLT, reduceLeDiff, reduceCtorEq, Nat.reduceBEq, UCj_1.d, z0, m0, m1, mn, s0, s1, sn, w0, wn, Int.one_mul, Int.zero_mul, Int.mul_zero, Int.zero_add, Int.add_zero]
/- math/bits.Mul -/
def r114_0 : List AOper := [ao 0 4 (.mv (.k (.s (.int .u64 0)))),
  ao 1 5 (.mv (.k (.s (.int .u64 0))))]
def r114_1 : List AOper := [ao 0 11 (.mv (.t 0)),
  ao 1 12 (.cnvI .u32 (.t 11)),
  ao 2 13 (.mv (.t 1)),
  ao 3 14 (.cnvI .u32 (.t 13)),
  ao 4 15 (.call (.k (.c (.fn 127 []))) [(.t 12), (.t 14)]),
  ao 5 10 (.mv (.t 15)),
  ao 6 16 (.ext 0 (.t 10)),
  ao 7 17 (.ext 1 (.t 10)),
  ao 8 6 (.mv (.t 16)),
  ao 9 7 (.mv (.t 17))]
def r114_2 : List AOper := [ao 0 18 (.mv (.t 6)),
  ao 1 19 (.cnvI .u64 (.t 18)),
  ao 2 20 (.mv (.t 7)),
  ao 3 21 (.cnvI .u64 (.t 20)),
  ao 4 4 (.mv (.t 19)),
  ao 5 5 (.mv (.t 21))]
def c114_3 : ACode := .seq (.reg r114_1) (.seq (.reg r114_2) .ret)
def c114_4 : ACode := .cond (.k (.b false)) c114_3 .skip
def r114_5 : List AOper := [ao 0 23 (.mv (.t 0)),
  ao 1 24 (.mv (.t 1)),
  ao 2 25 (.call (.k (.c (.fn 128 []))) [(.t 23), (.t 24)]),
  ao 3 22 (.mv (.t 25)),
  ao 4 26 (.ext 0 (.t 22)),
  ao 5 27 (.ext 1 (.t 22)),
  ao 6 8 (.mv (.t 26)),
  ao 7 9 (.mv (.t 27))]
def r114_6 : List AOper := [ao 0 28 (.mv (.t 8)),
  ao 1 29 (.mv (.t 9)),
  ao 2 4 (.mv (.t 28)),
  ao 3 5 (.mv (.t 29))]
def c114 : ACode := .seq (.reg r114_0) (.seq c114_4 (.seq (.reg r114_5) (.seq (.reg r114_6) .ret)))
def s114 : List ARes := [.tmp 4, .tmp 5]
theorem ok114 : okF Tryz.prog 114 30 c114 s114 := ⟨Tryz.f114, Tryz.func114, Tryz.ntmps114, by kernel_rfl, by kernel_rfl, by kernel_rfl⟩
def UCj_2 := Bx.mk <|
  aN (uA c114.eq_1) <| aN (uR r114_0.eq_1) <| aN (uA c114_4.eq_1) <| aN (uA c114_3.eq_1) <| aN (uR r114_1.eq_1) <| aN (uR r114_2.eq_1) <| aN (uR r114_5.eq_1) <| aN (uR r114_6.eq_1) <| s114.eq_1
theorem mul_ok (n : Int) (h : 1 ≤ n ∧ n ≤ 16) : ACallsF Tryz.prog 114 [u64T 1, u64T n] [] (.tup [.one (.v (.s (.int .u64 0))), .one (.v (.s (.int .u64 n)))]) := by
  refine ACallsF.intro ok114 follows fun X c0 => ?_
  simp only [RZ, reduceAdd, reduceIte, reduceEqDiff, reduceLT, reduceLeDiff, reduceCtorEq, Nat.reduceBEq, UCj_2.d]
  refine callC (mul64_ok n h) rfl rfl rfl rfl ?_
  simp only [RZ, reduceAdd, reduceIte, reduceEqDiff, reduceLT, reduceLeDiff, reduceCtorEq, Nat.reduceBEq, UCj_2.d]
/- slices.Repeat[[]int,int] -/
def r108_0 : List AOper := [ao 0 4 (.mv (.k (.c .nil0)))]
def r108_1 : List AOper := [ao 0 9 (.mv (.t 1)),
  ao 1 10 (.bin .lss (.t 9) (.k (.i 0)))]
def r108_2 : List AOper := [ao 0 11 (.bad),
  an 1 (.bad)]
def c108_3 : ACode := .cond (.t 10) (.reg r108_2) .skip
def c108_4 : ACode := .seq (.reg r108_1) c108_3
def r108_5 : List AOper := [ao 0 13 (.mv (.t 0)),
  ao 1 14 (.len (.t 13)),
  ao 2 15 (.cnvI .u64 (.t 14)),
  ao 3 16 (.mv (.t 1)),
  ao 4 17 (.cnvI .u64 (.t 16)),
  ao 5 18 (.call (.k (.c (.fn 114 []))) [(.t 15), (.t 17)]),
  ao 6 12 (.mv (.t 18)),
  ao 7 19 (.ext 0 (.t 12)),
  ao 8 20 (.ext 1 (.t 12)),
  ao 9 5 (.mv (.t 19)),
  ao 10 6 (.mv (.t 20))]
def r108_6 : List AOper := [ao 0 21 (.mv (.t 5)),
  ao 1 22 (.bin .gtr (.t 21) (.k (.s (.int .u64 0)))),
  ao 2 23 (.mv (.t 22)),
  ag 3 24 23 false [] (.mv (.t 6)),
  ag 4 25 23 false [] (.bin .gtr (.t 24) (.k (.s (.int .u64 9223372036854775807)))),
  ao 5 26 (.pick (.t 23) (.k (.b true)) (.t 25))]
def r108_7 : List AOper := [ao 0 27 (.bad),
  an 1 (.bad)]
def c108_8 : ACode := .cond (.t 26) (.reg r108_7) .skip
def c108_9 : ACode := .seq (.reg r108_6) c108_8
def r108_10 : List AOper := [ao 0 28 (.mv (.t 6)),
  ao 1 29 (.cnvI .i64 (.t 28)),
  ao 2 30 (.mks 1 3 8 [(.s (.int .i64 0))] (.t 29) (.t 29)),
  ao 3 7 (.mv (.t 30))]
def r108_11 : List AOper := [ao 0 31 (.mv (.t 7)),
  ao 1 32 (.mv (.t 0)),
  ao 2 33 (.cpy (.t 31) (.t 32)),
  ao 3 8 (.mv (.t 33))]
def r108_12 : List AOper := [ao 0 34 (.mv (.t 8)),
  ao 1 35 (.mv (.t 7)),
  ao 2 36 (.len (.t 35)),
  ao 3 37 (.bin .lss (.t 34) (.t 36))]
def c108_13 : ACode := .cond (.t 37) .skip (.exit 0)
def c108_14 : ACode := .seq (.reg r108_12) c108_13
def r108_15 : List AOper := [ao 0 38 (.mv (.t 8)),
  au 1 39 [0] (.mv (.t 7)),
  au 2 40 [0, 1] (.mv (.t 8)),
  au 3 41 [0] (.slc 1 (.t 39) (some (.t 40)) none),
  au 4 42 (ru 4) (.mv (.t 7)),
  au 5 43 (ru 5) (.mv (.t 8)),
  au 6 44 (ru 4) (.slc 1 (.t 42) none (some (.t 43))),
  au 7 45 [0] (.cpy (.t 41) (.t 44)),
  ao 8 46 (.bin .add (.t 38) (.t 45)),
  ao 9 8 (.mv (.t 46))]
def c108_16 : ACode := .block 1 (.reg r108_15)
def c108_17 : ACode := .seq c108_14 c108_16
def c108_18 : ACode := .loop c108_17
def c108_19 : ACode := .block 0 c108_18
def r108_20 : List AOper := [ao 0 47 (.mv (.t 7)),
  ao 1 4 (.mv (.t 47))]
def c108 : ACode := .seq (.reg r108_0) (.seq c108_4 (.seq (.reg r108_5) (.seq c108_9 (.seq (.reg r108_10) (.seq (.reg r108_11) (.seq c108_19 (.seq (.reg r108_20) .ret)))))))
def s108 : List ARes := [.tmp 4]
theorem ok108 : okF Tryz.prog 108 48 c108 s108 := ⟨Tryz.f108, Tryz.func108, Tryz.ntmps108, by kernel_rfl, by kernel_rfl, by kernel_rfl⟩
def inv108 (n : Nat) (i : Nat) (σ : St) : Prop := ∃ m : Nat, i + 1 ≤ m ∧ m ≤ n ∧ σ.t 8 = .i m ∧ ∃ v, σ.t 7 = .c (.own 30 v n) ∧ σ.H 30 = some (.arr v true 1 3 (en eI (List.replicate m (-1) ++ List.replicate (n - m) 0)))
def UCj_3 := Bx.mk <|
  aN (uA c108.eq_1) <| aN (uR r108_0.eq_1) <| aN (uA c108_4.eq_1) <| aN (uR r108_1.eq_1) <| aN (uA c108_3.eq_1) <| aN (uR r108_2.eq_1) <| aN (uR r108_5.eq_1) <| aN (uA c108_9.eq_1) <| aN (uR r108_6.eq_1) <| aN (uA c108_8.eq_1) <| aN (uR r108_7.eq_1) <| aN (uR r108_10.eq_1) <| aN (uR r108_11.eq_1) <| aN (uA c108_19.eq_1) <| aN (uA c108_18.eq_1) <| aN (uR r108_20.eq_1) <| s108.eq_1
def UCj_4 := Bx.mk <|
  aN (uA c108_17.eq_1) <| aN (uA c108_14.eq_1) <| aN (uR r108_12.eq_1) <| aN (uA c108_13.eq_1) <| aN (uA c108_16.eq_1) <| aN (uR r108_15.eq_1) <| aN (uA c108.eq_1) <| aN (uR r108_0.eq_1) <| aN (uA c108_4.eq_1) <| aN (uR r108_1.eq_1) <| aN (uA c108_3.eq_1) <| aN (uR r108_2.eq_1) <| aN (uR r108_5.eq_1) <| aN (uA c108_9.eq_1) <| aN (uR r108_6.eq_1) <| aN (uA c108_8.eq_1) <| aN (uR r108_7.eq_1) <| aN (uR r108_10.eq_1) <| aN (uR r108_11.eq_1) <| aN (uA c108_19.eq_1) <| aN (uA c108_18.eq_1) <| aN (uR r108_20.eq_1) <| s108.eq_1
theorem repeat_ok (n : Nat) (h : 1 ≤ n ∧ n ≤ 16) (m0 : Nat) : ACallsF Tryz.prog 108 [tL (en eI [-1]), .i n] [newH 30 m0 1 3 (en eI (List.replicate n (-1)))] (.c (.own 30 0 n)) := by
  have h16 : (1 : Int) ≤ n ∧ (n : Int) ≤ 16 := by omega
  have k0 : ¬ (n : Int) < 0 := by omega
  have k1 : ¬ (0 : Int) > 0 := by decide
  have k2 : ¬ (n : Int) > 9223372036854775807 := by omega
  have w1 : IntKind.u64.wrap ((n : Int)) = n := u64_wrap (by omega)
  have w2 : IntKind.i64.wrap ((n : Int)) = n := wrap64 ⟨by omega, by omega⟩
  have w3 : IntKind.u64.wrap 1 = 1 := rfl
  have q0 : (0 : Int) ≤ n := by omega
  have q1 : ((8 : Nat) : Int) * (n : Int) ≤ 281474976710656 := by omega
  have q2 : (n : Int) ≤ 9223372036854775807 := by omega
  have en_one1 : en eI [-1] = [[.s (.int .i64 (-1))]] := rfl
  have ra : List.replicate n [V.s (.int .i64 0)] = en eI (List.replicate n 0) := en_rep eI n 0
  have ha : ∀ e ∈ ([[.s (.int .i64 (-1))]] : List (List V)), e.length = 1 := by simp
  have hm1 : min 1 n = 1 := by omega
  have hl : 0 + n ≤ (List.replicate n (0 : Int)).length := by rw [List.length_replicate]; omega
  have dr1 : [[V.s (.int .i64 (-1))]].take n = [[V.s (.int .i64 (-1))]] := List.take_of_length_le (by simp; omega)
  refine ACallsF.intro ok108 follows fun X c0 => ?_
  simp only [RZ, reduceAdd, reduceIte, reduceEqDiff, reduceLT, reduceLeDiff, reduceCtorEq, Nat.reduceBEq, UCj_3.d, k0, w1, w3, en_len, List.length_singleton]
  refine callC (mul_ok n h16) rfl rfl rfl rfl ?_
  simp only [RZ, reduceAdd, reduceIte, reduceEqDiff, reduceLT, reduceLeDiff, reduceCtorEq, Nat.reduceBEq, UCj_3.d, k0, k1, k2, w1, w2, w3, q0, q1, q2, Int.le_refl, en_one1, ra, ha, dstOf.eq_1, dstOf.eq_2, hm1, hl, dr1]
  refine AW.upto n (inv108 n) ?_ fun i t H c hi h' => ?_
  · refine ⟨1, by omega, by omega, rfl, _, rfl, ?_⟩
    show some (Blk.arr _ true 1 3 (eI (-1) :: (en eI (List.replicate n 0)).drop 1)) = _
    rw [en_drop, List.drop_replicate]; rfl
  obtain ⟨m, hm, hmn, e8, v, e7, eH⟩ := h'
  simp only [T.c, T.i] at e8 e7 eH
  have hlen : (en eI (List.replicate m (-1) ++ List.replicate (n - m) 0)).length = n := by simp [en]; omega
  obtain ⟨p, rfl⟩ : ∃ p, m = p + 1 := ⟨m - 1, by omega⟩
  by_cases k3 : p + 1 < n
  · have k4 : ((p + 1 : Nat) : Int) < n := by omega
    have k5 : ((p + 1 : Nat) : Int) ≤ n := by omega
    have gm : p + 1 ≤ n := by omega
    have gz : (0 : Int) ≤ ((p + 1 : Nat) : Int) := by omega
    have g2 : p + 1 + (n - (p + 1)) ≤ n := by omega
    have q3 : (n : Int) ≤ n := by omega
    have tk : List.take (p + 1) (en eI (List.replicate (p + 1) (-1) ++ List.replicate (n - (p + 1)) 0)) = en eI (List.replicate (p + 1) (-1)) := by
      rw [en_cut, List.take_append_of_le_length (by simp), List.take_of_length_le (by simp)]
    have al := en_one eI eI_len (List.replicate (p + 1) (-1))
    obtain ⟨s, hs⟩ : ∃ s, min (p + 1) (n - (p + 1)) = s := ⟨_, rfl⟩
    have w4 : IntKind.i64.wrap (((p + 1 : Nat) : Int) + (s : Int)) = ((p + 1 + s : Nat) : Int) := wrap64 (x := ((p + 1 : Nat) : Int) + (s : Int)) ⟨by omega, by omega⟩
    simp only [RZ, reduceAdd, reduceIte, reduceEqDiff, reduceLT, reduceLeDiff, reduceCtorEq, Nat.reduceBEq, UCj_4.d, e8, e7, eH, k4, hlen, gm, gz, dstOf.eq_1, dstOf.eq_2, lohi, k5, q3, g2, tk, al, hs, List.length_replicate, w4]
    refine ⟨by omega, p + 1 + s, by omega, by omega, rfl, v, e7, ?_⟩
    show some (Blk.arr v true 1 3 _) = _
    rw [en_cut, en_drop, ← en_app, ← en_app]
    refine arr_eq ?_
    rw [List.take_replicate, List.drop_append, List.length_replicate, List.drop_eq_nil_of_le (by simp), List.nil_append, List.drop_replicate, List.replicate_append_replicate]
    congr 2 <;> omega
  · have hmn2 : p + 1 = n := by omega
    subst hmn2
    have k4 : ¬ ((p + 1 : Nat) : Int) < ((p + 1 : Nat) : Int) := by omega
    rw [Nat.sub_self, List.replicate_zero, List.append_nil] at eH
    simp only [RZ, reduceAdd, reduceIte, reduceEqDiff, reduceLT, reduceLeDiff, reduceCtorEq, Nat.reduceBEq, UCj_4.d, UCj_3.d, e8, e7, eH, k4, imp_self]
end Go.V
set_option linter.unusedSimpArgs false
namespace Go.V
open Go.Proofs
open Nat (reduceAdd reduceEqDiff reduceLT reduceLeDiff)
theorem lendI {H : HMap} {m v n : Nat} {w : Bool} {xs : List Int} (h : H m = some (.arr v w 1 3 (en eI xs))) (e : n = xs.length) : lendT H (tL (en eI xs)) (.c (.own m v n)) = some (tL (en eI xs), [(m, .arr v false 1 3 (en eI xs))], [m]) := by
  subst e
  simp only [tL, T.c, lendT, lendC, sealC, h, en_len, en_take, Nat.le_refl, and_self, if_true, Option.map_some]
theorem lendH {H : HMap} {m v n : Nat} {w : Bool} {xs : List Hd} (h : H m = some (.arr v w 2 68 (en eH xs))) (e : n = xs.length) : lendT H (tL (en eH xs)) (.c (.own m v n)) = some (tL (en eH xs), [(m, .arr v false 2 68 (en eH xs))], [m]) := by
  subst e
  simp only [tL, T.c, lendT, lendC, sealC, h, en_len, en_take, Nat.le_refl, and_self, if_true, Option.map_some]
theorem lend1I {H : HMap} {m v n : Nat} {w : Bool} {xs : List Int} {x : T} (h : H m = some (.arr v w 1 3 (en eI xs))) (e : n = xs.length) (hx : closedA x = true) : lendTs H [tL (en eI xs), x] [.c (.own m v n), x] = some ([tL (en eI xs), x], [(m, .arr v false 1 3 (en eI xs))], [m]) := by
  simp only [lendTs, lendI h e, (closed_A [] H x hx).1, List.append_nil]
/- loop.example/teagle/impl.CrewStart -/
def r99_0 : List AOper := [ao 0 6 (.alloc 26 [(.v (.s (.int .i64 0))), (.v (.s (.int .i64 0))), (.v (.s (.int .i64 0))), (.v (.s (.int .i64 0))), (.v (.s (.int .i64 0))), .nil0, .nil0, (.v (.s (.int .i64 0))), .nil0, (.v (.s (.int .i64 0))), .nil0, (.v (.s (.int .i64 0))), .nil0, (.v (.s (.int .i64 0))), .nil0, (.v (.s (.int .i64 0))), .nil0, (.v (.s (.int .i64 0)))]),
  ao 1 7 (.mv (.k (.b false)))]
def r99_1 : List AOper := [ao 0 8 (.mv (.t 0)),
  ao 1 9 (.call (.k (.c (.fn 82 []))) [(.t 8), (.k (.i 0)), (.k (.i 60))]),
  ao 2 10 (.un .not (.t 9)),
  ao 3 11 (.mv (.t 10)),
  ag 4 12 11 false [] (.mv (.t 1)),
  ag 5 13 11 false [] (.call (.k (.c (.fn 82 []))) [(.t 12), (.k (.i 1)), (.k (.i 8))]),
  ag 6 14 11 false [] (.un .not (.t 13)),
  ao 7 15 (.pick (.t 11) (.k (.b true)) (.t 14)),
  ao 8 16 (.mv (.t 15)),
  ag 9 17 16 false [] (.mv (.t 2)),
  ag 10 18 16 false [] (.call (.k (.c (.fn 82 []))) [(.t 17), (.k (.i 1)), (.k (.i 16))]),
  ag 11 19 16 false [] (.un .not (.t 18)),
  ao 12 20 (.pick (.t 16) (.k (.b true)) (.t 19))]
def r99_2 : List AOper := [ao 0 21 (.build [(.v (.s (.int .i64 0))), (.v (.s (.int .i64 0))), (.v (.s (.int .i64 0))), (.v (.s (.int .i64 0))), (.v (.s (.int .i64 0))), .nil0, .nil0, (.v (.s (.int .i64 0))), .nil0, (.v (.s (.int .i64 0))), .nil0, (.v (.s (.int .i64 0))), .nil0, (.v (.s (.int .i64 0))), .nil0, (.v (.s (.int .i64 0))), .nil0, (.v (.s (.int .i64 0)))] []),
  an 1 (.st 18 (.t 6) (.t 21)),
  ao 2 7 (.mv (.k (.b false)))]
def c99_3 : ACode := .seq (.reg r99_2) .ret
def c99_4 : ACode := .cond (.t 20) c99_3 .skip
def c99_5 : ACode := .seq (.reg r99_1) c99_4
def r99_6 : List AOper := [ao 0 22 (.mv (.t 0)),
  au 1 23 [0] (.mv (.t 1)),
  au 2 24 [0, 1] (.mv (.t 2)),
  au 3 25 (ru 3) (.mv (.t 2)),
  au 4 26 (ru 4) (.mv (.t 1)),
  au 5 27 (ru 4) (.mks 2 68 16 [(.s (.int .i64 0)), (.s (.int .i64 0))] (.t 26) (.t 26)),
  au 6 28 (ru 6) (.bsl 1 3 [(.k (.i (-1)))]),
  au 7 29 (ru 7) (.mv (.t 2)),
  au 8 30 (ru 6) (.call (.k (.c (.fn 108 []))) [(.t 28), (.t 29)]),
  au 9 31 (ru 9) (.mks 1 3 8 [(.s (.int .i64 0))] (.k (.i 4)) (.k (.i 4))),
  ao 10 32 (.build [(.v (.s (.int .i64 0))), (.v (.s (.int .i64 0))), (.v (.s (.int .i64 0))), (.v (.s (.int .i64 0))), (.v (.s (.int .i64 0))), .nil0, .nil0, (.v (.s (.int .i64 0))), .nil0, (.v (.s (.int .i64 0))), .nil0, (.v (.s (.int .i64 0))), .nil0, (.v (.s (.int .i64 0))), .nil0, (.v (.s (.int .i64 0))), .nil0, (.v (.s (.int .i64 0)))] [(0, 1, (.t 22)), (1, 1, (.t 23)), (2, 1, (.t 24)), (15, 1, (.t 25)), (6, 1, (.t 27)), (10, 1, (.t 30)), (16, 1, (.t 31))]),
  an 11 (.st 18 (.t 6) (.t 32)),
  ao 12 7 (.mv (.k (.b true)))]
def c99 : ACode := .seq (.reg r99_0) (.seq c99_5 (.seq (.reg r99_6) .ret))
def s99 : List ARes := [.cell 6 18 true, .tmp 7]
theorem ok99 : okF Tryz.prog 99 33 c99 s99 := ⟨Tryz.f99, Tryz.func99, Tryz.ntmps99, by kernel_rfl, by kernel_rfl, by kernel_rfl⟩
def UCk_1 := Bx.mk <|
  aN (uA c99.eq_1) <| aN (uR r99_0.eq_1) <| aN (uA c99_5.eq_1) <| aN (uR r99_1.eq_1) <| aN (uA c99_4.eq_1) <| aN (uA c99_3.eq_1) <| aN (uR r99_2.eq_1) <| aN (uR r99_6.eq_1) <| s99.eq_1
theorem pstart_no {j k n : Int} (h : ¬ StartOk j k n) : ACallsF Tryz.prog 99 [.i j, .i k, .i n] [] (.tup [.agg (cwC cw0), .one (.v (.s (.bool false)))]) := by
  refine ACallsF.intro ok99 follows fun X c0 => ?_
  simp only [RZ, reduceAdd, reduceIte, reduceEqDiff, reduceLT, reduceLeDiff, reduceCtorEq, Nat.reduceBEq, UCk_1.d]
  by_cases h1 : 0 ≤ j ∧ j ≤ 60
  · refine callC (in_yes h1) rfl rfl rfl rfl ?_
    simp only [RZ, reduceAdd, reduceIte, reduceEqDiff, reduceLT, reduceLeDiff, reduceCtorEq, Nat.reduceBEq, UCk_1.d]
    by_cases h2 : 1 ≤ k ∧ k ≤ 8
    · refine callC (in_yes h2) rfl rfl rfl rfl ?_
      simp only [RZ, reduceAdd, reduceIte, reduceEqDiff, reduceLT, reduceLeDiff, reduceCtorEq, Nat.reduceBEq, UCk_1.d]
      have h3 : ¬ (1 ≤ n ∧ n ≤ 16) := fun h3 => h ⟨h1, h2, h3⟩
      refine callC (in_no h3) rfl rfl rfl rfl ?_
      simp only [RZ, reduceAdd, reduceIte, reduceEqDiff, reduceLT, reduceLeDiff, reduceCtorEq, Nat.reduceBEq, UCk_1.d]
      rfl
    · refine callC (in_no h2) rfl rfl rfl rfl ?_
      simp only [RZ, reduceAdd, reduceIte, reduceEqDiff, reduceLT, reduceLeDiff, reduceCtorEq, Nat.reduceBEq, UCk_1.d]
      rfl
  · refine callC (in_no h1) rfl rfl rfl rfl ?_
    simp only [RZ, reduceAdd, reduceIte, reduceEqDiff, reduceLT, reduceLeDiff, reduceCtorEq, Nat.reduceBEq, UCk_1.d]
    rfl
set_option maxHeartbeats 1000000 in
theorem pstart_yes {j k n : Int} (h : StartOk j k n) : ACallsF Tryz.prog 99 [.i j, .i k, .i n] [] (.tup [.agg (cwC (start j k n)), .one (.v (.s (.bool true)))]) := by
  have hk := h.k
  have hn := h.n
  obtain ⟨nn, rfl⟩ : ∃ m : Nat, n = m := ⟨n.toNat, by omega⟩
  have ra : List.replicate k.toNat [V.s (.int .i64 0), .s (.int .i64 0)] = en eH (List.replicate k.toNat ⟨0, 0⟩) := en_rep eH _ ⟨0, 0⟩
  have q0 : (0 : Int) ≤ k := by omega
  have q1 : ((16 : Nat) : Int) * k ≤ 281474976710656 := by omega
  have q2 : k ≤ 9223372036854775807 := by omega
  have q3 : ((8 : Nat) : Int) * 4 ≤ 281474976710656 := by decide
  have q4 : (4 : Int) ≤ 9223372036854775807 := by decide
  refine ACallsF.intro ok99 follows fun X c0 => ?_
  simp only [RZ, reduceAdd, reduceIte, reduceEqDiff, reduceLT, reduceLeDiff, reduceCtorEq, Nat.reduceBEq, UCk_1.d]
  refine callC (in_yes h.j) rfl rfl rfl rfl ?_
  simp only [RZ, reduceAdd, reduceIte, reduceEqDiff, reduceLT, reduceLeDiff, reduceCtorEq, Nat.reduceBEq, UCk_1.d]
  refine callC (in_yes h.k) rfl rfl rfl rfl ?_
  simp only [RZ, reduceAdd, reduceIte, reduceEqDiff, reduceLT, reduceLeDiff, reduceCtorEq, Nat.reduceBEq, UCk_1.d]
  refine callC (in_yes h.n) rfl rfl rfl rfl ?_
  simp only [RZ, reduceAdd, reduceIte, reduceEqDiff, reduceLT, reduceLeDiff, reduceCtorEq, Nat.reduceBEq, UCk_1.d, q0, q1, q2, q3, q4, Int.le_refl]
  refine callA1 (m := 30) (ws := [(28, .arr (c0 + 2 + 13 + 6) false 1 3 (en eI [-1]))]) (ns := [28]) (repeat_ok nn (by omega) 30) rfl (lend1I (w := true) rfl rfl rfl) rfl (en_flat eI eI_flat _) ⟨rfl, ?_⟩
  simp only [RZ, reduceAdd, reduceIte, reduceEqDiff, reduceLT, reduceLeDiff, reduceCtorEq, Nat.reduceBEq, UCk_1.d, q0, q1, q2, q3, q4, Int.le_refl, List.length_replicate, List.take_replicate, Nat.min_self, ra, en_cut]
  rfl
end Go.V
set_option linter.unusedSimpArgs false
namespace Go.V
open Go.Proofs
open Nat (reduceAdd reduceEqDiff reduceLT reduceLeDiff)
/-- Form, without how much the user has got. -/
structure PForm (w : CW) : Prop where
  st : StartOk w.jobs w.workers w.window
  next : 0 ≤ w.next ∧ w.next ≤ w.jobs
  due : 0 ≤ w.due ∧ w.due ≤ w.next
  room : 0 ≤ w.room ∧ w.room ≤ w.window
  ops : 0 ≤ w.ops ∧ w.ops ≤ 10000
  lh : (w.hands.length : Int) = w.workers
  lr : (w.ring.length : Int) = w.window
  ls : (w.shut.length : Int) = 4
  lq : (w.queue.length : Int) ≤ w.workers
  le : (w.results.length : Int) ≤ w.workers
  lo : (w.out.length : Int) ≤ 1
  shut : ∀ s ∈ w.shut, 0 ≤ s ∧ s ≤ 1
  hand : ∀ h ∈ w.hands, HdOk h
  rd : 0 ≤ w.reader ∧ w.reader ≤ 3
  cl : 0 ≤ w.closer ∧ w.closer ≤ 1
  kp : 0 ≤ w.keeper ∧ w.keeper ≤ 5
  us : 0 ≤ w.user ∧ w.user ≤ 1
theorem Form.p {w : CW} (h : Form w) : PForm w := ⟨h.st, h.next, h.due, h.room, ⟨h.ops0, h.ops1⟩, h.lh, h.lr, h.ls, h.lq, h.le, h.lo, h.shut, h.hand, h.rd, h.cl, h.kp, h.us⟩
theorem PForm.f {w : CW} (h : PForm w) (hg : (w.got.length : Int) ≤ w.jobs) : Form w := ⟨h.st, h.next, h.due, h.room, h.ops.1, h.ops.2, h.lh, h.lr, h.ls, h.lq, h.le, h.lo, hg, h.shut, h.hand, h.rd, h.cl, h.kp, h.us⟩
theorem shut_any (xs : List Int) : (xs.any fun n => !(decide (0 ≤ n) && decide (n ≤ 1))) = false ↔ ∀ s ∈ xs, 0 ≤ s ∧ s ≤ 1 := by
  simp only [List.any_eq_false, Bool.not_eq_true', Bool.not_eq_false, Bool.and_eq_true, decide_eq_true_eq]
theorem hand_any (hs : List Hd) : hs.any hdBad = false ↔ ∀ h ∈ hs, HdOk h := by
  simp only [List.any_eq_false, Bool.not_eq_true, hdBad_ok]
/- (*loop.example/teagle/impl.CrewWorld).sizesOk -/
def r75_0 : List AOper := [ao 0 2 (.mv (.k (.b false)))]
def r75_1 : List AOper := [ao 0 6 (.mv (.t 0)),
  ao 1 7 (.nck (.t 6)),
  ao 2 8 (.fa 0 (.t 7)),
  ao 3 9 (.ld 1 false (.t 8)),
  au 4 10 (ru 4) (.mv (.t 0)),
  au 5 11 (ru 4) (.nck (.t 10)),
  au 6 12 (ru 4) (.fa 1 (.t 11)),
  au 7 13 (ru 4) (.ld 1 false (.t 12)),
  au 8 14 (ru 8) (.mv (.t 0)),
  au 9 15 (ru 8) (.nck (.t 14)),
  au 10 16 (ru 8) (.fa 2 (.t 15)),
  au 11 17 (ru 8) (.ld 1 false (.t 16)),
  ao 12 18 (.call (.k (.c (.fn 99 []))) [(.t 9), (.t 13), (.t 17)]),
  ao 13 5 (.mv (.t 18)),
  ao 14 19 (.ext 0 (.t 5)),
  au 15 20 [14] (.ext 1 (.t 5)),
  au 16 3 (ru 16) (.alloc 26 [(.v (.s (.int .i64 0))), (.v (.s (.int .i64 0))), (.v (.s (.int .i64 0))), (.v (.s (.int .i64 0))), (.v (.s (.int .i64 0))), .nil0, .nil0, (.v (.s (.int .i64 0))), .nil0, (.v (.s (.int .i64 0))), .nil0, (.v (.s (.int .i64 0))), .nil0, (.v (.s (.int .i64 0))), .nil0, (.v (.s (.int .i64 0))), .nil0, (.v (.s (.int .i64 0)))]),
  ax 17 none none [15] (.st 18 (.t 3) (.t 19)),
  ao 18 4 (.mv (.t 20))]
def r75_2 : List AOper := [ao 0 21 (.mv (.t 4)),
  ao 1 22 (.un .not (.t 21)),
  ao 2 23 (.mv (.t 22)),
  ag 3 24 23 false [] (.mv (.t 0)),
  ag 4 25 23 false [] (.nck (.t 24)),
  ag 5 26 23 false [] (.fa 3 (.t 25)),
  ag 6 27 23 false [] (.ld 1 false (.t 26)),
  ag 7 28 23 false [3, 4, 5, 6] (.mv (.t 0)),
  ag 8 29 23 false [3, 4, 5, 6] (.nck (.t 28)),
  ag 9 30 23 false [3, 4, 5, 6] (.fa 0 (.t 29)),
  ag 10 31 23 false [3, 4, 5, 6] (.ld 1 false (.t 30)),
  ag 11 32 23 false [] (.call (.k (.c (.fn 82 []))) [(.t 27), (.k (.i 0)), (.t 31)]),
  ag 12 33 23 false [] (.un .not (.t 32)),
  ao 13 34 (.pick (.t 23) (.k (.b true)) (.t 33)),
  ao 14 35 (.mv (.t 34)),
  ag 15 36 35 false [] (.mv (.t 0)),
  ag 16 37 35 false [] (.nck (.t 36)),
  ag 17 38 35 false [] (.fa 11 (.t 37)),
  ag 18 39 35 false [] (.ld 1 false (.t 38)),
  ag 19 40 35 false [15, 16, 17, 18] (.mv (.t 0)),
  ag 20 41 35 false [15, 16, 17, 18] (.nck (.t 40)),
  ag 21 42 35 false [15, 16, 17, 18] (.fa 3 (.t 41)),
  ag 22 43 35 false [15, 16, 17, 18] (.ld 1 false (.t 42)),
  ag 23 44 35 false [] (.call (.k (.c (.fn 82 []))) [(.t 39), (.k (.i 0)), (.t 43)]),
  ag 24 45 35 false [] (.un .not (.t 44)),
  ao 25 46 (.pick (.t 35) (.k (.b true)) (.t 45)),
  ao 26 47 (.mv (.t 46)),
  ag 27 48 47 false [] (.mv (.t 0)),
  ag 28 49 47 false [] (.nck (.t 48)),
  ag 29 50 47 false [] (.fa 15 (.t 49)),
  ag 30 51 47 false [] (.ld 1 false (.t 50)),
  ag 31 52 47 false [27, 28, 29, 30] (.mv (.t 0)),
  ag 32 53 47 false [27, 28, 29, 30] (.nck (.t 52)),
  ag 33 54 47 false [27, 28, 29, 30] (.fa 2 (.t 53)),
  ag 34 55 47 false [27, 28, 29, 30] (.ld 1 false (.t 54)),
  ag 35 56 47 false [] (.call (.k (.c (.fn 82 []))) [(.t 51), (.k (.i 0)), (.t 55)]),
  ag 36 57 47 false [] (.un .not (.t 56)),
  ao 37 58 (.pick (.t 47) (.k (.b true)) (.t 57)),
  ao 38 59 (.mv (.t 58)),
  ag 39 60 59 false [] (.mv (.t 0)),
  ag 40 61 59 false [] (.nck (.t 60)),
  ag 41 62 59 false [] (.fa 17 (.t 61)),
  ag 42 63 59 false [] (.ld 1 false (.t 62)),
  ag 43 64 59 false [] (.call (.k (.c (.fn 82 []))) [(.t 63), (.k (.i 0)), (.k (.i 10000))]),
  ag 44 65 59 false [] (.un .not (.t 64)),
  ao 45 66 (.pick (.t 59) (.k (.b true)) (.t 65))]
def r75_3 : List AOper := [ao 0 2 (.mv (.k (.b false)))]
def c75_4 : ACode := .seq (.reg r75_3) .ret
def c75_5 : ACode := .cond (.t 66) c75_4 .skip
def c75_6 : ACode := .seq (.reg r75_1) (.seq (.reg r75_2) c75_5)
def r75_7 : List AOper := [ao 0 67 (.mv (.t 0)),
  ao 1 68 (.nck (.t 67)),
  ao 2 69 (.fa 6 (.t 68)),
  ao 3 70 (.ld 1 false (.t 69)),
  ao 4 71 (.len (.t 70)),
  au 5 72 (ru 5) (.mv (.t 0)),
  au 6 73 (ru 5) (.nck (.t 72)),
  au 7 74 (ru 5) (.fa 1 (.t 73)),
  au 8 75 (ru 5) (.ld 1 false (.t 74)),
  ao 9 76 (.bin .neq (.t 71) (.t 75)),
  ao 10 77 (.mv (.t 76)),
  ag 11 78 77 false [] (.mv (.t 0)),
  ag 12 79 77 false [] (.nck (.t 78)),
  ag 13 80 77 false [] (.fa 10 (.t 79)),
  ag 14 81 77 false [] (.ld 1 false (.t 80)),
  ag 15 82 77 false [] (.len (.t 81)),
  ag 16 83 77 false [11, 12, 13, 14, 15] (.mv (.t 0)),
  ag 17 84 77 false [11, 12, 13, 14, 15] (.nck (.t 83)),
  ag 18 85 77 false [11, 12, 13, 14, 15] (.fa 2 (.t 84)),
  ag 19 86 77 false [11, 12, 13, 14, 15] (.ld 1 false (.t 85)),
  ag 20 87 77 false [] (.bin .neq (.t 82) (.t 86)),
  ao 21 88 (.pick (.t 77) (.k (.b true)) (.t 87)),
  ao 22 89 (.mv (.t 88)),
  ag 23 90 89 false [] (.mv (.t 0)),
  ag 24 91 89 false [] (.nck (.t 90)),
  ag 25 92 89 false [] (.fa 16 (.t 91)),
  ag 26 93 89 false [] (.ld 1 false (.t 92)),
  ag 27 94 89 false [] (.len (.t 93)),
  ag 28 95 89 false [] (.bin .neq (.t 94) (.k (.i 4))),
  ao 29 96 (.pick (.t 89) (.k (.b true)) (.t 95)),
  ao 30 97 (.mv (.t 96)),
  ag 31 98 97 false [] (.mv (.t 0)),
  ag 32 99 97 false [] (.nck (.t 98)),
  ag 33 100 97 false [] (.fa 5 (.t 99)),
  ag 34 101 97 false [] (.ld 1 false (.t 100)),
  ag 35 102 97 false [] (.len (.t 101)),
  ag 36 103 97 false [31, 32, 33, 34, 35] (.mv (.t 0)),
  ag 37 104 97 false [31, 32, 33, 34, 35] (.nck (.t 103)),
  ag 38 105 97 false [31, 32, 33, 34, 35] (.fa 1 (.t 104)),
  ag 39 106 97 false [31, 32, 33, 34, 35] (.ld 1 false (.t 105)),
  ag 40 107 97 false [] (.bin .gtr (.t 102) (.t 106)),
  ao 41 108 (.pick (.t 97) (.k (.b true)) (.t 107)),
  ao 42 109 (.mv (.t 108)),
  ag 43 110 109 false [] (.mv (.t 0)),
  ag 44 111 109 false [] (.nck (.t 110)),
  ag 45 112 109 false [] (.fa 8 (.t 111)),
  ag 46 113 109 false [] (.ld 1 false (.t 112)),
  ag 47 114 109 false [] (.len (.t 113)),
  ag 48 115 109 false [43, 44, 45, 46, 47] (.mv (.t 0)),
  ag 49 116 109 false [43, 44, 45, 46, 47] (.nck (.t 115)),
  ag 50 117 109 false [43, 44, 45, 46, 47] (.fa 1 (.t 116)),
  ag 51 118 109 false [43, 44, 45, 46, 47] (.ld 1 false (.t 117)),
  ag 52 119 109 false [] (.bin .gtr (.t 114) (.t 118)),
  ao 53 120 (.pick (.t 109) (.k (.b true)) (.t 119)),
  ao 54 121 (.mv (.t 120)),
  ag 55 122 121 false [] (.mv (.t 0)),
  ag 56 123 121 false [] (.nck (.t 122)),
  ag 57 124 121 false [] (.fa 12 (.t 123)),
  ag 58 125 121 false [] (.ld 1 false (.t 124)),
  ag 59 126 121 false [] (.len (.t 125)),
  ag 60 127 121 false [] (.bin .gtr (.t 126) (.k (.i 1))),
  ao 61 128 (.pick (.t 121) (.k (.b true)) (.t 127))]
def r75_8 : List AOper := [ao 0 2 (.mv (.k (.b false)))]
def c75_9 : ACode := .seq (.reg r75_8) .ret
def c75_10 : ACode := .cond (.t 128) c75_9 .skip
def c75_11 : ACode := .seq (.reg r75_7) c75_10
def r75_12 : List AOper := [ao 0 129 (.mv (.t 0)),
  ao 1 130 (.nck (.t 129)),
  ao 2 131 (.fa 16 (.t 130)),
  ao 3 132 (.ld 1 false (.t 131)),
  ao 4 133 (.call (.k (.c (.fn 100 []))) [(.t 132), (.k (.c (.fn 101 [])))]),
  ao 5 134 (.mv (.t 133)),
  ag 6 135 134 false [] (.mv (.t 0)),
  ag 7 136 134 false [] (.nck (.t 135)),
  ag 8 137 134 false [] (.fa 6 (.t 136)),
  ag 9 138 134 false [] (.ld 1 false (.t 137)),
  ag 10 139 134 false [] (.call (.k (.c (.fn 80 []))) [(.t 138), (.k (.c (.fn 102 [])))]),
  ao 11 140 (.pick (.t 134) (.k (.b true)) (.t 139))]
def r75_13 : List AOper := [ao 0 2 (.mv (.k (.b false)))]
def c75_14 : ACode := .seq (.reg r75_13) .ret
def c75_15 : ACode := .cond (.t 140) c75_14 .skip
def c75_16 : ACode := .seq (.reg r75_12) c75_15
def r75_17 : List AOper := [ao 0 141 (.mv (.t 0)),
  ao 1 142 (.nck (.t 141)),
  ao 2 143 (.fa 4 (.t 142)),
  ao 3 144 (.ld 1 false (.t 143)),
  ao 4 145 (.call (.k (.c (.fn 82 []))) [(.t 144), (.k (.i 0)), (.k (.i 3))]),
  ao 5 146 (.mv (.t 145)),
  ag 6 147 146 true [] (.mv (.t 0)),
  ag 7 148 146 true [] (.nck (.t 147)),
  ag 8 149 146 true [] (.fa 7 (.t 148)),
  ag 9 150 146 true [] (.ld 1 false (.t 149)),
  ag 10 151 146 true [] (.call (.k (.c (.fn 82 []))) [(.t 150), (.k (.i 0)), (.k (.i 1))]),
  ao 11 152 (.pick (.t 146) (.t 151) (.k (.b false))),
  ao 12 153 (.mv (.t 152)),
  ag 13 154 153 true [] (.mv (.t 0)),
  ag 14 155 153 true [] (.nck (.t 154)),
  ag 15 156 153 true [] (.fa 9 (.t 155)),
  ag 16 157 153 true [] (.ld 1 false (.t 156)),
  ag 17 158 153 true [] (.call (.k (.c (.fn 82 []))) [(.t 157), (.k (.i 0)), (.k (.i 5))]),
  ao 18 159 (.pick (.t 153) (.t 158) (.k (.b false))),
  ao 19 160 (.mv (.t 159)),
  ag 20 161 160 true [] (.mv (.t 0)),
  ag 21 162 160 true [] (.nck (.t 161)),
  ag 22 163 160 true [] (.fa 13 (.t 162)),
  ag 23 164 160 true [] (.ld 1 false (.t 163)),
  ag 24 165 160 true [] (.call (.k (.c (.fn 82 []))) [(.t 164), (.k (.i 0)), (.k (.i 1))]),
  ao 25 166 (.pick (.t 160) (.t 165) (.k (.b false))),
  ao 26 2 (.mv (.t 166))]
def c75 : ACode := .seq (.reg r75_0) (.seq c75_6 (.seq c75_11 (.seq c75_16 (.seq (.reg r75_17) .ret))))
def s75 : List ARes := [.tmp 2]
theorem ok75 : okF Tryz.prog 75 167 c75 s75 := ⟨Tryz.f75, Tryz.func75, Tryz.ntmps75, by kernel_rfl, by kernel_rfl, by kernel_rfl⟩
def UCl_1 := Bx.mk <|
  aN (uA c75.eq_1) <| aN (uR r75_0.eq_1) <| aN (uA c75_6.eq_1) <| aN (uR r75_1.eq_1) <| aN (uR r75_2.eq_1) <| aN (uA c75_5.eq_1) <| aN (uA c75_4.eq_1) <| aN (uR r75_3.eq_1) <| aN (uA c75_11.eq_1) <| aN (uR r75_7.eq_1) <| aN (uA c75_10.eq_1) <| aN (uA c75_9.eq_1) <| aN (uR r75_8.eq_1) <| aN (uA c75_16.eq_1) <| aN (uR r75_12.eq_1) <| aN (uA c75_15.eq_1) <| aN (uA c75_14.eq_1) <| aN (uR r75_13.eq_1) <| aN (uR r75_17.eq_1) <| s75.eq_1
set_option maxRecDepth 4000 in
set_option maxHeartbeats 1000000 in
theorem sizes_ok (w : CW) : YW 75 w (PForm w) := by
  refine WC.intro ok75 rfl (fun _ => rfl) fun X => ?_
  simp only [RZ, reduceAdd, reduceIte, reduceEqDiff, reduceLT, reduceLeDiff, reduceCtorEq, Nat.reduceBEq, rV, UCl_1.d]
  by_cases hst : StartOk w.jobs w.workers w.window
  rotate_left
  · refine callC (pstart_no hst) rfl rfl rfl rfl ?_
    simp only [RZ, reduceAdd, reduceIte, reduceEqDiff, reduceLT, reduceLeDiff, reduceCtorEq, Nat.reduceBEq, rV, UCl_1.d]
    refine ES.mk false (no fun g => hst g.st) ?_
    simp only [RZ, reduceAdd, reduceIte, reduceEqDiff, reduceLT, reduceLeDiff, reduceCtorEq, Nat.reduceBEq, rV, UCl_1.d]
  refine callC (pstart_yes hst) rfl rfl rfl rfl ?_
  simp only [RZ, reduceAdd, reduceIte, reduceEqDiff, reduceLT, reduceLeDiff, reduceCtorEq, Nat.reduceBEq, rV, UCl_1.d]
  by_cases h1 : 0 ≤ w.next ∧ w.next ≤ w.jobs
  rotate_left
  · refine callC (in_no h1) rfl rfl rfl rfl ?_
    simp only [RZ, reduceAdd, reduceIte, reduceEqDiff, reduceLT, reduceLeDiff, reduceCtorEq, Nat.reduceBEq, rV, UCl_1.d]
    refine ES.mk false (no fun g => h1 g.next) ?_
    simp only [RZ, reduceAdd, reduceIte, reduceEqDiff, reduceLT, reduceLeDiff, reduceCtorEq, Nat.reduceBEq, rV, UCl_1.d]
  refine callC (in_yes h1) rfl rfl rfl rfl ?_
  simp only [RZ, reduceAdd, reduceIte, reduceEqDiff, reduceLT, reduceLeDiff, reduceCtorEq, Nat.reduceBEq, rV, UCl_1.d]
  by_cases h2 : 0 ≤ w.due ∧ w.due ≤ w.next
  rotate_left
  · refine callC (in_no h2) rfl rfl rfl rfl ?_
    simp only [RZ, reduceAdd, reduceIte, reduceEqDiff, reduceLT, reduceLeDiff, reduceCtorEq, Nat.reduceBEq, rV, UCl_1.d]
    refine ES.mk false (no fun g => h2 g.due) ?_
    simp only [RZ, reduceAdd, reduceIte, reduceEqDiff, reduceLT, reduceLeDiff, reduceCtorEq, Nat.reduceBEq, rV, UCl_1.d]
  refine callC (in_yes h2) rfl rfl rfl rfl ?_
  simp only [RZ, reduceAdd, reduceIte, reduceEqDiff, reduceLT, reduceLeDiff, reduceCtorEq, Nat.reduceBEq, rV, UCl_1.d]
  by_cases h3 : 0 ≤ w.room ∧ w.room ≤ w.window
  rotate_left
  · refine callC (in_no h3) rfl rfl rfl rfl ?_
    simp only [RZ, reduceAdd, reduceIte, reduceEqDiff, reduceLT, reduceLeDiff, reduceCtorEq, Nat.reduceBEq, rV, UCl_1.d]
    refine ES.mk false (no fun g => h3 g.room) ?_
    simp only [RZ, reduceAdd, reduceIte, reduceEqDiff, reduceLT, reduceLeDiff, reduceCtorEq, Nat.reduceBEq, rV, UCl_1.d]
  refine callC (in_yes h3) rfl rfl rfl rfl ?_
  simp only [RZ, reduceAdd, reduceIte, reduceEqDiff, reduceLT, reduceLeDiff, reduceCtorEq, Nat.reduceBEq, rV, UCl_1.d]
  by_cases h4 : 0 ≤ w.ops ∧ w.ops ≤ 10000
  rotate_left
  · refine callC (in_no h4) rfl rfl rfl rfl ?_
    simp only [RZ, reduceAdd, reduceIte, reduceEqDiff, reduceLT, reduceLeDiff, reduceCtorEq, Nat.reduceBEq, rV, UCl_1.d]
    refine ES.mk false (no fun g => h4 g.ops) ?_
    simp only [RZ, reduceAdd, reduceIte, reduceEqDiff, reduceLT, reduceLeDiff, reduceCtorEq, Nat.reduceBEq, rV, UCl_1.d]
  refine callC (in_yes h4) rfl rfl rfl rfl ?_
  simp only [RZ, reduceAdd, reduceIte, reduceEqDiff, reduceLT, reduceLeDiff, reduceCtorEq, Nat.reduceBEq, rV, UCl_1.d]
  by_cases h6 : ¬ (w.hands.length : Int) = w.workers
  · simp only [RZ, reduceAdd, reduceIte, reduceEqDiff, reduceLT, reduceLeDiff, reduceCtorEq, Nat.reduceBEq, rV, UCl_1.d, en_len, neqn h6]
    refine ES.mk false (no fun g => h6 g.lh) ?_
    simp only [RZ, reduceAdd, reduceIte, reduceEqDiff, reduceLT, reduceLeDiff, reduceCtorEq, Nat.reduceBEq, rV, UCl_1.d, en_len, neqn h6]
  simp only [RZ, reduceAdd, reduceIte, reduceEqDiff, reduceLT, reduceLeDiff, reduceCtorEq, Nat.reduceBEq, rV, UCl_1.d, en_len, eqn (Decidable.not_not.1 h6)]
  by_cases h7 : ¬ (w.ring.length : Int) = w.window
  · simp only [RZ, reduceAdd, reduceIte, reduceEqDiff, reduceLT, reduceLeDiff, reduceCtorEq, Nat.reduceBEq, rV, UCl_1.d, en_len, neqn h7]
    refine ES.mk false (no fun g => h7 g.lr) ?_
    simp only [RZ, reduceAdd, reduceIte, reduceEqDiff, reduceLT, reduceLeDiff, reduceCtorEq, Nat.reduceBEq, rV, UCl_1.d, en_len, neqn h7]
  simp only [RZ, reduceAdd, reduceIte, reduceEqDiff, reduceLT, reduceLeDiff, reduceCtorEq, Nat.reduceBEq, rV, UCl_1.d, en_len, eqn (Decidable.not_not.1 h7)]
  by_cases h8 : ¬ (w.shut.length : Int) = 4
  · simp only [RZ, reduceAdd, reduceIte, reduceEqDiff, reduceLT, reduceLeDiff, reduceCtorEq, Nat.reduceBEq, rV, UCl_1.d, en_len, neqn h8]
    refine ES.mk false (no fun g => h8 g.ls) ?_
    simp only [RZ, reduceAdd, reduceIte, reduceEqDiff, reduceLT, reduceLeDiff, reduceCtorEq, Nat.reduceBEq, rV, UCl_1.d, en_len, neqn h8]
  simp only [RZ, reduceAdd, reduceIte, reduceEqDiff, reduceLT, reduceLeDiff, reduceCtorEq, Nat.reduceBEq, rV, UCl_1.d, en_len, eqn (Decidable.not_not.1 h8)]
  by_cases h9 : (w.queue.length : Int) > w.workers
  · simp only [RZ, reduceAdd, reduceIte, reduceEqDiff, reduceLT, reduceLeDiff, reduceCtorEq, Nat.reduceBEq, rV, UCl_1.d, en_len, h9]
    refine ES.mk false (no fun g => absurd g.lq (by omega)) ?_
    simp only [RZ, reduceAdd, reduceIte, reduceEqDiff, reduceLT, reduceLeDiff, reduceCtorEq, Nat.reduceBEq, rV, UCl_1.d, en_len, h9]
  simp only [RZ, reduceAdd, reduceIte, reduceEqDiff, reduceLT, reduceLeDiff, reduceCtorEq, Nat.reduceBEq, rV, UCl_1.d, en_len, h9]
  by_cases h10 : (w.results.length : Int) > w.workers
  · simp only [RZ, reduceAdd, reduceIte, reduceEqDiff, reduceLT, reduceLeDiff, reduceCtorEq, Nat.reduceBEq, rV, UCl_1.d, en_len, h10]
    refine ES.mk false (no fun g => absurd g.le (by omega)) ?_
    simp only [RZ, reduceAdd, reduceIte, reduceEqDiff, reduceLT, reduceLeDiff, reduceCtorEq, Nat.reduceBEq, rV, UCl_1.d, en_len, h10]
  simp only [RZ, reduceAdd, reduceIte, reduceEqDiff, reduceLT, reduceLeDiff, reduceCtorEq, Nat.reduceBEq, rV, UCl_1.d, en_len, h10]
  by_cases h11 : (w.out.length : Int) > 1
  · simp only [RZ, reduceAdd, reduceIte, reduceEqDiff, reduceLT, reduceLeDiff, reduceCtorEq, Nat.reduceBEq, rV, UCl_1.d, en_len, h11]
    refine ES.mk false (no fun g => absurd g.lo (by omega)) ?_
    simp only [RZ, reduceAdd, reduceIte, reduceEqDiff, reduceLT, reduceLeDiff, reduceCtorEq, Nat.reduceBEq, rV, UCl_1.d, en_len, h11]
  simp only [RZ, reduceAdd, reduceIte, reduceEqDiff, reduceLT, reduceLeDiff, reduceCtorEq, Nat.reduceBEq, rV, UCl_1.d, en_len, h11]
  have h6' := Decidable.not_not.1 h6
  have h7' := Decidable.not_not.1 h7
  have h8' := Decidable.not_not.1 h8
  have hk := hst.k
  refine callG (any_int w.shut _ 101 (by omega) notBit_ok) rfl rfl rfl rfl ⟨rfl, ?_⟩
  have hx := shut_any w.shut
  cases b1 : (w.shut.any fun n => !(decide (0 ≤ n) && decide (n ≤ 1))) with
  | true =>
    simp only [RZ, reduceAdd, reduceIte, reduceEqDiff, reduceLT, reduceLeDiff, reduceCtorEq, Nat.reduceBEq, rV, UCl_1.d, en_len]
    refine ES.mk false (no fun g => by rw [hx.2 g.shut] at b1; cases b1) ?_
    simp only [RZ, reduceAdd, reduceIte, reduceEqDiff, reduceLT, reduceLeDiff, reduceCtorEq, Nat.reduceBEq, rV, UCl_1.d, en_len]
  | false =>
  simp only [RZ, reduceAdd, reduceIte, reduceEqDiff, reduceLT, reduceLeDiff, reduceCtorEq, Nat.reduceBEq, rV, UCl_1.d, en_len]
  refine callG (any_hand w.hands hdBad 102 (by omega) hdBad_run) rfl rfl rfl rfl ⟨rfl, ?_⟩
  have hy := hand_any w.hands
  cases b2 : w.hands.any hdBad with
  | true =>
    simp only [RZ, reduceAdd, reduceIte, reduceEqDiff, reduceLT, reduceLeDiff, reduceCtorEq, Nat.reduceBEq, rV, UCl_1.d, en_len]
    refine ES.mk false (no fun g => by rw [hy.2 g.hand] at b2; cases b2) ?_
    simp only [RZ, reduceAdd, reduceIte, reduceEqDiff, reduceLT, reduceLeDiff, reduceCtorEq, Nat.reduceBEq, rV, UCl_1.d, en_len]
  | false =>
  simp only [RZ, reduceAdd, reduceIte, reduceEqDiff, reduceLT, reduceLeDiff, reduceCtorEq, Nat.reduceBEq, rV, UCl_1.d, en_len]
  by_cases h15 : 0 ≤ w.reader ∧ w.reader ≤ 3
  rotate_left
  · refine callC (in_no h15) rfl rfl rfl rfl ?_
    simp only [RZ, reduceAdd, reduceIte, reduceEqDiff, reduceLT, reduceLeDiff, reduceCtorEq, Nat.reduceBEq, rV, UCl_1.d, en_len]
    refine ES.mk false (no fun g => h15 g.rd) ?_
    simp only [RZ, reduceAdd, reduceIte, reduceEqDiff, reduceLT, reduceLeDiff, reduceCtorEq, Nat.reduceBEq, rV, UCl_1.d, en_len]
  refine callC (in_yes h15) rfl rfl rfl rfl ?_
  simp only [RZ, reduceAdd, reduceIte, reduceEqDiff, reduceLT, reduceLeDiff, reduceCtorEq, Nat.reduceBEq, rV, UCl_1.d, en_len]
  by_cases h16 : 0 ≤ w.closer ∧ w.closer ≤ 1
  rotate_left
  · refine callC (in_no h16) rfl rfl rfl rfl ?_
    simp only [RZ, reduceAdd, reduceIte, reduceEqDiff, reduceLT, reduceLeDiff, reduceCtorEq, Nat.reduceBEq, rV, UCl_1.d, en_len]
    refine ES.mk false (no fun g => h16 g.cl) ?_
    simp only [RZ, reduceAdd, reduceIte, reduceEqDiff, reduceLT, reduceLeDiff, reduceCtorEq, Nat.reduceBEq, rV, UCl_1.d, en_len]
  refine callC (in_yes h16) rfl rfl rfl rfl ?_
  simp only [RZ, reduceAdd, reduceIte, reduceEqDiff, reduceLT, reduceLeDiff, reduceCtorEq, Nat.reduceBEq, rV, UCl_1.d, en_len]
  by_cases h17 : 0 ≤ w.keeper ∧ w.keeper ≤ 5
  rotate_left
  · refine callC (in_no h17) rfl rfl rfl rfl ?_
    simp only [RZ, reduceAdd, reduceIte, reduceEqDiff, reduceLT, reduceLeDiff, reduceCtorEq, Nat.reduceBEq, rV, UCl_1.d, en_len]
    refine ES.mk false (no fun g => h17 g.kp) ?_
    simp only [RZ, reduceAdd, reduceIte, reduceEqDiff, reduceLT, reduceLeDiff, reduceCtorEq, Nat.reduceBEq, rV, UCl_1.d, en_len]
  refine callC (in_yes h17) rfl rfl rfl rfl ?_
  simp only [RZ, reduceAdd, reduceIte, reduceEqDiff, reduceLT, reduceLeDiff, reduceCtorEq, Nat.reduceBEq, rV, UCl_1.d, en_len]
  by_cases h18 : 0 ≤ w.user ∧ w.user ≤ 1
  rotate_left
  · refine callC (in_no h18) rfl rfl rfl rfl ?_
    simp only [RZ, reduceAdd, reduceIte, reduceEqDiff, reduceLT, reduceLeDiff, reduceCtorEq, Nat.reduceBEq, rV, UCl_1.d, en_len]
    refine ES.mk false (no fun g => h18 g.us) ?_
    simp only [RZ, reduceAdd, reduceIte, reduceEqDiff, reduceLT, reduceLeDiff, reduceCtorEq, Nat.reduceBEq, rV, UCl_1.d, en_len]
  refine callC (in_yes h18) rfl rfl rfl rfl ?_
  simp only [RZ, reduceAdd, reduceIte, reduceEqDiff, reduceLT, reduceLeDiff, reduceCtorEq, Nat.reduceBEq, rV, UCl_1.d, en_len]
  refine ES.mk true (yes ⟨hst, h1, h2, h3, h4, h6', h7', h8', by omega, by omega, by omega, hx.1 b1, hy.1 b2, h15, h16, h17, h18⟩) ?_
  simp only [RZ, reduceAdd, reduceIte, reduceEqDiff, reduceLT, reduceLeDiff, reduceCtorEq, Nat.reduceBEq, rV, UCl_1.d, en_len]
end Go.V

/- It is proved that the law FnDiskDo returns true for every input and leaves its input as it was; no condition. -/
import Derived.Test.YtfemebnmlclibaaHP1
import Derived.Shelf.Slices.Delete
import Derived.Lib.RowBridge
set_option linter.unusedSimpArgs false
namespace Go.V
open Go.Proofs
/-- The place of a name, -1 if it is not there. -/
def ix (ns : List ByteArray) (nm : ByteArray) : Int := match ns.findIdx? fun x => decide (x = nm) with
  | some i => i
  | none => -1
theorem ix_at {ns : List ByteArray} {nm : ByteArray} {i : Nat} (hi : ns[i]? = some nm) (hb : ∀ (j : Nat), j < i → ns[j]? ≠ some nm) : ix ns nm = i := by
  have : (ns.findIdx? fun x => decide (x = nm)) = some i := by
    rw [List.findIdx?_eq_some_iff_getElem]
    have hlt := (List.getElem?_eq_some_iff.1 hi).1
    have he := (List.getElem?_eq_some_iff.1 hi).2
    refine ⟨hlt, by rw [he]; simp, fun j hj => ?_⟩
    have := hb j hj
    rw [List.getElem?_eq_getElem (by omega)] at this
    simpa using this
  simp only [ix, this]
theorem ix_no {ns : List ByteArray} {nm : ByteArray} (hb : ∀ (j : Nat), ns[j]? ≠ some nm) : ix ns nm = -1 := by
  have : (ns.findIdx? fun x => decide (x = nm)) = none := by
    rw [List.findIdx?_eq_none_iff]
    intro x hx
    obtain ⟨j, hj⟩ := List.mem_iff_getElem?.1 hx
    have := hb j
    rw [hj] at this
    simpa using this
  simp only [ix, this]
theorem ix_case (ns : List ByteArray) (nm : ByteArray) : (∃ i : Nat, ix ns nm = i ∧ ns[i]? = some nm ∧ ∀ (j : Nat), j < i → ns[j]? ≠ some nm) ∨ (ix ns nm = -1 ∧ nm ∉ ns) := by
  by_cases h : nm ∈ ns
  · obtain ⟨i, hi, hmin⟩ : ∃ i : Nat, ns[i]? = some nm ∧ ∀ (j : Nat), j < i → ns[j]? ≠ some nm := by
      obtain ⟨k, hk⟩ := List.mem_iff_getElem?.1 h
      induction k using Nat.strongRecOn with
      | _ k ih =>
        by_cases hm : ∃ j, j < k ∧ ns[j]? = some nm
        · obtain ⟨j, h1, h2⟩ := hm; exact ih j h1 h2
        · exact ⟨k, hk, fun j hj e => hm ⟨j, hj, e⟩⟩
    exact .inl ⟨i, ix_at hi hmin, hi, hmin⟩
  · exact .inr ⟨ix_no fun j hj => h (List.mem_of_getElem? hj), h⟩
/- slices.Index[[]string,string] -/
def r55_0 : List AOper := [ao 0 4 (.mv (.k (.i 0)))]
def r55_1 : List AOper := [ao 0 6 (.mv (.t 0)),
  ao 1 7 (.len (.t 6)),
  ao 2 8 (.mv (.k (.i 0)))]
def r55_2 : List AOper := [ao 0 9 (.bin .lss (.t 8) (.t 7))]
def c55_3 : ACode := .cond (.t 9) .skip (.exit 0)
def r55_4 : List AOper := [ao 0 10 (.mv (.t 8)),
  ao 1 5 (.mv (.t 10))]
def r55_5 : List AOper := [ao 0 11 (.mv (.t 1)),
  ao 1 12 (.mv (.t 0)),
  ao 2 13 (.mv (.t 5)),
  ao 3 14 (.ia 1 (.t 12) (.t 13)),
  ao 4 15 (.ld 1 false (.t 14)),
  ao 5 16 (.bin .eql (.t 11) (.t 15))]
def r55_6 : List AOper := [ao 0 17 (.mv (.t 5)),
  ao 1 4 (.mv (.t 17))]
def c55_7 : ACode := .seq (.reg r55_6) .ret
def c55_8 : ACode := .cond (.t 16) c55_7 .skip
def c55_9 : ACode := .seq (.reg r55_4) (.seq (.reg r55_5) c55_8)
def c55_10 : ACode := .block 1 c55_9
def r55_11 : List AOper := [ao 0 18 (.bin .add (.t 8) (.k (.i 1))),
  ao 1 8 (.mv (.t 18))]
def c55_12 : ACode := .seq (.reg r55_2) (.seq c55_3 (.seq c55_10 (.reg r55_11)))
def c55_13 : ACode := .loop c55_12
def c55_14 : ACode := .block 0 c55_13
def c55_15 : ACode := .seq (.reg r55_1) c55_14
def r55_16 : List AOper := [ao 0 4 (.mv (.k (.i (-1))))]
def c55 : ACode := .seq (.reg r55_0) (.seq c55_15 (.seq (.reg r55_16) .ret))
def s55 : List ARes := [.tmp 4]
theorem ok55 : okF Try.prog 55 19 c55 s55 := ⟨Try.f55, Try.func55, Try.ntmps55, by kernel_rfl, by kernel_rfl, by kernel_rfl⟩
def inv55 (ns : List ByteArray) (nm : ByteArray) (i : Nat) (σ : St) : Prop := (∀ (j : Nat), j < i → ns[j]? ≠ some nm) ∧ σ.t 0 = tL (en eS ns) ∧ σ.t 1 = tS nm ∧ σ.t 7 = .i ns.length ∧ σ.t 8 = .i i
def UPl_1 := Bx.mk <|
  aN (uA c55.eq_1) <| aN (uR r55_0.eq_1) <| aN (uA c55_15.eq_1) <| aN (uR r55_1.eq_1) <| aN (uA c55_14.eq_1) <| aN (uA c55_13.eq_1) <| aN (uR r55_16.eq_1) <| s55.eq_1
def UPl_8 := Bx.mk <|
  aN (uA c55_12.eq_1) <| aN (uR r55_2.eq_1) <| aN (uA c55_3.eq_1) <| aN (uA c55_10.eq_1) <| aN (uA c55_9.eq_1) <| aN (uR r55_4.eq_1) <| aN (uR r55_5.eq_1) <| aN (uA c55_8.eq_1) <| aN (uA c55_7.eq_1) <| aN (uR r55_6.eq_1) <| aN (uR r55_11.eq_1) <| aN (uA c55.eq_1) <| aN (uR r55_0.eq_1) <| aN (uA c55_15.eq_1) <| aN (uR r55_1.eq_1) <| aN (uA c55_14.eq_1) <| aN (uA c55_13.eq_1) <| aN (uR r55_16.eq_1) <| s55.eq_1
theorem index_ok (ns : List ByteArray) (nm : ByteArray) (hl : ns.length ≤ 9000000000000000000) : ACallsF Try.prog 55 [tL (en eS ns), tS nm] [] (.i (ix ns nm)) := by
  refine ACallsF.intro ok55 follows fun X c0 => ?_
  simp only [RUX, Nat.reduceAdd, reduceIte, Nat.reduceEqDiff, Nat.reduceLT, Nat.reduceLeDiff, reduceCtorEq, eq_self, FIX, forall_const, endE_n, endE_r, CHT, disj, Nat.reduceBEq, beq_self_eq_true, APT, APX, forall_eq, ALT, UPl_1.d]
  refine AW.upto ns.length (inv55 ns nm) ⟨fun j hj => absurd hj (Nat.not_lt_zero j), rfl, rfl, rfl, rfl⟩ fun i t H c hi h => ?_
  obtain ⟨g, e0, e1, e7, e8⟩ := h
  simp only [T.c, T.i, T.s, tL] at e0 e1 e7 e8
  by_cases hlt : i < ns.length
  · obtain ⟨x, hx⟩ : ∃ x, ns[i]? = some x := ⟨_, List.getElem?_eq_getElem hlt⟩
    have ex := en_at eS hx
    have k1 : (i : Int) < ns.length := by omega
    have gz : (0 : Int) ≤ i := by omega
    have gw : IntKind.i64.wrap ((i : Int) + 1) = ((i + 1 : Nat) : Int) := wrap64 (x := (i : Int) + 1) ⟨by omega, by omega⟩
    by_cases hn : nm = x
    · have hr : ix ns nm = i := ix_at (by rw [hx, hn]) g
      simp only [RUX, Nat.reduceAdd, reduceIte, Nat.reduceEqDiff, Nat.reduceLT, Nat.reduceLeDiff, reduceCtorEq, eq_self, FIX, forall_const, endE_n, endE_r, CHT, disj, Nat.reduceBEq, beq_self_eq_true, APT, APX, forall_eq, ALT, UPl_8.d, UPl_1.d, e0, e1, e7, e8, en_len, k1, gz, ex, eS, sStr, str_beq, hn, decide_true]
      rw [← hn, hr]
    · simp only [RUX, Nat.reduceAdd, reduceIte, Nat.reduceEqDiff, Nat.reduceLT, Nat.reduceLeDiff, reduceCtorEq, eq_self, FIX, forall_const, endE_n, endE_r, CHT, disj, Nat.reduceBEq, beq_self_eq_true, APT, APX, forall_eq, ALT, UPl_8.d, e0, e1, e7, e8, en_len, k1, gz, ex, eS, sStr, str_beq, hn, gw]
      exact ⟨hlt, fun j hj => (by rcases Nat.lt_succ_iff_lt_or_eq.1 hj with hj | rfl; exact g j hj; rw [hx]; exact fun e => hn (Option.some.inj e).symm), e0, e1, e7, rfl⟩
  · have k1 : ¬ (i : Int) < ns.length := by omega
    have hr : ix ns nm = -1 := ix_no fun j hj => g j (by have := (List.getElem?_eq_some_iff.1 hj).1; omega) hj
    simp only [RUX, Nat.reduceAdd, reduceIte, Nat.reduceEqDiff, Nat.reduceLT, Nat.reduceLeDiff, reduceCtorEq, eq_self, FIX, forall_const, endE_n, endE_r, CHT, disj, Nat.reduceBEq, beq_self_eq_true, APT, APX, forall_eq, ALT, UPl_8.d, UPl_1.d, e0, e1, e7, e8, en_len, k1, hr]
/- slices.Contains[[]string,string] -/
def r37_0 : List AOper := [ao 0 4 (.mv (.k (.b false)))]
def r37_1 : List AOper := [ao 0 5 (.mv (.t 0)),
  ao 1 6 (.mv (.t 1)),
  ao 2 7 (.call (.k (.c (.fn 55 []))) [(.t 5), (.t 6)]),
  ao 3 8 (.bin .geq (.t 7) (.k (.i 0))),
  ao 4 4 (.mv (.t 8))]
def c37 : ACode := .seq (.reg r37_0) (.seq (.reg r37_1) .ret)
def s37 : List ARes := [.tmp 4]
theorem ok37 : okF Try.prog 37 9 c37 s37 := ⟨Try.f37, Try.func37, Try.ntmps37, by kernel_rfl, by kernel_rfl, by kernel_rfl⟩
def UPl_2 := Bx.mk <|
  aN (uA c37.eq_1) <| aN (uR r37_0.eq_1) <| aN (uR r37_1.eq_1) <| s37.eq_1
theorem contains_ok (ns : List ByteArray) (nm : ByteArray) (hl : ns.length ≤ 9000000000000000000) : ACallsF Try.prog 37 [tL (en eS ns), tS nm] [] (.b (has ns nm)) := by
  refine ACallsF.intro ok37 follows fun X c0 => ?_
  simp only [RUX, Nat.reduceAdd, reduceIte, Nat.reduceEqDiff, Nat.reduceLT, Nat.reduceLeDiff, reduceCtorEq, eq_self, FIX, forall_const, endE_n, endE_r, CHT, disj, Nat.reduceBEq, beq_self_eq_true, APT, APX, forall_eq, ALT, UPl_2.d]
  refine callC (index_ok ns nm hl) rfl rfl rfl rfl ?_
  rcases ix_case ns nm with ⟨i, h1, h2, _⟩ | ⟨h1, h2⟩
  · have h3 : has ns nm = true := has_true.2 (List.mem_of_getElem? h2)
    have h4 : (0 : Int) ≤ i := by omega
    simp only [RUX, Nat.reduceAdd, reduceIte, Nat.reduceEqDiff, Nat.reduceLT, Nat.reduceLeDiff, reduceCtorEq, eq_self, FIX, forall_const, endE_n, endE_r, CHT, disj, Nat.reduceBEq, beq_self_eq_true, APT, APX, forall_eq, ALT, UPl_2.d, h1, h3, ge_iff_le, h4]
  · have h3 : has ns nm = false := has_false.2 h2
    have h4 : ¬ (0 : Int) ≤ -1 := by omega
    simp only [RUX, Nat.reduceAdd, reduceIte, Nat.reduceEqDiff, Nat.reduceLT, Nat.reduceLeDiff, reduceCtorEq, eq_self, FIX, forall_const, endE_n, endE_r, CHT, disj, Nat.reduceBEq, beq_self_eq_true, APT, APX, forall_eq, ALT, UPl_2.d, h1, h3, ge_iff_le, h4]
/-- A variable that a function looks at. -/
abbrev capH (n m u : Nat) (ty : TypeId) (xs : List V) : Hand := ⟨n, m, some (.var u ty (xs.map .v)), .var u ty (xs.map .v), true⟩
section
variable {P : Program} {t : Nat → T} {H : HMap} {c : Nat} {f : Opd} {args : List Opd} {fid : FuncId} {n m u : Nat} {ty : TypeId} {xs : List V} {r : T} {k : Nat} {d : Option Nat} {un : List Nat} {l : List AOper} {prev : List (Nat × List Nat × List Nat)} {K : St → Prop}
theorem cap_parts (n m u : Nat) (ty : TypeId) (xs : List V) (H : HMap) : renN [capH n m u ty xs] n = some (capH n m u ty xs) ∧ inN [capH n m u ty xs] n = some m ∧ renIB [capH n m u ty xs] (.var u ty (xs.map .v)) = some (.var u ty (xs.map .v)) ∧ ∀ nv, renOBs [capH n m u ty xs] nv [capH n m u ty xs] = some [(m, .var u ty (xs.map .v))] := by
  have hcl : (xs.map C.v).all closedC = true := by simp [closedC]
  have hN : renN [capH n m u ty xs] n = some (capH n m u ty xs) := by simp [renN]
  refine ⟨hN, by simp [inN, hN], by simp only [renIB, (closed_Cs _ H (xs.map .v) hcl).2.1, Option.map_some], fun nv => ?_⟩
  simp only [renOBs, renOB, verOf, Blk.ver, if_true]
  rw [(closed_Cs _ H (xs.map .v) hcl).2.2]
  rfl
/-- A call of a function that has a variable with it. -/
theorem callCap {a : T} (hC : ACallsF P fid [a, .c (.ptr n u 0)] [capH n m u ty xs] r) (hf : ev t f = .pt (.one (.fn fid [(m, u)]))) (hl : args.map (ev t) = [a]) (ha : closedA a = true) (hr : closedT r = true) (hH : H m = some (.var u ty (xs.map .v)))
    (hk : chk prev un ⟨r, [(m, .var u ty (xs.map .v))], [m], [m]⟩ = true ∧ DRun P l ((k, [m], [m]) :: prev) K ⟨updD t d r, upd H m (some (.var u ty (xs.map .v))), c⟩) :
    step P k d un (.call f args) l prev K t H c := by
  obtain ⟨p1, p2, p3, p4⟩ := cap_parts n m u ty xs H
  obtain ⟨x1, x2⟩ := closed_A [capH n m u ty xs] H a ha
  refine callW (caps := [(m, u)]) («as» := [a, .c (.ptr m u 0)]) (ws := []) (ns := []) (r' := r) (ob := [(m, .var u ty (xs.map .v))]) [capH n m u ty xs] hC hf ?_ ?_ ⟨?_, trivial⟩ (by simp) (by simp) (closed_T _ r hr _) (p4 _) ?_
  · have a1 : lendT H (T.c (.ptr n u 0)) (capT (m, u)) = some (T.c (.ptr m u 0), [], []) := rfl
    rw [hl]
    simp only [List.map_cons, List.map_nil, List.cons_append, List.nil_append, lendTs, x1, a1]
  · have a1 : renIT [capH n m u ty xs] (T.c (.ptr n u 0)) = some (T.c (.ptr m u 0)) := by simp only [T.c, renIT, renI, p2, Option.map_some]
    simp only [renITs, x2, a1]
  · show (match renIB [capH n m u ty xs] (.var u ty (xs.map .v)) with | some B => (updH H []) m = some B | none => False)
    rw [p3]; exact hH
  · have hq : quiet r [capH n m u ty xs] = false := by simp [quiet]
    simpa [hq, updH] using hk
/-- A call that is handed a function with a variable. -/
theorem callFn {a : T} {g : FuncId} (hC : ACallsF P fid [a, .c (.fn g [(n, u)])] [capH n m u ty xs] r) (hf : ev t f = .pt (.one (.fn fid []))) (hl : args.map (ev t) = [a, .c (.fn g [(m, u)])]) (ha : closedA a = true) (hr : closedT r = true) (hH : H m = some (.var u ty (xs.map .v)))
    (hk : chk prev un ⟨r, [(m, .var u ty (xs.map .v))], [m], [m]⟩ = true ∧ DRun P l ((k, [m], [m]) :: prev) K ⟨updD t d r, upd H m (some (.var u ty (xs.map .v))), c⟩) :
    step P k d un (.call f args) l prev K t H c := by
  obtain ⟨p1, p2, p3, p4⟩ := cap_parts n m u ty xs H
  obtain ⟨x1, x2⟩ := closed_A [capH n m u ty xs] H a ha
  refine callW (caps := []) («as» := [a, .c (.fn g [(m, u)])]) (ws := []) (ns := []) (r' := r) (ob := [(m, .var u ty (xs.map .v))]) [capH n m u ty xs] hC hf ?_ ?_ ⟨?_, trivial⟩ (by simp) (by simp) (closed_T _ r hr _) (p4 _) ?_
  · have a1 : lendT H (T.c (.fn g [(n, u)])) (T.c (.fn g [(m, u)])) = some (T.c (.fn g [(m, u)]), [], []) := rfl
    rw [hl]
    simp only [List.map_nil, List.append_nil, lendTs, x1, a1]
  · have a1 : renIT [capH n m u ty xs] (T.c (.fn g [(n, u)])) = some (T.c (.fn g [(m, u)])) := by simp only [T.c, renIT, renI, capsI, p2, Option.map_some]
    simp only [renITs, x2, a1]
  · show (match renIB [capH n m u ty xs] (.var u ty (xs.map .v)) with | some B => (updH H []) m = some B | none => False)
    rw [p3]; exact hH
  · have hq : quiet r [capH n m u ty xs] = false := by simp [quiet]
    simpa [hq, updH] using hk
end
/- (loop.example/teagle/impl.Disk).fileAt$1 -/
def r58_0 : List AOper := [ao 0 2 (.box 58 (.t 0)),
  ao 1 3 (.mv (.k (.b false)))]
def r58_1 : List AOper := [ao 0 4 (.fa 0 (.t 2)),
  ao 1 5 (.ld 1 false (.t 4)),
  ao 2 6 (.ld 1 false (.t 1)),
  ao 3 7 (.bin .eql (.t 5) (.t 6)),
  ao 4 3 (.mv (.t 7))]
def c58 : ACode := .seq (.reg r58_0) (.seq (.reg r58_1) .ret)
def s58 : List ARes := [.tmp 3]
theorem ok58 : okF Try.prog 58 8 c58 s58 := ⟨Try.f58, Try.func58, Try.ntmps58, by kernel_rfl, by kernel_rfl, by kernel_rfl⟩
def UPl_3 := Bx.mk <|
  aN (uA c58.eq_1) <| aN (uR r58_0.eq_1) <| aN (uR r58_1.eq_1) <| s58.eq_1
theorem nameIs_ok (f : DF) (nm : ByteArray) (n m u : Nat) (hn : n ≠ 2) : ACallsF Try.prog 58 [tDF f, .c (.ptr n u 0)] [capH n m u 9 [.s (.string nm)]] (.b (decide (f.name = nm))) := by
  refine ACallsF.intro ok58 follows fun X c0 => ?_
  simp only [RUX, Nat.reduceAdd, reduceIte, Nat.reduceEqDiff, Nat.reduceLT, Nat.reduceLeDiff, reduceCtorEq, eq_self, FIX, forall_const, endE_n, endE_r, CHT, disj, Nat.reduceBEq, beq_self_eq_true, APT, APX, forall_eq, ALT, UPl_3.d, hn, hn.symm, ne_eq, sStr, str_beq]
/- slices.IndexFunc[[]loop.example/teagle/impl.DiskFile,loop.example/teagle/impl.DiskFile] -/
def r57_0 : List AOper := [ao 0 4 (.mv (.k (.i 0)))]
def r57_1 : List AOper := [ao 0 6 (.mv (.t 0)),
  ao 1 7 (.len (.t 6)),
  ao 2 8 (.mv (.k (.i 0)))]
def r57_2 : List AOper := [ao 0 9 (.bin .lss (.t 8) (.t 7))]
def c57_3 : ACode := .cond (.t 9) .skip (.exit 0)
def r57_4 : List AOper := [ao 0 10 (.mv (.t 8)),
  ao 1 5 (.mv (.t 10))]
def r57_5 : List AOper := [ao 0 11 (.mv (.t 1)),
  ao 1 12 (.mv (.t 0)),
  ao 2 13 (.mv (.t 5)),
  ao 3 14 (.ia 3 (.t 12) (.t 13)),
  ao 4 15 (.ld 3 true (.t 14)),
  ao 5 16 (.call (.t 11) [(.t 15)])]
def r57_6 : List AOper := [ao 0 17 (.mv (.t 5)),
  ao 1 4 (.mv (.t 17))]
def c57_7 : ACode := .seq (.reg r57_6) .ret
def c57_8 : ACode := .cond (.t 16) c57_7 .skip
def c57_9 : ACode := .seq (.reg r57_4) (.seq (.reg r57_5) c57_8)
def c57_10 : ACode := .block 1 c57_9
def r57_11 : List AOper := [ao 0 18 (.bin .add (.t 8) (.k (.i 1))),
  ao 1 8 (.mv (.t 18))]
def c57_12 : ACode := .seq (.reg r57_2) (.seq c57_3 (.seq c57_10 (.reg r57_11)))
def c57_13 : ACode := .loop c57_12
def c57_14 : ACode := .block 0 c57_13
def c57_15 : ACode := .seq (.reg r57_1) c57_14
def r57_16 : List AOper := [ao 0 4 (.mv (.k (.i (-1))))]
def c57 : ACode := .seq (.reg r57_0) (.seq c57_15 (.seq (.reg r57_16) .ret))
def s57 : List ARes := [.tmp 4]
theorem ok57 : okF Try.prog 57 19 c57 s57 := ⟨Try.f57, Try.func57, Try.ntmps57, by kernel_rfl, by kernel_rfl, by kernel_rfl⟩
def inv57 (fs : List DF) (nm : ByteArray) (u : Nat) (i : Nat) (σ : St) : Prop := (∀ (j : Nat), j < i → ∀ (g : DF), fs[j]? = some g → g.name ≠ nm) ∧ σ.t 0 = tL (en eF fs) ∧ σ.t 1 = .c (.fn 58 [(3, u)]) ∧ σ.t 7 = .i fs.length ∧ σ.t 8 = .i i ∧ σ.H 3 = some (.var u 9 [.v (.s (.string nm))])
def UPl_4 := Bx.mk <|
  aN (uA c57.eq_1) <| aN (uR r57_0.eq_1) <| aN (uA c57_15.eq_1) <| aN (uR r57_1.eq_1) <| aN (uA c57_14.eq_1) <| aN (uA c57_13.eq_1) <| aN (uR r57_16.eq_1) <| s57.eq_1
def UPl_9 := Bx.mk <|
  aN (uA c57_12.eq_1) <| aN (uR r57_2.eq_1) <| aN (uA c57_3.eq_1) <| aN (uA c57_10.eq_1) <| aN (uA c57_9.eq_1) <| aN (uR r57_4.eq_1) <| aN (uR r57_5.eq_1) <| aN (uA c57_8.eq_1) <| aN (uA c57_7.eq_1) <| aN (uR r57_6.eq_1) <| aN (uR r57_11.eq_1) <| aN (uA c57.eq_1) <| aN (uR r57_0.eq_1) <| aN (uA c57_15.eq_1) <| aN (uR r57_1.eq_1) <| aN (uA c57_14.eq_1) <| aN (uA c57_13.eq_1) <| aN (uR r57_16.eq_1) <| s57.eq_1
theorem indexF_ok (fs : List DF) (nm : ByteArray) (hl : fs.length ≤ 9000000000000000000) (m u : Nat) : ACallsF Try.prog 57 [tL (en eF fs), .c (.fn 58 [(3, u)])] [capH 3 m u 9 [.s (.string nm)]] (.i (fnd fs nm)) := by
  refine ACallsF.intro ok57 follows fun X c0 => ?_
  simp only [RUX, Nat.reduceAdd, reduceIte, Nat.reduceEqDiff, Nat.reduceLT, Nat.reduceLeDiff, reduceCtorEq, eq_self, FIX, forall_const, endE_n, endE_r, CHT, disj, Nat.reduceBEq, beq_self_eq_true, APT, APX, forall_eq, ALT, UPl_4.d]
  refine AW.upto fs.length (inv57 fs nm u) ⟨fun j hj => absurd hj (Nat.not_lt_zero j), rfl, rfl, rfl, rfl, rfl⟩ fun i t H c hi h => ?_
  obtain ⟨g, e0, e1, e7, e8, eH⟩ := h
  simp only [T.c, T.i, T.s, tL] at e0 e1 e7 e8 eH
  by_cases hlt : i < fs.length
  · obtain ⟨x, hx⟩ : ∃ x, fs[i]? = some x := ⟨_, List.getElem?_eq_getElem hlt⟩
    have ex := en_at eF hx
    have k1 : (i : Int) < fs.length := by omega
    have gz : (0 : Int) ≤ i := by omega
    have gw : IntKind.i64.wrap ((i : Int) + 1) = ((i + 1 : Nat) : Int) := wrap64 (x := (i : Int) + 1) ⟨by omega, by omega⟩
    simp only [RUX, Nat.reduceAdd, reduceIte, Nat.reduceEqDiff, Nat.reduceLT, Nat.reduceLeDiff, reduceCtorEq, eq_self, FIX, forall_const, endE_n, endE_r, CHT, disj, Nat.reduceBEq, beq_self_eq_true, APT, APX, forall_eq, ALT, UPl_9.d, e0, e1, e7, e8, en_len, k1, gz, ex, eF]
    refine callCap (nameIs_ok x nm 3 3 u (by decide)) rfl rfl (by simp [closedA, closedP, closedC]) rfl eH ⟨?_, ?_⟩
    · simp only [RUX, Nat.reduceAdd, reduceIte, Nat.reduceEqDiff, Nat.reduceLT, Nat.reduceLeDiff, reduceCtorEq, eq_self, FIX, forall_const, endE_n, endE_r, CHT, disj, Nat.reduceBEq, beq_self_eq_true, APT, APX, forall_eq, ALT, UPl_9.d]
    by_cases hn : x.name = nm
    · have hr : fnd fs nm = i := fnd_at hx hn g
      simp only [RUX, Nat.reduceAdd, reduceIte, Nat.reduceEqDiff, Nat.reduceLT, Nat.reduceLeDiff, reduceCtorEq, eq_self, FIX, forall_const, endE_n, endE_r, CHT, disj, Nat.reduceBEq, beq_self_eq_true, APT, APX, forall_eq, ALT, UPl_9.d, UPl_4.d, hn, hr, decide_true, verC_map]
    · simp only [RUX, Nat.reduceAdd, reduceIte, Nat.reduceEqDiff, Nat.reduceLT, Nat.reduceLeDiff, reduceCtorEq, eq_self, FIX, forall_const, endE_n, endE_r, CHT, disj, Nat.reduceBEq, beq_self_eq_true, APT, APX, forall_eq, ALT, UPl_9.d, e8, hn, gw]
      exact ⟨hlt, fun j hj g' hg => (by rcases Nat.lt_succ_iff_lt_or_eq.1 hj with hj | rfl; exact g j hj g' hg; rw [hx] at hg; cases hg; exact hn), e0, e1, e7, rfl, rfl⟩
  · have k1 : ¬ (i : Int) < fs.length := by omega
    have hr : fnd fs nm = -1 := fnd_no fun j g' hg => g j (by have := (List.getElem?_eq_some_iff.1 hg).1; omega) g' hg
    simp only [RUX, Nat.reduceAdd, reduceIte, Nat.reduceEqDiff, Nat.reduceLT, Nat.reduceLeDiff, reduceCtorEq, eq_self, FIX, forall_const, endE_n, endE_r, CHT, disj, Nat.reduceBEq, beq_self_eq_true, APT, APX, forall_eq, ALT, UPl_9.d, UPl_4.d, e0, e1, e7, e8, eH, en_len, k1, hr]
/- (loop.example/teagle/impl.Disk).fileAt -/
def r40_0 : List AOper := [ao 0 2 (.box 27 (.t 0)),
  ao 1 3 (.box 9 (.t 1)),
  ao 2 4 (.mv (.k (.i 0)))]
def r40_1 : List AOper := [ao 0 5 (.fa 0 (.t 2)),
  ao 1 6 (.ld 1 false (.t 5)),
  ao 2 7 (.mkf 58 [(.t 3)]),
  ao 3 8 (.call (.k (.c (.fn 57 []))) [(.t 6), (.t 7)]),
  ao 4 4 (.mv (.t 8))]
def c40 : ACode := .seq (.reg r40_0) (.seq (.reg r40_1) .ret)
def s40 : List ARes := [.tmp 4]
theorem ok40 : okF Try.prog 40 9 c40 s40 := ⟨Try.f40, Try.func40, Try.ntmps40, by kernel_rfl, by kernel_rfl, by kernel_rfl⟩
def UPl_5 := Bx.mk <|
  aN (uA c40.eq_1) <| aN (uR r40_0.eq_1) <| aN (uR r40_1.eq_1) <| s40.eq_1
theorem fileAt_ok (d : Dk) (nm : ByteArray) (hl : d.files.length ≤ 9000000000000000000) : ACallsF Try.prog 40 [tDk d, tS nm] [] (.i (fnd d.files nm)) := by
  refine ACallsF.intro ok40 follows fun X c0 => ?_
  simp only [RUX, Nat.reduceAdd, reduceIte, Nat.reduceEqDiff, Nat.reduceLT, Nat.reduceLeDiff, reduceCtorEq, eq_self, FIX, forall_const, endE_n, endE_r, CHT, disj, Nat.reduceBEq, beq_self_eq_true, APT, APX, forall_eq, ALT, UPl_5.d, capsOf]
  refine callFn (m := 3) (xs := [.s (.string nm)]) (indexF_ok d.files nm hl 3 (c0 + 1)) rfl rfl rfl rfl rfl ⟨?_, ?_⟩
  · simp only [RUX, Nat.reduceAdd, reduceIte, Nat.reduceEqDiff, Nat.reduceLT, Nat.reduceLeDiff, reduceCtorEq, eq_self, FIX, forall_const, endE_n, endE_r, CHT, disj, Nat.reduceBEq, beq_self_eq_true, APT, APX, forall_eq, ALT, UPl_5.d]
  simp only [RUX, Nat.reduceAdd, reduceIte, Nat.reduceEqDiff, Nat.reduceLT, Nat.reduceLeDiff, reduceCtorEq, eq_self, FIX, forall_const, endE_n, endE_r, CHT, disj, Nat.reduceBEq, beq_self_eq_true, APT, APX, forall_eq, ALT, UPl_5.d]
/- loop.example/teagle/impl.DiskOk$1 -/
def r43_0 : List AOper := [ao 0 2 (.box 58 (.t 0)),
  ao 1 4 (.mv (.k (.b false)))]
def r43_1 : List AOper := [ao 0 5 (.fa 0 (.t 2)),
  ao 1 6 (.ld 1 false (.t 5)),
  ao 2 7 (.mv (.t 1)),
  ao 3 8 (.bin .eql (.t 6) (.t 7)),
  ao 4 4 (.mv (.t 8))]
def c43 : ACode := .seq (.reg r43_0) (.seq (.reg r43_1) .ret)
def s43 : List ARes := [.tmp 4]
theorem ok43 : okF Try.prog 43 9 c43 s43 := ⟨Try.f43, Try.func43, Try.ntmps43, by kernel_rfl, by kernel_rfl, by kernel_rfl⟩
def UPl_6 := Bx.mk <|
  aN (uA c43.eq_1) <| aN (uR r43_0.eq_1) <| aN (uR r43_1.eq_1) <| s43.eq_1
theorem sameName_ok (f : DF) (nm : ByteArray) : ACallsF Try.prog 43 [tDF f, tS nm] [] (.b (decide (f.name = nm))) := by
  refine ACallsF.intro ok43 follows fun X c0 => ?_
  simp only [RUX, Nat.reduceAdd, reduceIte, Nat.reduceEqDiff, Nat.reduceLT, Nat.reduceLeDiff, reduceCtorEq, eq_self, FIX, forall_const, endE_n, endE_r, CHT, disj, Nat.reduceBEq, beq_self_eq_true, APT, APX, forall_eq, ALT, UPl_6.d, sStr, str_beq]
/- slices.EqualFunc[[]loop.example/teagle/impl.DiskFile,[]string,loop.example/teagle/impl.DiskFile,string] -/
def r42_0 : List AOper := [ao 0 6 (.mv (.k (.b false)))]
def r42_1 : List AOper := [ao 0 10 (.mv (.t 0)),
  ao 1 11 (.len (.t 10)),
  ao 2 12 (.mv (.t 1)),
  ao 3 13 (.len (.t 12)),
  ao 4 14 (.bin .neq (.t 11) (.t 13))]
def r42_2 : List AOper := [ao 0 6 (.mv (.k (.b false)))]
def c42_3 : ACode := .seq (.reg r42_2) .ret
def c42_4 : ACode := .cond (.t 14) c42_3 .skip
def c42_5 : ACode := .seq (.reg r42_1) c42_4
def r42_6 : List AOper := [ao 0 15 (.mv (.t 0)),
  ao 1 16 (.len (.t 15)),
  ao 2 17 (.mv (.k (.i 0)))]
def r42_7 : List AOper := [ao 0 18 (.bin .lss (.t 17) (.t 16))]
def c42_8 : ACode := .cond (.t 18) .skip (.exit 0)
def r42_9 : List AOper := [ao 0 19 (.mv (.t 17)),
  ao 1 20 (.ia 3 (.t 15) (.t 17)),
  ao 2 21 (.ld 3 true (.t 20)),
  ao 3 8 (.alloc 58 [(.v (.s (.string ⟨#[]⟩))), (.v (.s (.string ⟨#[]⟩))), (.v (.s (.int .i64 0)))]),
  ao 4 7 (.mv (.t 19)),
  an 5 (.st 3 (.t 8) (.t 21))]
def r42_10 : List AOper := [ao 0 22 (.mv (.t 1)),
  ao 1 23 (.mv (.t 7)),
  ao 2 24 (.ia 1 (.t 22) (.t 23)),
  ao 3 25 (.ld 1 false (.t 24)),
  ao 4 9 (.mv (.t 25))]
def r42_11 : List AOper := [ao 0 26 (.mv (.t 2)),
  ao 1 27 (.ld 3 true (.t 8)),
  ao 2 28 (.mv (.t 9)),
  ao 3 29 (.call (.t 26) [(.t 27), (.t 28)]),
  ao 4 30 (.un .not (.t 29))]
def r42_12 : List AOper := [ao 0 6 (.mv (.k (.b false)))]
def c42_13 : ACode := .seq (.reg r42_12) .ret
def c42_14 : ACode := .cond (.t 30) c42_13 .skip
def c42_15 : ACode := .seq (.reg r42_9) (.seq (.reg r42_10) (.seq (.reg r42_11) c42_14))
def c42_16 : ACode := .block 1 c42_15
def r42_17 : List AOper := [ao 0 31 (.bin .add (.t 17) (.k (.i 1))),
  ao 1 17 (.mv (.t 31))]
def c42_18 : ACode := .seq (.reg r42_7) (.seq c42_8 (.seq c42_16 (.reg r42_17)))
def c42_19 : ACode := .loop c42_18
def c42_20 : ACode := .block 0 c42_19
def c42_21 : ACode := .seq (.reg r42_6) c42_20
def r42_22 : List AOper := [ao 0 6 (.mv (.k (.b true)))]
def c42 : ACode := .seq (.reg r42_0) (.seq c42_5 (.seq c42_21 (.seq (.reg r42_22) .ret)))
def s42 : List ARes := [.tmp 6]
theorem ok42 : okF Try.prog 42 32 c42 s42 := ⟨Try.f42, Try.func42, Try.ntmps42, by kernel_rfl, by kernel_rfl, by kernel_rfl⟩
def inv42 (fs : List DF) (ns : List ByteArray) (i : Nat) (σ : St) : Prop := (∀ (j : Nat) (g : DF), j < i → fs[j]? = some g → ns[j]? = some g.name) ∧ σ.t 1 = tL (en eS ns) ∧ σ.t 2 = .c (.fn 43 []) ∧ σ.t 15 = tL (en eF fs) ∧ σ.t 16 = .i fs.length ∧ σ.t 17 = .i i
def UPl_7 := Bx.mk <|
  aN (uA c42.eq_1) <| aN (uR r42_0.eq_1) <| aN (uA c42_5.eq_1) <| aN (uR r42_1.eq_1) <| aN (uA c42_4.eq_1) <| aN (uA c42_3.eq_1) <| aN (uR r42_2.eq_1) <| aN (uA c42_21.eq_1) <| aN (uR r42_6.eq_1) <| aN (uA c42_20.eq_1) <| aN (uA c42_19.eq_1) <| aN (uR r42_22.eq_1) <| s42.eq_1
def UPl_10 := Bx.mk <|
  aN (uA c42_18.eq_1) <| aN (uR r42_7.eq_1) <| aN (uA c42_8.eq_1) <| aN (uA c42_16.eq_1) <| aN (uA c42_15.eq_1) <| aN (uR r42_9.eq_1) <| aN (uR r42_10.eq_1) <| aN (uR r42_11.eq_1) <| aN (uA c42_14.eq_1) <| aN (uA c42_13.eq_1) <| aN (uR r42_12.eq_1) <| aN (uR r42_17.eq_1) <| aN (uA c42.eq_1) <| aN (uR r42_0.eq_1) <| aN (uA c42_5.eq_1) <| aN (uR r42_1.eq_1) <| aN (uA c42_4.eq_1) <| aN (uA c42_3.eq_1) <| aN (uR r42_2.eq_1) <| aN (uA c42_21.eq_1) <| aN (uR r42_6.eq_1) <| aN (uA c42_20.eq_1) <| aN (uA c42_19.eq_1) <| aN (uR r42_22.eq_1) <| s42.eq_1
theorem equalF_ok (fs : List DF) (ns : List ByteArray) (hl : fs.length ≤ 9000000000000000000) : ∃ b : Bool, (b = true ↔ (ns.length = fs.length ∧ ∀ (i : Nat) (f : DF), fs[i]? = some f → ns[i]? = some f.name)) ∧ ACallsF Try.prog 42 [tL (en eF fs), tL (en eS ns), .c (.fn 43 [])] [] (.b b) := by
  obtain ⟨b, hb⟩ : ∃ b : Bool, b = true ↔ (ns.length = fs.length ∧ ∀ (i : Nat) (f : DF), fs[i]? = some f → ns[i]? = some f.name) := by
    by_cases h : ns.length = fs.length ∧ ∀ (i : Nat) (f : DF), fs[i]? = some f → ns[i]? = some f.name
    · exact ⟨true, fun _ => h, fun _ => rfl⟩
    · exact ⟨false, fun e => (by cases e), fun e => absurd e h⟩
  refine ⟨b, hb, ACallsF.intro ok42 follows fun X c0 => ?_⟩
  have no : ¬ (ns.length = fs.length ∧ ∀ (i : Nat) (f : DF), fs[i]? = some f → ns[i]? = some f.name) → b = false := fun h => by cases hq : b with | false => rfl | true => exact absurd (hb.1 hq) h
  by_cases hl2 : ns.length = fs.length
  rotate_left
  · have hl' : ((fs.length : Int) != (ns.length : Int)) = true := by simp; omega
    have hbf := no fun h => hl2 h.1
    simp only [RUX, Nat.reduceAdd, reduceIte, Nat.reduceEqDiff, Nat.reduceLT, Nat.reduceLeDiff, reduceCtorEq, eq_self, FIX, forall_const, endE_n, endE_r, CHT, disj, Nat.reduceBEq, beq_self_eq_true, APT, APX, forall_eq, ALT, UPl_7.d, hl', hbf]
  have hl' : ((fs.length : Int) != (ns.length : Int)) = false := by simp; omega
  simp only [RUX, Nat.reduceAdd, reduceIte, Nat.reduceEqDiff, Nat.reduceLT, Nat.reduceLeDiff, reduceCtorEq, eq_self, FIX, forall_const, endE_n, endE_r, CHT, disj, Nat.reduceBEq, beq_self_eq_true, APT, APX, forall_eq, ALT, UPl_7.d, hl']
  refine AW.upto fs.length (inv42 fs ns) ⟨fun j f hj => absurd hj (Nat.not_lt_zero j), rfl, rfl, rfl, rfl, rfl⟩ fun i t H c hi h => ?_
  obtain ⟨g, e1, e2, e15, e16, e17⟩ := h
  simp only [T.c, T.i, T.s, tL] at e1 e2 e15 e16 e17
  by_cases hlt : i < fs.length
  · obtain ⟨x, hx⟩ : ∃ x, fs[i]? = some x := ⟨_, List.getElem?_eq_getElem hlt⟩
    obtain ⟨y, hy⟩ : ∃ y, ns[i]? = some y := ⟨_, List.getElem?_eq_getElem (by omega)⟩
    have ex := en_at eF hx
    have ey := en_at eS hy
    have k1 : (i : Int) < fs.length := by omega
    have gz : (0 : Int) ≤ i := by omega
    have gw : IntKind.i64.wrap ((i : Int) + 1) = ((i + 1 : Nat) : Int) := wrap64 (x := (i : Int) + 1) ⟨by omega, by omega⟩
    simp only [RUX, Nat.reduceAdd, reduceIte, Nat.reduceEqDiff, Nat.reduceLT, Nat.reduceLeDiff, reduceCtorEq, eq_self, FIX, forall_const, endE_n, endE_r, CHT, disj, Nat.reduceBEq, beq_self_eq_true, APT, APX, forall_eq, ALT, UPl_10.d, e1, e2, e15, e16, e17, en_len, k1, gz, ex, eF, ey, eS]
    refine callC (sameName_ok x y) rfl rfl (by simp [closedA, closedP, closedC]) rfl ?_
    by_cases hn : x.name = y
    · simp only [RUX, Nat.reduceAdd, reduceIte, Nat.reduceEqDiff, Nat.reduceLT, Nat.reduceLeDiff, reduceCtorEq, eq_self, FIX, forall_const, endE_n, endE_r, CHT, disj, Nat.reduceBEq, beq_self_eq_true, APT, APX, forall_eq, ALT, UPl_10.d, e17, hn, gw, decide_true]
      exact ⟨hlt, fun j g' hj hg => (by rcases Nat.lt_succ_iff_lt_or_eq.1 hj with hj | rfl; exact g j g' hj hg; rw [hx] at hg; cases hg; rw [hy, hn]), e1, e2, e15, e16, rfl⟩
    · have hbf := no fun h => hn (by have := h.2 i x hx; rw [hy] at this; exact (Option.some.inj this).symm)
      simp only [RUX, Nat.reduceAdd, reduceIte, Nat.reduceEqDiff, Nat.reduceLT, Nat.reduceLeDiff, reduceCtorEq, eq_self, FIX, forall_const, endE_n, endE_r, CHT, disj, Nat.reduceBEq, beq_self_eq_true, APT, APX, forall_eq, ALT, UPl_10.d, UPl_7.d, hn, hbf]
  · have k1 : ¬ (i : Int) < fs.length := by omega
    have hbt : b = true := hb.2 ⟨hl2, fun j f hf => g j f (by have := (List.getElem?_eq_some_iff.1 hf).1; omega) hf⟩
    simp only [RUX, Nat.reduceAdd, reduceIte, Nat.reduceEqDiff, Nat.reduceLT, Nat.reduceLeDiff, reduceCtorEq, eq_self, FIX, forall_const, endE_n, endE_r, CHT, disj, Nat.reduceBEq, beq_self_eq_true, APT, APX, forall_eq, ALT, UPl_10.d, UPl_7.d, e16, e17, k1, hbt]
end Go.V
set_option linter.unusedSimpArgs false
namespace Go.Proofs
open Go.Shelf
def Try.laysDelete_ren : Go.Shelf.Ren := ⟨fun | 24 => 56 | n => n, fun | 24 => 24 | 9 => 9 | 3 => 3 | 4 => 4 | 0 => 0 | n => n, fun | n => n⟩
theorem Try.laysDelete : Go.Proofs.Lays2.n24 Try.prog Try.laysDelete_ren := {
  mixed := by kernel_rfl
  f24 := Try.func56.trans (congrArg some (by kernel_rfl))
  t0 := Try.underlying0
  a0 := Try.isAgg0
  z0 := Try.sizeOf0
  v0 := Try.zeroValue0
  t3 := Try.underlying3
  a3 := Try.isAgg3
  z3 := Try.sizeOf3
  v3 := Try.zeroValue3
  t4 := Try.underlying4
  a4 := Try.isAgg4
  z4 := Try.sizeOf4
  v4 := Try.zeroValue4
  t9 := Try.underlying9
  a9 := Try.isAgg9
  z9 := Try.sizeOf9
  v9 := Try.zeroValue9
  t24 := Try.underlying24
  a24 := Try.isAgg24
  z24 := Try.sizeOf24
  v24 := Try.zeroValue24
  i9 := by kernel_rfl }
end Go.Proofs
namespace Go.V
open Go.Proofs Go.Sort
def ofL (l : List UInt8) : ByteArray := ⟨l.toArray⟩
theorem rowL_ofL (zs : List (List UInt8)) : rowL (zs.map ofL) = zs := by
  simp [rowL, ofL, Function.comp_def]
theorem ofL_data (b : ByteArray) : ofL b.data.toList = b := by simp [ofL]
theorem ofL_rowL (ss : List ByteArray) : (rowL ss).map ofL = ss := by
  simp [rowL, ofL_data, Function.comp_def]
theorem isFn56 : isFn Try.prog 56 = true := by kernel_rfl
theorem rowS_en (ss : List ByteArray) : rowS ss = en eS ss := rfl
/-- Names without the one at a place. -/
def del (ns : List ByteArray) (i : Nat) : List ByteArray := ns.take i ++ ns.drop (i + 1)
theorem row_world2 {w : World} {g q : Nat} {ty : TypeId} {cur : Array Value} {ss' : List ByteArray} (hc : w.heap[g]? = some (.cells cur ty (0, 0))) (hl : ss'.length ≤ cur.size) :
    ∃ cur', (putRow encStr (Go.Sort.ahead w q) g 0 (rowL ss').toArray).heap[g]? = some (.cells cur' ty (0, 0)) ∧ cur'.size = cur.size ∧ (∀ (j : Nat) s, ss'[j]? = some s → cur'[j]? = some (.string s)) ∧ (∀ j : Nat, ss'.length ≤ j → cur'[j]? = cur[j]?) ∧
      w.heap.size ≤ (putRow encStr (Go.Sort.ahead w q) g 0 (rowL ss').toArray).heap.size ∧
      ∀ b, b < w.heap.size → b ≠ g → (putRow encStr (Go.Sort.ahead w q) g 0 (rowL ss').toArray).heap[b]? = w.heap[b]? := by
  refine ⟨putCells encStr 0 (rowL ss').toArray cur, ?_, by simp [putCells], fun j s hs => ?_, fun j hj => ?_, ?_, fun b hb hne => ?_⟩
  · simp only [putRow, mapBlock, Go.Sort.ahead]
    rw [Array.getElem?_modify]
    simp [hc, onCells]
  · have hj : j < ss'.length := (List.getElem?_eq_some_iff.1 hs).1
    have hjc : j < cur.size := by omega
    simp only [putCells, Array.getElem?_mapIdx, Array.getElem?_eq_getElem hjc, Option.map_some]
    have e : (rowL ss').toArray[j]! = s.data.toList := by
      rw [getElem!_pos _ j (by simpa [rowL] using hj)]
      have := (List.getElem?_eq_some_iff.1 hs).2
      simp [rowL, this]
    have c1 : 0 ≤ j ∧ j < 0 + (rowL ss').toArray.size := ⟨Nat.zero_le _, by simpa [rowL] using hj⟩
    rw [if_pos c1, Nat.sub_zero, e]
  · simp only [putCells, Array.getElem?_mapIdx]
    have c1 : ¬ (0 ≤ j ∧ j < 0 + (rowL ss').toArray.size) := by simp [rowL]; omega
    cases hcj : cur[j]? with
    | none => rfl
    | some x => simp only [Option.map_some, if_neg c1]
  · simp [putRow, mapBlock, Go.Sort.ahead]
  · simp only [putRow, mapBlock, Go.Sort.ahead]
    rw [Array.getElem?_modify, if_neg (fun e => hne e.symm)]
theorem delete_ok (ss rest : List ByteArray) (i : Nat) (hi : i < ss.length) (n m v : Nat) :
    ACallsF Try.prog 56 [.c (.own n v ss.length), .i i, .i ((i + 1 : Nat) : Int)] [arH n m v 1 9 (en eS (ss ++ rest)) (en eS (del ss i ++ ([zS] ++ rest)))] (.c (.own n v (del ss i).length)) := by
  have hdl : (del ss i).length = ss.length - 1 := by simp [del]; omega
  have hl0 : (del ss i ++ [zS]).length = ss.length := by rw [List.length_append, hdl, List.length_singleton]; omega
  have hl : (del ss i ++ ([zS] ++ rest)).length = (ss ++ rest).length := by rw [← List.append_assoc, List.length_append, hl0, List.length_append]
  show ACallsF Try.prog 56 [.c (.own n v ss.length), .i i, .i ((i + 1 : Nat) : Int)] (rowH n m v 9 (ss ++ rest) (del ss i ++ ([zS] ++ rest))) (.c (.own n v (del ss i).length))
  refine ⟨isFn56, fun w imm L c vs hH hT => ?_⟩
  obtain ⟨x, a, b, rfl⟩ : ∃ x a b, vs = [x, a, b] := by
    have := hT.1
    match vs, this with
    | [x, a, b], _ => exact ⟨x, a, b, rfl⟩
  have ha := rep_s (y := .int .i64 i) (hT.2 1 a (.i i) rfl rfl)
  have hb := rep_s (y := .int .i64 ((i + 1 : Nat) : Int)) (hT.2 2 b (.i ((i + 1 : Nat) : Int)) rfl rfl)
  subst ha hb
  have hx : TRep w imm (hinOf (rowH n m v 9 (ss ++ rest) (del ss i ++ ([zS] ++ rest)))) L (· < c) x (.c (.own n v ss.length)) := hT.2 0 x _ rfl rfl
  have hin : hinOf (rowH n m v 9 (ss ++ rest) (del ss i ++ ([zS] ++ rest))) n = some (.arr v true 1 9 (rowS (ss ++ rest))) := by rw [rowH_in]; simp
  have hx' : CRep w imm (hinOf (rowH n m v 9 (ss ++ rest) (del ss i ++ ([zS] ++ rest)))) L (· < c) x (.own n v ss.length) := hx
  obtain ⟨hu, -, h3⟩ := hx'
  obtain ⟨-, h4⟩ := h3 _ _ _ _ hin
  rcases h4 with ⟨a, h5, h6⟩ | ⟨g, cap, cur, h5, h6, h7, h8, h9, h10⟩
  · omega
  · have hgsz : g < w.heap.size := by
      rcases Nat.lt_or_ge g w.heap.size with h | h
      · exact h
      · rw [Array.getElem?_eq_none h] at h7; cases h7
    obtain ⟨-, -, -, hb⟩ := hH.blk n _ hin
    rcases hb with ⟨h, -⟩ | ⟨g', cur2, i1, i2, -, i4, -⟩
    · rw [h] at h5; cases h5
    rw [h5] at i1; cases i1
    rw [h7] at i2; cases i2
    have hcur : ∀ (j : Nat) s, (ss ++ rest)[j]? = some s → cur[j]? = some (.string s) := fun j s hs => VsRep_row (ss := ss ++ rest) i4 hs
    have hHolds : Holds encStr w g 0 (rowL ss).toArray := fun j hj => by
      have hj' : j < ss.length := by simpa [rowL] using hj
      have := hcur j ss[j] (by rw [List.getElem?_append_left hj']; simp [hj'])
      refine ⟨?_, by simp [World.frozen?, h7]⟩
      simp only [World.cell?, h7, Nat.zero_add, Option.isSome_none, Bool.false_eq_true, if_false]
      rw [this, getElem!_pos _ j hj]
      simp [rowL]
    subst h6
    have hD := Any.slices_Delete_string Try.laysDelete g 0 cap i (i + 1) (rowL ss) w hHolds (by rw [rowL_len]; exact h8) h9 (by omega) (by rw [rowL_len]; omega)
    rw [rowL_len] at hD
    refine hD.mono ?_
    rintro e w' ⟨rfl, q, rfl⟩
    have hrow : (rowL ss).take i ++ (rowL ss).drop (i + 1) ++ List.replicate (i + 1 - i) [] = rowL (del ss i ++ [zS]) := by
      rw [show i + 1 - i = 1 by omega]
      simp [rowL, del, zS, List.map_take, List.map_drop]
    rw [hrow]
    obtain ⟨cur', j1, j2, j3, j3b, j4, j5⟩ := row_world2 (q := q) (ss' := del ss i ++ [zS]) h7 (by omega)
    obtain ⟨p1, p2, p3, p4⟩ := put_row (w' := putRow encStr (Go.Sort.ahead w q) g 0 (rowL (del ss i ++ [zS])).toArray) hH h5 h7 rfl rfl rfl j4 j5 j1 j2 hl (fun j s hs => by
      rw [← List.append_assoc] at hs
      rcases Nat.lt_or_ge j ss.length with hj | hj
      · rw [List.getElem?_append_left (by omega)] at hs; exact j3 j s hs
      · rw [List.getElem?_append_right (by omega), hl0] at hs
        rw [j3b j (by omega)]
        exact hcur j s (by rw [List.getElem?_append_right hj]; exact hs))
    refine ⟨_, .c (.own n v (del ss i).length), _, imm, L, c, rfl, row_left n m v 9 (ss ++ rest) (del ss i ++ ([zS] ++ rest)) _ rfl _ (by simp), ?_, p1, p2, p3, p4⟩
    refine ⟨hu, ⟨_, _, by rw [hdl, show i + 1 - i = 1 by omega], by omega⟩, fun wr st ty' es hes => ?_⟩
    simp only [if_true, Option.some.injEq, Blk.arr.injEq] at hes
    obtain ⟨-, rfl, rfl, rfl, rfl⟩ := hes
    exact ⟨by rw [rowS_len, hl, List.length_append]; omega, .inr ⟨g, cap, cur', h5, by rw [hdl, show i + 1 - i = 1 by omega], j1, by omega, h9, by rw [j2, h10]⟩⟩
end Go.V

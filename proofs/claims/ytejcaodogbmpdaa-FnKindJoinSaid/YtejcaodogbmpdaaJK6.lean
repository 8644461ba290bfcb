/- It is proved that the law FnKindJoin returns true for every input and leaves its input as it was; no condition. -/
import Derived.Test.YtejcaodogbmpdaaJK5
set_option linter.unusedSimpArgs false
namespace Go.V
open Go.Proofs
theorem lt_of_le_ne {x y : List UInt8} (h : x ≤ y) (hn : x ≠ y) : x < y := by
  rcases List.le_iff_lt_or_eq.1 h with h | h
  · exact h
  · exact absurd h hn
theorem compactUp_at (d : Array (List UInt8)) (hs : ∀ i j, i ≤ j → j < d.size → d[i]! ≤ d[j]!) : ∀ m, m ≤ d.size → (∀ z, z ∈ Lib.compactUpTo d m ↔ ∃ j, j < m ∧ d[j]! = z) ∧ (Lib.compactUpTo d m).Pairwise fun x y => x < y
  | 0, _ => by simp [Lib.compactUpTo]
  | m + 1, hm => by
    obtain ⟨h1, h2⟩ := compactUp_at d hs m (by omega)
    rw [Lib.compactUpTo_succ]
    cases hk : Lib.keeps d m with
    | true =>
      simp only [if_true]
      refine ⟨fun z => ?_, List.pairwise_append.2 ⟨h2, List.pairwise_singleton _ _, fun z hz y hy => ?_⟩⟩
      · rw [List.mem_append, h1, List.mem_singleton]
        constructor
        · rintro (⟨j, hj, rfl⟩ | rfl)
          · exact ⟨j, by omega, rfl⟩
          · exact ⟨m, by omega, rfl⟩
        · rintro ⟨j, hj, rfl⟩
          rcases Nat.lt_or_ge j m with h | h
          · exact .inl ⟨j, h, rfl⟩
          · have : j = m := by omega
            rw [this]; exact .inr rfl
      · obtain ⟨j, hj, rfl⟩ := (h1 z).1 hz
        rw [List.mem_singleton.1 hy]
        simp only [Lib.keeps, decide_eq_true_eq] at hk
        rcases hk with h | h
        · omega
        · exact List.lt_of_le_of_lt (hs j (m - 1) (by omega) (by omega)) (lt_of_le_ne (hs (m - 1) m (by omega) (by omega)) fun e => h e.symm)
    | false =>
      simp only [Bool.false_eq_true, if_false, List.append_nil]
      refine ⟨fun z => ?_, h2⟩
      simp only [Lib.keeps, decide_eq_false_iff_not, not_or, Decidable.not_not] at hk
      rw [h1]
      constructor
      · rintro ⟨j, hj, rfl⟩; exact ⟨j, by omega, rfl⟩
      · rintro ⟨j, hj, rfl⟩
        rcases Nat.lt_or_ge j m with h | h
        · exact ⟨j, h, rfl⟩
        · have : j = m := by omega
          rw [this, hk.2]; exact ⟨m - 1, by omega, rfl⟩
theorem srt_pw (zs : List (List UInt8)) : (srt zs).Pairwise fun x y => x ≤ y := by
  have := List.pairwise_mergeSort (le := fun x y : List UInt8 => decide (x ≤ y)) (fun a b c h1 h2 => by simp only [decide_eq_true_eq] at h1 h2 ⊢; exact List.le_trans h1 h2) (fun a b => by simp only [Bool.or_eq_true, decide_eq_true_eq]; exact List.le_total a b) zs
  exact this.imp fun h => by simpa using h
theorem cmp_srt_at (zs : List (List UInt8)) : (∀ z, z ∈ cmp (srt zs) ↔ z ∈ zs) ∧ (cmp (srt zs)).Pairwise fun x y => x < y := by
  have hs : ∀ i j, i ≤ j → j < (srt zs).toArray.size → (srt zs).toArray[i]! ≤ (srt zs).toArray[j]! := fun i j hij hj => by
    rw [getElem!_pos _ i (by omega), getElem!_pos _ j hj]
    rcases Nat.eq_or_lt_of_le hij with rfl | h
    · exact List.le_refl _
    · have := List.pairwise_iff_getElem.1 (srt_pw zs) i j (by simpa using Nat.lt_trans h hj) (by simpa using hj) h
      simpa using this
  obtain ⟨h1, h2⟩ := compactUp_at (srt zs).toArray hs (srt zs).length (by simp)
  refine ⟨fun z => (h1 z).trans ?_, h2⟩
  rw [← List.mem_mergeSort (a := z) (l := zs) (le := fun x y => decide (x ≤ y))]
  constructor
  · rintro ⟨j, hj, rfl⟩
    rw [getElem!_pos _ j (by simpa using hj)]
    simp
  · intro h
    obtain ⟨j, hj⟩ := List.mem_iff_getElem?.1 h
    obtain ⟨hj1, hj2⟩ := List.getElem?_eq_some_iff.1 hj
    exact ⟨j, hj1, by rw [getElem!_pos _ j (by simpa using hj1)]; simpa using hj2⟩
theorem ofL_toList (l : List UInt8) : (ofL l).toList = l := by rw [ByteArray.toList_eq]; rfl
theorem cmp_srt (na nb : List ByteArray) (ha : RiseP na) (hb : RiseP nb) : (cmp (srt (rowL (na ++ nb)))).map ofL = mrg na nb := by
  obtain ⟨h1, h2⟩ := cmp_srt_at (rowL (na ++ nb))
  refine pw_ext _ _ ?_ (mrg_pw _ _ (rise_pw ha) (rise_pw hb)) fun z => ?_
  · rw [PW, List.pairwise_map]
    refine h2.imp fun h => ?_
    rw [less, ofL_toList, ofL_toList, bytesLess_eq]
    exact decide_eq_true h
  · rw [mem_mrg, ← List.mem_append, List.mem_map]
    constructor
    · rintro ⟨l, hl, rfl⟩
      obtain ⟨s, hs, rfl⟩ := List.mem_map.1 ((h1 l).1 hl)
      rw [ofL_data]; exact hs
    · intro hz
      exact ⟨z.data.toList, (h1 _).2 (List.mem_map.2 ⟨z, hz, rfl⟩), ofL_data z⟩
/-- A call that works in place on an own array of strings. -/
theorem callRow {P : Program} {t : Nat → T} {H : HMap} {c : Nat} {f : Opd} {args : List Opd} {fid : FuncId} {m v N : Nat} {ty : TypeId} {ss ss' : List ByteArray} {r : T} {k : Nat} {d : Option Nat} {un : List Nat} {l : List AOper} {prev : List (Nat × List Nat × List Nat)} {K : St → Prop}
    (hC : ACallsF P fid [.c (.own m v N)] (rowH m m v ty ss ss') r) (hf : ev t f = .pt (.one (.fn fid []))) (hl : args.map (ev t) = [.c (.own m v N)]) (hH : H m = some (.arr v true 1 ty (rowS ss))) (hr : r = .tup [] ∨ ∃ n, r = .c (.own m v n))
    (hk : chk prev un ⟨r, [(m, .arr v true 1 ty (rowS ss'))], [m], [m]⟩ = true ∧ DRun P l ((k, [m], [m]) :: prev) K ⟨updD t d r, upd H m (some (.arr v true 1 ty (rowS ss'))), c⟩) :
    step P k d un (.call f args) l prev K t H c := by
  have hN : renN (rowH m m v ty ss ss') m = some ⟨m, m, some (.arr v true 1 ty (rowS ss)), .arr v true 1 ty (rowS ss'), true⟩ := by simp [renN]
  refine callW (caps := []) («as» := [.c (.own m v N)]) (ws := []) (ns := []) (r' := r) (ob := [(m, .arr v true 1 ty (rowS ss'))]) (rowH m m v ty ss ss') hC hf (by rw [hl]; rfl) ?_ ⟨?_, trivial⟩ (by simp) (by simp) ?_ ?_ ?_
  · simp only [T.c, renITs, renIT, renI, inN, hN, Option.bind_some, Option.map_some]
  · show (match renIB (rowH m m v ty ss ss') (.arr v true 1 ty (rowS ss)) with | some B => (updH H []) m = some B | none => False)
    simp only [renIB, updH]
    exact hH
  · rcases hr with rfl | ⟨n, rfl⟩
    · simp only [renOT, renOPs, Option.map_some]
    · simp only [T.c, renOT, renOP, renO, hN, Option.map_some, verOf, if_true, Blk.ver]
  · simp only [renOBs, renOB, verOf, if_true, Blk.ver]
  · have hq : quiet r (rowH m m v ty ss ss') = false := by simp [quiet]
    simpa [hq, updH] using hk
/-- As callA, where an argument is a slice that is lent. -/
theorem callAL {P : Program} {t : Nat → T} {H : HMap} {c : Nat} {f : Opd} {args : List Opd} {fid : FuncId} {n m N st : Nat} {ty : TypeId} {es : List (List V)} {argsC : List T} {ws : List (Nat × Blk)} {ns : List Nat} {k : Nat} {d : Option Nat} {un : List Nat} {l : List AOper} {prev : List (Nat × List Nat × List Nat)} {K : St → Prop}
    (hC : ACallsF P fid argsC [⟨n, m, none, .arr 0 true st ty es, false⟩] (.c (.own n 0 N))) (hf : ev t f = .pt (.one (.fn fid []))) (hl : lendTs H argsC (args.map (ev t)) = some (argsC, ws, ns)) (ha : argsC.all closedA = true)
    (hk : chk prev un ⟨.c (.own m (c + k) N), ws ++ [(m, .arr (c + k) true st ty es)], ns ++ [m], ns ++ [m]⟩ = true ∧ DRun P l ((k, ns ++ [m], ns ++ [m]) :: prev) K ⟨updD t d (.c (.own m (c + k) N)), updH H (ws ++ [(m, .arr (c + k) true st ty es)]), c⟩) :
    step P k d un (.call f args) l prev K t H c := by
  let hs : List Hand := [⟨n, m, none, .arr 0 true st ty es, false⟩]
  have hN : renN hs n = some ⟨n, m, none, .arr 0 true st ty es, false⟩ := by simp [hs, renN]
  refine callW (caps := []) («as» := argsC) (ws := ws) (ns := ns) (r' := .c (.own m (c + k) N)) (ob := [(m, .arr (c + k) true st ty es)]) hs hC hf (by simpa using hl) (closed_As hs H argsC ha).2 ⟨trivial, trivial⟩ (by simp [hs]) (by simp [hs]) ?_ ?_ ?_
  · simp only [T.c, renOT, renOP, renO, hN, Option.map_some, verOf]; rfl
  · simp only [hs, renOBs, renOB, verOf]; rfl
  · have hq : quiet (.c (.own n 0 N)) hs = false := by simp [quiet, hs]
    simpa [hq, hs] using hk
end Go.V
set_option linter.unusedSimpArgs false
namespace Go.V
open Go.Proofs
def I67 (na : List ByteArray) (ka : List Kd) (nb : List ByteArray) (kb : List Kd) (ks : List Kd) (v : Nat) (rest : List ByteArray) (m : Nat) (σ : St) : Prop :=
  (∃ u, σ.t 2 = .c (.ptr 2 u 0) ∧ σ.H 2 = some (.var u 26 [.v (.s (.int .i64 5)), .v (.sl (encS na)), .v (.sl (encKs ka))])) ∧ (∃ u, σ.t 3 = .c (.ptr 3 u 0) ∧ σ.H 3 = some (.var u 26 [.v (.s (.int .i64 5)), .v (.sl (encS nb)), .v (.sl (encKs kb))])) ∧
  (∃ u, σ.t 4 = .c (.ptr 4 u 0) ∧ σ.H 4 = some (.var u 26 [.v (.s (.int .i64 0)), .nil0, .nil0])) ∧
  (∃ u a b, σ.t 10 = .c (.ptr 10 u 0) ∧ σ.H 10 = some (.var u 26 [.v (.s (.int .i64 5)), .own 2005 a m, .own 2004 b m]) ∧ σ.H 2005 = some (.arr a true 1 9 (encS ((mrg na nb).take m))) ∧ σ.H 2004 = some (.arr b true 3 26 (encKs (ks.take m)))) ∧
  (σ.t 82 = .c (.own 3108 v (mrg na nb).length) ∧ σ.H 3108 = some (.arr v true 1 9 (encS (mrg na nb ++ rest)))) ∧ σ.t 83 = .i (mrg na nb).length ∧ σ.t 84 = .i m
theorem UMt_1 : (type_of% (uA c67.eq_1)) ∧ (type_of% (uR r67_0.eq_1)) ∧ (type_of% (uA c67_23.eq_1)) ∧ (type_of% (uA c67_22.eq_1)) ∧ (type_of% (uR r67_1.eq_1)) ∧ (type_of% (uA c67_21.eq_1)) ∧ (type_of% (uA c67_4.eq_1)) ∧ (type_of% (uR r67_2.eq_1)) ∧ (type_of% (uR r67_3.eq_1)) ∧ (type_of% (uA c67_20.eq_1)) ∧ (type_of% (uR r67_5.eq_1)) ∧ (type_of% (uA c67_19.eq_1)) ∧ (type_of% (uA c67_7.eq_1)) ∧ (type_of% (uR r67_6.eq_1)) ∧ (type_of% (uA c67_18.eq_1)) ∧ (type_of% (uR r67_8.eq_1)) ∧ (type_of% (uA c67_17.eq_1)) ∧ (type_of% (uA c67_11.eq_1)) ∧ (type_of% (uR r67_9.eq_1)) ∧ (type_of% (uR r67_10.eq_1)) ∧ (type_of% (uA c67_16.eq_1)) ∧ (type_of% (uR r67_12.eq_1)) ∧ (type_of% (uA c67_15.eq_1)) ∧ (type_of% (uA c67_14.eq_1)) ∧ (type_of% (uR r67_13.eq_1)) ∧ (type_of% (uR r67_24.eq_1)) ∧ (type_of% (uR r67_25.eq_1)) ∧ (type_of% (uA c67_55.eq_1)) ∧ (type_of% (uR r67_26.eq_1)) ∧ (type_of% (uA c67_54.eq_1)) ∧ (type_of% (uA c67_53.eq_1)) ∧ (type_of% (uR r67_56.eq_1)) ∧ (type_of% s67.eq_1) :=
  ⟨uA c67.eq_1, uR r67_0.eq_1, uA c67_23.eq_1, uA c67_22.eq_1, uR r67_1.eq_1, uA c67_21.eq_1, uA c67_4.eq_1, uR r67_2.eq_1, uR r67_3.eq_1, uA c67_20.eq_1, uR r67_5.eq_1, uA c67_19.eq_1, uA c67_7.eq_1, uR r67_6.eq_1, uA c67_18.eq_1, uR r67_8.eq_1, uA c67_17.eq_1, uA c67_11.eq_1, uR r67_9.eq_1, uR r67_10.eq_1, uA c67_16.eq_1, uR r67_12.eq_1, uA c67_15.eq_1, uA c67_14.eq_1, uR r67_13.eq_1, uR r67_24.eq_1, uR r67_25.eq_1, uA c67_55.eq_1, uR r67_26.eq_1, uA c67_54.eq_1, uA c67_53.eq_1, uR r67_56.eq_1, s67.eq_1⟩
theorem UMt_2 : (type_of% (uA c67_52.eq_1)) ∧ (type_of% (uR r67_27.eq_1)) ∧ (type_of% (uA c67_28.eq_1)) ∧ (type_of% (uA c67_50.eq_1)) ∧ (type_of% (uA c67_49.eq_1)) ∧ (type_of% (uR r67_29.eq_1)) ∧ (type_of% (uR r67_30.eq_1)) ∧ (type_of% (uR r67_31.eq_1)) ∧ (type_of% (uR r67_32.eq_1)) ∧ (type_of% (uR r67_48.eq_1)) ∧ (type_of% (uR r67_51.eq_1)) ∧ (type_of% (uA c67.eq_1)) ∧ (type_of% (uR r67_0.eq_1)) ∧ (type_of% (uA c67_23.eq_1)) ∧ (type_of% (uA c67_22.eq_1)) ∧ (type_of% (uR r67_1.eq_1)) ∧ (type_of% (uA c67_21.eq_1)) ∧ (type_of% (uA c67_4.eq_1)) ∧ (type_of% (uR r67_2.eq_1)) ∧ (type_of% (uR r67_3.eq_1)) ∧ (type_of% (uA c67_20.eq_1)) ∧ (type_of% (uR r67_5.eq_1)) ∧ (type_of% (uA c67_19.eq_1)) ∧ (type_of% (uA c67_7.eq_1)) ∧ (type_of% (uR r67_6.eq_1)) ∧ (type_of% (uA c67_18.eq_1)) ∧ (type_of% (uR r67_8.eq_1)) ∧ (type_of% (uA c67_17.eq_1)) ∧ (type_of% (uA c67_11.eq_1)) ∧ (type_of% (uR r67_9.eq_1)) ∧ (type_of% (uR r67_10.eq_1)) ∧ (type_of% (uA c67_16.eq_1)) ∧ (type_of% (uR r67_12.eq_1)) ∧ (type_of% (uA c67_15.eq_1)) ∧ (type_of% (uA c67_14.eq_1)) ∧ (type_of% (uR r67_13.eq_1)) ∧ (type_of% (uR r67_24.eq_1)) ∧ (type_of% (uR r67_25.eq_1)) ∧ (type_of% (uA c67_55.eq_1)) ∧ (type_of% (uR r67_26.eq_1)) ∧ (type_of% (uA c67_54.eq_1)) ∧ (type_of% (uA c67_53.eq_1)) ∧ (type_of% (uR r67_56.eq_1)) ∧ (type_of% s67.eq_1) :=
  ⟨uA c67_52.eq_1, uR r67_27.eq_1, uA c67_28.eq_1, uA c67_50.eq_1, uA c67_49.eq_1, uR r67_29.eq_1, uR r67_30.eq_1, uR r67_31.eq_1, uR r67_32.eq_1, uR r67_48.eq_1, uR r67_51.eq_1, uA c67.eq_1, uR r67_0.eq_1, uA c67_23.eq_1, uA c67_22.eq_1, uR r67_1.eq_1, uA c67_21.eq_1, uA c67_4.eq_1, uR r67_2.eq_1, uR r67_3.eq_1, uA c67_20.eq_1, uR r67_5.eq_1, uA c67_19.eq_1, uA c67_7.eq_1, uR r67_6.eq_1, uA c67_18.eq_1, uR r67_8.eq_1, uA c67_17.eq_1, uA c67_11.eq_1, uR r67_9.eq_1, uR r67_10.eq_1, uA c67_16.eq_1, uR r67_12.eq_1, uA c67_15.eq_1, uA c67_14.eq_1, uR r67_13.eq_1, uR r67_24.eq_1, uR r67_25.eq_1, uA c67_55.eq_1, uR r67_26.eq_1, uA c67_54.eq_1, uA c67_53.eq_1, uR r67_56.eq_1, s67.eq_1⟩
theorem UMt_3 : (type_of% (uA c67_52.eq_1)) ∧ (type_of% (uR r67_27.eq_1)) ∧ (type_of% (uA c67_28.eq_1)) ∧ (type_of% (uA c67_50.eq_1)) ∧ (type_of% (uA c67_49.eq_1)) ∧ (type_of% (uR r67_29.eq_1)) ∧ (type_of% (uR r67_30.eq_1)) ∧ (type_of% (uR r67_31.eq_1)) ∧ (type_of% (uR r67_32.eq_1)) ∧ (type_of% (uA c67_42.eq_1)) ∧ (type_of% (uA c67_41.eq_1)) ∧ (type_of% (uR r67_33.eq_1)) ∧ (type_of% (uA c67_40.eq_1)) ∧ (type_of% (uR r67_34.eq_1)) ∧ (type_of% (uA c67_39.eq_1)) ∧ (type_of% (uR r67_35.eq_1)) ∧ (type_of% (uA c67_38.eq_1)) ∧ (type_of% (uR r67_36.eq_1)) ∧ (type_of% (uR r67_37.eq_1)) ∧ (type_of% (uA c67_47.eq_1)) ∧ (type_of% (uR r67_43.eq_1)) ∧ (type_of% (uA c67_46.eq_1)) ∧ (type_of% (uA c67_45.eq_1)) ∧ (type_of% (uR r67_44.eq_1)) ∧ (type_of% (uR r67_48.eq_1)) ∧ (type_of% (uR r67_51.eq_1)) ∧ (type_of% (uA c67.eq_1)) ∧ (type_of% (uR r67_0.eq_1)) ∧ (type_of% (uA c67_23.eq_1)) ∧ (type_of% (uA c67_22.eq_1)) ∧ (type_of% (uR r67_1.eq_1)) ∧ (type_of% (uA c67_21.eq_1)) ∧ (type_of% (uA c67_4.eq_1)) ∧ (type_of% (uR r67_2.eq_1)) ∧ (type_of% (uR r67_3.eq_1)) ∧ (type_of% (uA c67_20.eq_1)) ∧ (type_of% (uR r67_5.eq_1)) ∧ (type_of% (uA c67_19.eq_1)) ∧ (type_of% (uA c67_7.eq_1)) ∧ (type_of% (uR r67_6.eq_1)) ∧ (type_of% (uA c67_18.eq_1)) ∧ (type_of% (uR r67_8.eq_1)) ∧ (type_of% (uA c67_17.eq_1)) ∧ (type_of% (uA c67_11.eq_1)) ∧ (type_of% (uR r67_9.eq_1)) ∧ (type_of% (uR r67_10.eq_1)) ∧ (type_of% (uA c67_16.eq_1)) ∧ (type_of% (uR r67_12.eq_1)) ∧ (type_of% (uA c67_15.eq_1)) ∧ (type_of% (uA c67_14.eq_1)) ∧ (type_of% (uR r67_13.eq_1)) ∧ (type_of% (uR r67_24.eq_1)) ∧ (type_of% (uR r67_25.eq_1)) ∧ (type_of% (uA c67_55.eq_1)) ∧ (type_of% (uR r67_26.eq_1)) ∧ (type_of% (uA c67_54.eq_1)) ∧ (type_of% (uA c67_53.eq_1)) ∧ (type_of% (uR r67_56.eq_1)) ∧ (type_of% s67.eq_1) :=
  ⟨uA c67_52.eq_1, uR r67_27.eq_1, uA c67_28.eq_1, uA c67_50.eq_1, uA c67_49.eq_1, uR r67_29.eq_1, uR r67_30.eq_1, uR r67_31.eq_1, uR r67_32.eq_1, uA c67_42.eq_1, uA c67_41.eq_1, uR r67_33.eq_1, uA c67_40.eq_1, uR r67_34.eq_1, uA c67_39.eq_1, uR r67_35.eq_1, uA c67_38.eq_1, uR r67_36.eq_1, uR r67_37.eq_1, uA c67_47.eq_1, uR r67_43.eq_1, uA c67_46.eq_1, uA c67_45.eq_1, uR r67_44.eq_1, uR r67_48.eq_1, uR r67_51.eq_1, uA c67.eq_1, uR r67_0.eq_1, uA c67_23.eq_1, uA c67_22.eq_1, uR r67_1.eq_1, uA c67_21.eq_1, uA c67_4.eq_1, uR r67_2.eq_1, uR r67_3.eq_1, uA c67_20.eq_1, uR r67_5.eq_1, uA c67_19.eq_1, uA c67_7.eq_1, uR r67_6.eq_1, uA c67_18.eq_1, uR r67_8.eq_1, uA c67_17.eq_1, uA c67_11.eq_1, uR r67_9.eq_1, uR r67_10.eq_1, uA c67_16.eq_1, uR r67_12.eq_1, uA c67_15.eq_1, uA c67_14.eq_1, uR r67_13.eq_1, uR r67_24.eq_1, uR r67_25.eq_1, uA c67_55.eq_1, uR r67_26.eq_1, uA c67_54.eq_1, uA c67_53.eq_1, uR r67_56.eq_1, s67.eq_1⟩
theorem UMt_4 : (type_of% (uA c67_52.eq_1)) ∧ (type_of% (uR r67_27.eq_1)) ∧ (type_of% (uA c67_28.eq_1)) ∧ (type_of% (uA c67_50.eq_1)) ∧ (type_of% (uA c67_49.eq_1)) ∧ (type_of% (uR r67_29.eq_1)) ∧ (type_of% (uR r67_30.eq_1)) ∧ (type_of% (uR r67_31.eq_1)) ∧ (type_of% (uR r67_32.eq_1)) ∧ (type_of% (uA c67_42.eq_1)) ∧ (type_of% (uA c67_41.eq_1)) ∧ (type_of% (uR r67_33.eq_1)) ∧ (type_of% (uA c67_40.eq_1)) ∧ (type_of% (uR r67_34.eq_1)) ∧ (type_of% (uA c67_39.eq_1)) ∧ (type_of% (uR r67_35.eq_1)) ∧ (type_of% (uA c67_38.eq_1)) ∧ (type_of% (uR r67_36.eq_1)) ∧ (type_of% (uR r67_37.eq_1)) ∧ (type_of% (uR r67_48.eq_1)) ∧ (type_of% (uR r67_51.eq_1)) ∧ (type_of% (uA c67.eq_1)) ∧ (type_of% (uR r67_0.eq_1)) ∧ (type_of% (uA c67_23.eq_1)) ∧ (type_of% (uA c67_22.eq_1)) ∧ (type_of% (uR r67_1.eq_1)) ∧ (type_of% (uA c67_21.eq_1)) ∧ (type_of% (uA c67_4.eq_1)) ∧ (type_of% (uR r67_2.eq_1)) ∧ (type_of% (uR r67_3.eq_1)) ∧ (type_of% (uA c67_20.eq_1)) ∧ (type_of% (uR r67_5.eq_1)) ∧ (type_of% (uA c67_19.eq_1)) ∧ (type_of% (uA c67_7.eq_1)) ∧ (type_of% (uR r67_6.eq_1)) ∧ (type_of% (uA c67_18.eq_1)) ∧ (type_of% (uR r67_8.eq_1)) ∧ (type_of% (uA c67_17.eq_1)) ∧ (type_of% (uA c67_11.eq_1)) ∧ (type_of% (uR r67_9.eq_1)) ∧ (type_of% (uR r67_10.eq_1)) ∧ (type_of% (uA c67_16.eq_1)) ∧ (type_of% (uR r67_12.eq_1)) ∧ (type_of% (uA c67_15.eq_1)) ∧ (type_of% (uA c67_14.eq_1)) ∧ (type_of% (uR r67_13.eq_1)) ∧ (type_of% (uR r67_24.eq_1)) ∧ (type_of% (uR r67_25.eq_1)) ∧ (type_of% (uA c67_55.eq_1)) ∧ (type_of% (uR r67_26.eq_1)) ∧ (type_of% (uA c67_54.eq_1)) ∧ (type_of% (uA c67_53.eq_1)) ∧ (type_of% (uR r67_56.eq_1)) ∧ (type_of% s67.eq_1) :=
  ⟨uA c67_52.eq_1, uR r67_27.eq_1, uA c67_28.eq_1, uA c67_50.eq_1, uA c67_49.eq_1, uR r67_29.eq_1, uR r67_30.eq_1, uR r67_31.eq_1, uR r67_32.eq_1, uA c67_42.eq_1, uA c67_41.eq_1, uR r67_33.eq_1, uA c67_40.eq_1, uR r67_34.eq_1, uA c67_39.eq_1, uR r67_35.eq_1, uA c67_38.eq_1, uR r67_36.eq_1, uR r67_37.eq_1, uR r67_48.eq_1, uR r67_51.eq_1, uA c67.eq_1, uR r67_0.eq_1, uA c67_23.eq_1, uA c67_22.eq_1, uR r67_1.eq_1, uA c67_21.eq_1, uA c67_4.eq_1, uR r67_2.eq_1, uR r67_3.eq_1, uA c67_20.eq_1, uR r67_5.eq_1, uA c67_19.eq_1, uA c67_7.eq_1, uR r67_6.eq_1, uA c67_18.eq_1, uR r67_8.eq_1, uA c67_17.eq_1, uA c67_11.eq_1, uR r67_9.eq_1, uR r67_10.eq_1, uA c67_16.eq_1, uR r67_12.eq_1, uA c67_15.eq_1, uA c67_14.eq_1, uR r67_13.eq_1, uR r67_24.eq_1, uR r67_25.eq_1, uA c67_55.eq_1, uR r67_26.eq_1, uA c67_54.eq_1, uA c67_53.eq_1, uR r67_56.eq_1, s67.eq_1⟩
theorem joinI_form (na nb : List ByteArray) (ka kb : List Kd) (hla : na.length = ka.length) (hlb : nb.length = kb.length) (hra : RiseP na) (hrb : RiseP nb) (hBa : KB 1000 (.mk 5 na ka)) (hBb : KB 1000 (.mk 5 nb kb)) (ih : ∀ p ∈ ka, ∀ q ∈ kb, JC 67 p q) :
    JC 67 (.mk 5 na ka) (.mk 5 nb kb) := by
  obtain ⟨a1, a2, a3, a4⟩ := hBa.inv
  obtain ⟨b1, b2, b3, b4⟩ := hBb.inv
  obtain ⟨ks, hks, hend⟩ := join_plan na nb ka kb (Nat.le_of_eq hla) (Nat.le_of_eq hlb)
  have hlen := mrg_len na nb
  let R : Kd × Bool := if ks.length = (mrg na nb).length then (.mk 5 (mrg na nb) ks, true) else (.mk 0 [] [], false)
  have hR : JR (.mk 5 na ka) (.mk 5 nb kb) R.1 R.2 ∧ KB 1000000 R.1 := by
    rcases hend with ⟨h1, h2⟩ | ⟨h1, -, h2⟩
    · simp only [R, if_pos h1]
      exact ⟨.inl ⟨rfl, h2⟩, (jn_KB h2 hBa hBb).le (by omega)⟩
    · simp only [R, if_neg (Nat.ne_of_lt h1)]
      exact ⟨.inr ⟨rfl, h2⟩, k0_KB⟩
  refine ⟨R.1, R.2, hR.1, hR.2, ?_⟩
  have e0 : ((5 : Int) == 6) = false := rfl
  have e2 : ((5 : Int) != 5) = false := rfl
  have e4 : ((5 : Int) == 4) = false := rfl
  have hle : ks.length ≤ (mrg na nb).length := by rcases hend with h | h <;> omega
  obtain ⟨ss, rest, hssl, hSort, hComp⟩ : ∃ ss rest, ss.length = na.length + nb.length ∧ (∀ v, ACallsF Try.prog 95 [.c (.own 3108 v (na ++ nb).length)] (rowH 3108 3108 v 9 (na ++ nb) ss) (.tup [])) ∧ ∀ v, ACallsF Try.prog 96 [.c (.own 3108 v ss.length)] (rowH 3108 3108 v 9 ss (mrg na nb ++ rest)) (.c (.own 3108 v (mrg na nb).length)) := by
    have hl : ((srt (rowL (na ++ nb))).map ofL).length = na.length + nb.length := by simp [srt, rowL]
    have hm := cmp_srt na nb hra hrb
    have hr : rowL ((srt (rowL (na ++ nb))).map ofL) = srt (rowL (na ++ nb)) := rowL_ofL _
    have hml : (cmp (srt (rowL (na ++ nb)))).length = (mrg na nb).length := by rw [← hm, List.length_map]
    refine ⟨_, List.replicate ((na ++ nb).length - (mrg na nb).length) (ofL []), hl, fun v => sort_ok (na ++ nb) (by rw [List.length_append]; omega) 3108 3108 v, fun v => ?_⟩
    obtain ⟨rest, h1, h2⟩ := compact_ok ((srt (rowL (na ++ nb))).map ofL) (by omega) 3108 3108 v
    rw [hr, hm, hml] at h2
    rw [hr, hml, hl] at h1
    have : rest = (na ++ nb).length - (mrg na nb).length := by rw [List.length_append]; omega
    subst this
    exact h2
  refine ACallsF.intro ok67 follows fun X c0 => ?_
  simp only [RUN, core, T.c, T.s, T.b, T.i, sBin, sInt, sUn, isShift, asInt, P1.cells, loadT, ptrC, storeT, putC, fillP, Nat.reduceAdd, reduceIte, Nat.reduceEqDiff, Nat.reduceLT, Nat.reduceLeDiff, reduceCtorEq, eq_self, FIT, lendCs_map, verC_map, FinC, resPs, resP, lendPl, lendCs, lendC, sealC, partsT, finHs, tupT, verT, verP, verC, verB, verAt, Blk.ver, handsAre, forall_const, CHT, disj, Nat.reduceBEq, beq_self_eq_true, APT, srcOf, sealPs, sealCs, sealC, List.mem_singleton, forall_eq, ALT, UMt_1, encK_mk, e0, e2, e4]
  refine callAL (m := 3108) (ws := [(77, .arr (c0 + 4 + 9 + 6 + 4 + 4 + 5) false 1 23 [[.sl (encS na)], [.sl (encS nb)]])]) (ns := [77]) (concat_ok na nb (by omega) (by omega) 3108) rfl ?_ (by simp [closedA, closedP, closedC]) ?_
  · simp only [RUN, core, T.c, T.s, T.b, T.i, sBin, sInt, sUn, isShift, asInt, P1.cells, loadT, ptrC, storeT, putC, fillP, Nat.reduceAdd, reduceIte, Nat.reduceEqDiff, Nat.reduceLT, Nat.reduceLeDiff, reduceCtorEq, eq_self, FIT, lendCs_map, verC_map, FinC, resPs, resP, lendPl, lendCs, lendC, sealC, partsT, finHs, tupT, verT, verP, verC, verB, verAt, Blk.ver, handsAre, forall_const, CHT, disj, Nat.reduceBEq, beq_self_eq_true, APT, srcOf, sealPs, sealCs, sealC, List.mem_singleton, forall_eq, ALT, lendTs, lendT, lendC]
  simp only [RUN, core, T.c, T.s, T.b, T.i, sBin, sInt, sUn, isShift, asInt, P1.cells, loadT, ptrC, storeT, putC, fillP, Nat.reduceAdd, reduceIte, Nat.reduceEqDiff, Nat.reduceLT, Nat.reduceLeDiff, reduceCtorEq, eq_self, FIT, lendCs_map, verC_map, FinC, resPs, resP, lendPl, lendCs, lendC, sealC, partsT, finHs, tupT, verT, verP, verC, verB, verAt, Blk.ver, handsAre, forall_const, CHT, disj, Nat.reduceBEq, beq_self_eq_true, APT, srcOf, sealPs, sealCs, sealC, List.mem_singleton, forall_eq, ALT, UMt_1]
  refine callRow (m := 3108) (ss' := ss) (hSort (c0 + 4 + 9 + 6 + 4 + 4 + 6)) rfl ?_ ?_ (.inl rfl) ⟨?_, ?_⟩
  · simp only [RUN, core, T.c, T.s, T.b, T.i, sBin, sInt, sUn, isShift, asInt, P1.cells, loadT, ptrC, storeT, putC, fillP, Nat.reduceAdd, reduceIte, Nat.reduceEqDiff, Nat.reduceLT, Nat.reduceLeDiff, reduceCtorEq, eq_self, FIT, lendCs_map, verC_map, FinC, resPs, resP, lendPl, lendCs, lendC, sealC, partsT, finHs, tupT, verT, verP, verC, verB, verAt, Blk.ver, handsAre, forall_const, CHT, disj, Nat.reduceBEq, beq_self_eq_true, APT, srcOf, sealPs, sealCs, sealC, List.mem_singleton, forall_eq, ALT, List.length_append, List.map_cons, List.map_nil]
  · simp only [RUN, core, T.c, T.s, T.b, T.i, sBin, sInt, sUn, isShift, asInt, P1.cells, loadT, ptrC, storeT, putC, fillP, Nat.reduceAdd, reduceIte, Nat.reduceEqDiff, Nat.reduceLT, Nat.reduceLeDiff, reduceCtorEq, eq_self, FIT, lendCs_map, verC_map, FinC, resPs, resP, lendPl, lendCs, lendC, sealC, partsT, finHs, tupT, verT, verP, verC, verB, verAt, Blk.ver, handsAre, forall_const, CHT, disj, Nat.reduceBEq, beq_self_eq_true, APT, srcOf, sealPs, sealCs, sealC, List.mem_singleton, forall_eq, ALT]
    rfl
  · simp only [RUN, core, T.c, T.s, T.b, T.i, sBin, sInt, sUn, isShift, asInt, P1.cells, loadT, ptrC, storeT, putC, fillP, Nat.reduceAdd, reduceIte, Nat.reduceEqDiff, Nat.reduceLT, Nat.reduceLeDiff, reduceCtorEq, eq_self, FIT, lendCs_map, verC_map, FinC, resPs, resP, lendPl, lendCs, lendC, sealC, partsT, finHs, tupT, verT, verP, verC, verB, verAt, Blk.ver, handsAre, forall_const, CHT, disj, Nat.reduceBEq, beq_self_eq_true, APT, srcOf, sealPs, sealCs, sealC, List.mem_singleton, forall_eq, ALT]
  simp only [RUN, core, T.c, T.s, T.b, T.i, sBin, sInt, sUn, isShift, asInt, P1.cells, loadT, ptrC, storeT, putC, fillP, Nat.reduceAdd, reduceIte, Nat.reduceEqDiff, Nat.reduceLT, Nat.reduceLeDiff, reduceCtorEq, eq_self, FIT, lendCs_map, verC_map, FinC, resPs, resP, lendPl, lendCs, lendC, sealC, partsT, finHs, tupT, verT, verP, verC, verB, verAt, Blk.ver, handsAre, forall_const, CHT, disj, Nat.reduceBEq, beq_self_eq_true, APT, srcOf, sealPs, sealCs, sealC, List.mem_singleton, forall_eq, ALT, UMt_1]
  refine callRow (m := 3108) (ss' := mrg na nb ++ rest) (hComp (c0 + 4 + 9 + 6 + 4 + 4 + 6)) rfl ?_ ?_ (.inr ⟨_, rfl⟩) ⟨?_, ?_⟩
  · simp only [RUN, core, T.c, T.s, T.b, T.i, sBin, sInt, sUn, isShift, asInt, P1.cells, loadT, ptrC, storeT, putC, fillP, Nat.reduceAdd, reduceIte, Nat.reduceEqDiff, Nat.reduceLT, Nat.reduceLeDiff, reduceCtorEq, eq_self, FIT, lendCs_map, verC_map, FinC, resPs, resP, lendPl, lendCs, lendC, sealC, partsT, finHs, tupT, verT, verP, verC, verB, verAt, Blk.ver, handsAre, forall_const, CHT, disj, Nat.reduceBEq, beq_self_eq_true, APT, srcOf, sealPs, sealCs, sealC, List.mem_singleton, forall_eq, ALT, hssl, List.map_cons, List.map_nil]
  · simp only [RUN, core, T.c, T.s, T.b, T.i, sBin, sInt, sUn, isShift, asInt, P1.cells, loadT, ptrC, storeT, putC, fillP, Nat.reduceAdd, reduceIte, Nat.reduceEqDiff, Nat.reduceLT, Nat.reduceLeDiff, reduceCtorEq, eq_self, FIT, lendCs_map, verC_map, FinC, resPs, resP, lendPl, lendCs, lendC, sealC, partsT, finHs, tupT, verT, verP, verC, verB, verAt, Blk.ver, handsAre, forall_const, CHT, disj, Nat.reduceBEq, beq_self_eq_true, APT, srcOf, sealPs, sealCs, sealC, List.mem_singleton, forall_eq, ALT]
  · simp only [RUN, core, T.c, T.s, T.b, T.i, sBin, sInt, sUn, isShift, asInt, P1.cells, loadT, ptrC, storeT, putC, fillP, Nat.reduceAdd, reduceIte, Nat.reduceEqDiff, Nat.reduceLT, Nat.reduceLeDiff, reduceCtorEq, eq_self, FIT, lendCs_map, verC_map, FinC, resPs, resP, lendPl, lendCs, lendC, sealC, partsT, finHs, tupT, verT, verP, verC, verB, verAt, Blk.ver, handsAre, forall_const, CHT, disj, Nat.reduceBEq, beq_self_eq_true, APT, srcOf, sealPs, sealCs, sealC, List.mem_singleton, forall_eq, ALT]
  simp only [RUN, core, T.c, T.s, T.b, T.i, sBin, sInt, sUn, isShift, asInt, P1.cells, loadT, ptrC, storeT, putC, fillP, Nat.reduceAdd, reduceIte, Nat.reduceEqDiff, Nat.reduceLT, Nat.reduceLeDiff, reduceCtorEq, eq_self, FIT, lendCs_map, verC_map, FinC, resPs, resP, lendPl, lendCs, lendC, sealC, partsT, finHs, tupT, verT, verP, verC, verB, verAt, Blk.ver, handsAre, forall_const, CHT, disj, Nat.reduceBEq, beq_self_eq_true, APT, srcOf, sealPs, sealCs, sealC, List.mem_singleton, forall_eq, ALT, UMt_1]
  refine AW.reify 10 1 2005 1 9 rfl rfl rfl (by decide) ?_
  refine AW.reify 10 2 2004 3 26 rfl rfl rfl (by decide) ?_
  generalize (c0 + 4 + 9 + 6 + 4 + 4 + 6) = v
  refine AW.upto ks.length (I67 na ka nb kb ks v rest) ⟨⟨_, rfl, rfl⟩, ⟨_, rfl, rfl⟩, ⟨_, rfl, rfl⟩, ⟨_, _, _, rfl, rfl, rfl, rfl⟩, ⟨rfl, rfl⟩, rfl, rfl⟩ fun m t H c hm h => ?_
  obtain ⟨⟨u2, e2, eH2⟩, ⟨u3, e3, eH3⟩, ⟨u4, e4, eH4⟩, ⟨u10, a, b, e10, eH10, eHa, eHb⟩, ⟨e82, eH82⟩, e83, e84⟩ := h
  simp only [T.c, T.i] at e2 eH2 e3 eH3 e4 eH4 e10 eH10 eHa eHb e82 eH82 e83 e84
  have kd3 : encK (.mk 0 [] []) = [.s (.int .i64 0), .sl [], .sl []] := encK_0 0
  by_cases hlt : m < (mrg na nb).length
  · obtain ⟨x, hx⟩ : ∃ x, (mrg na nb)[m]? = some x := ⟨_, List.getElem?_eq_getElem hlt⟩
    have stop : m = ks.length → ∃ p q, kid na ka x = some p ∧ kid nb kb x = some q ∧ (∀ y, ¬ Jn p q y) := fun e => by
      rcases hend with ⟨h1, h2⟩ | ⟨h1, ⟨x', p, q, g1, g2, g3, g4⟩, -⟩
      · omega
      · subst e
        rw [hx] at g1; cases g1
        exact ⟨p, q, g2, g3, g4⟩
    have hxr : (mrg na nb ++ rest)[m]? = some x := by rw [List.getElem?_append_left hlt]; exact hx
    have ex := encS_at hxr
    have hg1 : (m : Int) < (mrg na nb).length := by omega
    have gz : (0 : Int) ≤ m := by omega
    have l1 : (encS ((mrg na nb).take m)).length = m := by rw [encS_len, List.length_take]; omega
    have l2 : (encKs (ks.take m)).length = m := by rw [encKs_len, List.length_take]; omega
    have t1 : List.take m (encS ((mrg na nb).take m)) = encS ((mrg na nb).take m) := List.take_of_length_le (by omega)
    have t2 : List.take m (encKs (ks.take m)) = encKs (ks.take m) := List.take_of_length_le (by omega)
    have gw : IntKind.i64.wrap ((m : Int) + 1) = ((m + 1 : Nat) : Int) := wrap64 (x := (m : Int) + 1) ⟨by omega, by omega⟩
    have q1 : (m + 1) * 16 ≤ 140737488355328 := by omega
    have q3 : (m + 1) * 56 ≤ 140737488355328 := by omega
    have q4 : m + 1 ≤ 9223372036854775807 := by omega
    obtain ⟨ja, ba, ha1, ha2, hCa⟩ := search_ok na x (rise_true.2 hra) (by omega)
    obtain ⟨jb, bb, hb1, hb2, hCb⟩ := search_ok nb x (rise_true.2 hrb) (by omega)
    have hge : (mrg na nb).length ≤ (encS (mrg na nb ++ rest)).length := by rw [encS_len, List.length_append]; omega
    have gza : (0 : Int) ≤ ja := by omega
    have gzb : (0 : Int) ≤ jb := by omega
    simp only [RUN, core, T.c, T.s, T.b, T.i, sBin, sInt, sUn, isShift, asInt, P1.cells, loadT, ptrC, storeT, putC, fillP, Nat.reduceAdd, reduceIte, Nat.reduceEqDiff, Nat.reduceLT, Nat.reduceLeDiff, reduceCtorEq, eq_self, FIT, lendCs_map, verC_map, FinC, resPs, resP, lendPl, lendCs, lendC, sealC, partsT, finHs, tupT, verT, verP, verC, verB, verAt, Blk.ver, handsAre, forall_const, CHT, disj, Nat.reduceBEq, beq_self_eq_true, APT, srcOf, sealPs, sealCs, sealC, List.mem_singleton, forall_eq, ALT, UMt_2, e2, eH2, e3, eH3, e82, eH82, e83, e84, hg1, gz, ex, hge, Int.toNat_natCast]
    refine callC hCa rfl rfl (by simp [closedA, closedP, closedC]) rfl ?_
    simp only [RUN, core, T.c, T.s, T.b, T.i, sBin, sInt, sUn, isShift, asInt, P1.cells, loadT, ptrC, storeT, putC, fillP, Nat.reduceAdd, reduceIte, Nat.reduceEqDiff, Nat.reduceLT, Nat.reduceLeDiff, reduceCtorEq, eq_self, FIT, lendCs_map, verC_map, FinC, resPs, resP, lendPl, lendCs, lendC, sealC, partsT, finHs, tupT, verT, verP, verC, verB, verAt, Blk.ver, handsAre, forall_const, CHT, disj, Nat.reduceBEq, beq_self_eq_true, APT, srcOf, sealPs, sealCs, sealC, List.mem_singleton, forall_eq, ALT, UMt_2, e2, eH2, e3, eH3, e82, eH82, e83, e84, hg1, gz, ex, hge, Int.toNat_natCast]
    refine callC hCb rfl rfl (by simp [closedA, closedP, closedC]) rfl ?_
    simp only [RUN, core, T.c, T.s, T.b, T.i, sBin, sInt, sUn, isShift, asInt, P1.cells, loadT, ptrC, storeT, putC, fillP, Nat.reduceAdd, reduceIte, Nat.reduceEqDiff, Nat.reduceLT, Nat.reduceLeDiff, reduceCtorEq, eq_self, FIT, lendCs_map, verC_map, FinC, resPs, resP, lendPl, lendCs, lendC, sealC, partsT, finHs, tupT, verT, verP, verC, verB, verAt, Blk.ver, handsAre, forall_const, CHT, disj, Nat.reduceBEq, beq_self_eq_true, APT, srcOf, sealPs, sealCs, sealC, List.mem_singleton, forall_eq, ALT, UMt_2, e2, eH2, e3, eH3, e82, eH82, e83, e84, hg1, gz, ex, hge, Int.toNat_natCast]
    have kida : ∀ {k : Kd}, ba = true → ka[ja]? = some k → kid na ka x = some k := fun h1 h2 => kid_in hra (ha1 h1) h2
    have kidb : ∀ {k : Kd}, bb = true → kb[jb]? = some k → kid nb kb x = some k := fun h1 h2 => kid_in hrb (hb1 h1) h2
    have fin : ∀ (k : Kd) (t' : Nat → T) (H' : HMap) (c' w : Nat) (Q : Exit → St → Prop), m < ks.length → ks[m]? = some k → t' 18 = .c (.ptr 18 w 0) → H' 18 = some (.var w 26 ((encK k).map .v)) → t' 19 = .b true → t' 13 = .s (.string x) → t' 2 = .c (.ptr 2 u2 0) → H' 2 = H 2 → t' 3 = .c (.ptr 3 u3 0) → H' 3 = H 3 → t' 4 = .c (.ptr 4 u4 0) → H' 4 = H 4 → t' 10 = .c (.ptr 10 u10 0) → H' 10 = H 10 → H' 2005 = H 2005 → H' 2004 = H 2004 → t' 82 = t 82 → H' 3108 = H 3108 → t' 83 = t 83 → t' 84 = t 84 →
        wpa Try.prog X c67_47 (thenW Try.prog X (.reg r67_48) (inW 2 (thenW Try.prog X (.reg r67_51) (thenA (fun σ => m < ks.length ∧ I67 na ka nb kb ks v rest (m + 1) σ) Q)))) ⟨t', H', c'⟩ := by
      intro k t' H' c' w Q hmk hk g18 gH18 g19 g13 g2 gH2 g3 gH3 g4 gH4 g10 gH10 gHa gHb g82 gH82 g83 g84
      simp only [T.c, T.i, T.b, T.s] at g18 gH18 g19 g13 g2 g3 g4 g10
      rw [eH2] at gH2
      rw [eH3] at gH3
      rw [eH4] at gH4
      rw [eH10] at gH10
      rw [eHa] at gHa
      rw [eHb] at gHb
      rw [e82] at g82
      rw [eH82] at gH82
      rw [e83] at g83
      rw [e84] at g84
      have n1 : encS ((mrg na nb).take (m + 1)) = encS ((mrg na nb).take m) ++ [[.s (.string x)]] := by rw [take_at hx]; exact encS_snoc _ _
      have n2 : encKs (ks.take (m + 1)) = encKs (ks.take m) ++ [encK k] := by rw [take_at hk]; exact encKs_snoc _ _
      simp only [RUN, core, T.c, T.s, T.b, T.i, sBin, sInt, sUn, isShift, asInt, P1.cells, loadT, ptrC, storeT, putC, fillP, Nat.reduceAdd, reduceIte, Nat.reduceEqDiff, Nat.reduceLT, Nat.reduceLeDiff, reduceCtorEq, eq_self, FIT, lendCs_map, verC_map, FinC, resPs, resP, lendPl, lendCs, lendC, sealC, partsT, finHs, tupT, verT, verP, verC, verB, verAt, Blk.ver, handsAre, forall_const, CHT, disj, Nat.reduceBEq, beq_self_eq_true, APT, srcOf, sealPs, sealCs, sealC, List.mem_singleton, forall_eq, ALT, UMt_3, g18, gH18, g19, g13, g10, gH10, gHa, gHb, g84, l1, t1, l2, t2, q1, q3, q4, gw, encK_len, encKs_len, encS_len, takeK, List.length_map, List.length_cons, List.length_nil, Nat.le_refl]
      unfold I67
      rw [n1, n2]
      exact ⟨hmk, ⟨u2, g2, gH2⟩, ⟨u3, g3, gH3⟩, ⟨u4, g4, gH4⟩, ⟨u10, _, _, g10, rfl, rfl, rfl⟩, ⟨g82, gH82⟩, g83, rfl⟩
    have hmk1 : ¬ (ba = true ∧ bb = true) → m < ks.length := fun hn => by
      rcases Nat.lt_or_ge m ks.length with h | h
      · exact h
      · obtain ⟨p, q, z1, z2, _⟩ := stop (by omega)
        refine absurd ⟨?_, ?_⟩ hn
        · cases ba with
          | true => rfl
          | false => rw [kid_none (ha2 rfl)] at z1; cases z1
        · cases bb with
          | true => rfl
          | false => rw [kid_none (hb2 rfl)] at z2; cases z2
    cases hba : ba with
    | true =>
      have hxa := ha1 hba
      obtain ⟨p, hp⟩ := at_len hla hxa
      have hkp := kida hba hp
      have ep := encKs_at hp
      have gja : (ja : Int) < ka.length := by have := (List.getElem?_eq_some_iff.1 hp).1; omega
      cases hbb : bb with
      | true =>
        have hxb := hb1 hbb
        obtain ⟨q, hq⟩ := at_len hlb hxb
        have hkq := kidb hbb hq
        have eq := encKs_at hq
        have gjb : (jb : Int) < kb.length := by have := (List.getElem?_eq_some_iff.1 hq).1; omega
        obtain ⟨k, ok, hJ, hKB, hC⟩ := ih p (List.mem_of_getElem? hp) q (List.mem_of_getElem? hq)
        simp only [RUN, core, T.c, T.s, T.b, T.i, sBin, sInt, sUn, isShift, asInt, P1.cells, loadT, ptrC, storeT, putC, fillP, Nat.reduceAdd, reduceIte, Nat.reduceEqDiff, Nat.reduceLT, Nat.reduceLeDiff, reduceCtorEq, eq_self, FIT, lendCs_map, verC_map, FinC, resPs, resP, lendPl, lendCs, lendC, sealC, partsT, finHs, tupT, verT, verP, verC, verB, verAt, Blk.ver, handsAre, forall_const, CHT, disj, Nat.reduceBEq, beq_self_eq_true, APT, srcOf, sealPs, sealCs, sealC, List.mem_singleton, forall_eq, ALT, UMt_4, e2, eH2, e3, eH3, gza, gzb, gja, gjb, ep, eq, encKs_len, Int.toNat_natCast, List.length_map, encK_len, takeK, Nat.le_refl]
        refine callC hC rfl rfl (by simp [closedA, closedP, closedC]) (by simp [closedT, closedP, closedC]) ?_
        rcases Nat.lt_or_ge m ks.length with hmk | hmk
        · obtain ⟨y, hy, y2, _⟩ := JP.at hks hmk hx
          have hJy := y2 p q hkp hkq
          rcases hJ with ⟨rfl, hJ⟩ | ⟨_, hJ⟩
          · cases jn_det hJ y hJy
            simp only [RUN, core, T.c, T.s, T.b, T.i, sBin, sInt, sUn, isShift, asInt, P1.cells, loadT, ptrC, storeT, putC, fillP, Nat.reduceAdd, reduceIte, Nat.reduceEqDiff, Nat.reduceLT, Nat.reduceLeDiff, reduceCtorEq, eq_self, FIT, lendCs_map, verC_map, FinC, resPs, resP, lendPl, lendCs, lendC, sealC, partsT, finHs, tupT, verT, verP, verC, verB, verAt, Blk.ver, handsAre, forall_const, CHT, disj, Nat.reduceBEq, beq_self_eq_true, APT, srcOf, sealPs, sealCs, sealC, List.mem_singleton, forall_eq, ALT, UMt_4, List.length_map, encK_len, takeK, Nat.le_refl]
            exact fin k _ _ _ _ _ hmk hy rfl rfl rfl rfl e2 rfl e3 rfl e4 rfl e10 rfl rfl rfl rfl rfl rfl rfl
          · exact absurd hJy (hJ y)
        · obtain ⟨p', q', z1, z2, z3⟩ := stop (by omega)
          rw [hkp] at z1; cases z1
          rw [hkq] at z2; cases z2
          rcases hJ with ⟨rfl, hJ⟩ | ⟨rfl, hJ⟩
          · exact absurd hJ (z3 k)
          have hne : ¬ ks.length = (mrg na nb).length := by omega
          have hR2 : R = (.mk 0 [] [], false) := by simp only [R, if_neg hne]
          rw [hR2]
          simp only [RUN, core, T.c, T.s, T.b, T.i, sBin, sInt, sUn, isShift, asInt, P1.cells, loadT, ptrC, storeT, putC, fillP, Nat.reduceAdd, reduceIte, Nat.reduceEqDiff, Nat.reduceLT, Nat.reduceLeDiff, reduceCtorEq, eq_self, FIT, lendCs_map, verC_map, FinC, resPs, resP, lendPl, lendCs, lendC, sealC, partsT, finHs, tupT, verT, verP, verC, verB, verAt, Blk.ver, handsAre, forall_const, CHT, disj, Nat.reduceBEq, beq_self_eq_true, APT, srcOf, sealPs, sealCs, sealC, List.mem_singleton, forall_eq, ALT, UMt_3, UMt_1, e4, eH4, List.length_map, encK_len, takeK, Nat.le_refl, encK_0]
      | false =>
        have hmk := hmk1 (by rw [hbb]; simp)
        obtain ⟨y, hy, _, y2, _⟩ := JP.at hks hmk hx
        have := y2 p hkp (kid_none (hb2 hbb))
        subst this
        simp only [RUN, core, T.c, T.s, T.b, T.i, sBin, sInt, sUn, isShift, asInt, P1.cells, loadT, ptrC, storeT, putC, fillP, Nat.reduceAdd, reduceIte, Nat.reduceEqDiff, Nat.reduceLT, Nat.reduceLeDiff, reduceCtorEq, eq_self, FIT, lendCs_map, verC_map, FinC, resPs, resP, lendPl, lendCs, lendC, sealC, partsT, finHs, tupT, verT, verP, verC, verB, verAt, Blk.ver, handsAre, forall_const, CHT, disj, Nat.reduceBEq, beq_self_eq_true, APT, srcOf, sealPs, sealCs, sealC, List.mem_singleton, forall_eq, ALT, UMt_4, e2, eH2, e3, eH3, gza, gja, ep, encKs_len, Int.toNat_natCast, List.length_map, encK_len, takeK, Nat.le_refl]
        refine callC (optI_ok p ((a4 _ (List.mem_of_getElem? hp)).le (by omega))) rfl rfl (by simp [closedA, closedP, closedC]) (by simp [closedT, closedP, closedC]) ?_
        simp only [RUN, core, T.c, T.s, T.b, T.i, sBin, sInt, sUn, isShift, asInt, P1.cells, loadT, ptrC, storeT, putC, fillP, Nat.reduceAdd, reduceIte, Nat.reduceEqDiff, Nat.reduceLT, Nat.reduceLeDiff, reduceCtorEq, eq_self, FIT, lendCs_map, verC_map, FinC, resPs, resP, lendPl, lendCs, lendC, sealC, partsT, finHs, tupT, verT, verP, verC, verB, verAt, Blk.ver, handsAre, forall_const, CHT, disj, Nat.reduceBEq, beq_self_eq_true, APT, srcOf, sealPs, sealCs, sealC, List.mem_singleton, forall_eq, ALT, UMt_4, List.length_map, encK_len, takeK, Nat.le_refl]
        exact fin _ _ _ _ _ _ hmk hy rfl rfl rfl rfl e2 rfl e3 rfl e4 rfl e10 rfl rfl rfl rfl rfl rfl rfl
    | false =>
      have hna := kid_none (ks := ka) (ha2 hba)
      have hmk := hmk1 (by rw [hba]; simp)
      cases hbb : bb with
      | true =>
        have hxb := hb1 hbb
        obtain ⟨q, hq⟩ := at_len hlb hxb
        have hkq := kidb hbb hq
        have eq := encKs_at hq
        have gjb : (jb : Int) < kb.length := by have := (List.getElem?_eq_some_iff.1 hq).1; omega
        obtain ⟨y, hy, _, _, y2⟩ := JP.at hks hmk hx
        have := y2 q hna hkq
        subst this
        simp only [RUN, core, T.c, T.s, T.b, T.i, sBin, sInt, sUn, isShift, asInt, P1.cells, loadT, ptrC, storeT, putC, fillP, Nat.reduceAdd, reduceIte, Nat.reduceEqDiff, Nat.reduceLT, Nat.reduceLeDiff, reduceCtorEq, eq_self, FIT, lendCs_map, verC_map, FinC, resPs, resP, lendPl, lendCs, lendC, sealC, partsT, finHs, tupT, verT, verP, verC, verB, verAt, Blk.ver, handsAre, forall_const, CHT, disj, Nat.reduceBEq, beq_self_eq_true, APT, srcOf, sealPs, sealCs, sealC, List.mem_singleton, forall_eq, ALT, UMt_4, e2, eH2, e3, eH3, gzb, gjb, eq, encKs_len, Int.toNat_natCast, List.length_map, encK_len, takeK, Nat.le_refl]
        refine callC (optI_ok q ((b4 _ (List.mem_of_getElem? hq)).le (by omega))) rfl rfl (by simp [closedA, closedP, closedC]) (by simp [closedT, closedP, closedC]) ?_
        simp only [RUN, core, T.c, T.s, T.b, T.i, sBin, sInt, sUn, isShift, asInt, P1.cells, loadT, ptrC, storeT, putC, fillP, Nat.reduceAdd, reduceIte, Nat.reduceEqDiff, Nat.reduceLT, Nat.reduceLeDiff, reduceCtorEq, eq_self, FIT, lendCs_map, verC_map, FinC, resPs, resP, lendPl, lendCs, lendC, sealC, partsT, finHs, tupT, verT, verP, verC, verB, verAt, Blk.ver, handsAre, forall_const, CHT, disj, Nat.reduceBEq, beq_self_eq_true, APT, srcOf, sealPs, sealCs, sealC, List.mem_singleton, forall_eq, ALT, UMt_4, List.length_map, encK_len, takeK, Nat.le_refl]
        exact fin _ _ _ _ _ _ hmk hy rfl rfl rfl rfl e2 rfl e3 rfl e4 rfl e10 rfl rfl rfl rfl rfl rfl rfl
      | false =>
        rcases kid_mrg (Nat.le_of_eq hla) (Nat.le_of_eq hlb) hx with ⟨p, h⟩ | ⟨q, h⟩
        · rw [hna] at h; cases h
        · rw [kid_none (hb2 hbb)] at h; cases h
  · have hmE : m = (mrg na nb).length := by omega
    have hkE : ks.length = (mrg na nb).length := by omega
    have hR2 : R = (.mk 5 (mrg na nb) ks, true) := by simp only [R, if_pos hkE]
    rw [hR2]
    have g1 : ¬ (m : Int) < (mrg na nb).length := by omega
    have r1 : (mrg na nb).take m = mrg na nb := List.take_of_length_le (by omega)
    have r2 : ks.take m = ks := List.take_of_length_le (by omega)
    rw [r1] at eHa
    rw [r2] at eHb
    have w1 : List.take m (encS (mrg na nb)) = encS (mrg na nb) := List.take_of_length_le (by rw [encS_len]; omega)
    have w2 : List.take m (encKs ks) = encKs ks := List.take_of_length_le (by rw [encKs_len]; omega)
    have w3 : m ≤ (mrg na nb).length := by omega
    have w4 : m ≤ ks.length := by omega
    simp only [RUN, core, T.c, T.s, T.b, T.i, sBin, sInt, sUn, isShift, asInt, P1.cells, loadT, ptrC, storeT, putC, fillP, Nat.reduceAdd, reduceIte, Nat.reduceEqDiff, Nat.reduceLT, Nat.reduceLeDiff, reduceCtorEq, eq_self, FIT, lendCs_map, verC_map, FinC, resPs, resP, lendPl, lendCs, lendC, sealC, partsT, finHs, tupT, verT, verP, verC, verB, verAt, Blk.ver, handsAre, forall_const, CHT, disj, Nat.reduceBEq, beq_self_eq_true, APT, srcOf, sealPs, sealCs, sealC, List.mem_singleton, forall_eq, ALT, UMt_3, UMt_1, e2, eH2, e3, eH3, e4, eH4, e10, eH10, eHa, eHb, e82, eH82, e83, e84, encS_len, encKs_len, g1, w1, w2, w3, w4, encK_mk, List.length_map, encK_len, takeK, Nat.le_refl]
end Go.V
set_option linter.unusedSimpArgs false
namespace Go.V
open Go.Proofs
theorem joinI_ok (a b : Kd) (da db : Nat) (ha : KOk da a) (hb : KOk db b) (hBa : KB 1000 a) (hBb : KB 1000 b) : JC 67 a b :=
  join_rec 67 joinI_maybe joinI_diff joinI_leaf joinI_list joinI_form _ a b (Nat.le_refl _) da db ha hb hBa hBb
/-- What KindJoin tells. -/
abbrev KJ (a b r : Kd) (ok : Bool) : Prop := (ok = true ∧ okK a = true ∧ okK b = true ∧ Jn a b r ∧ okK r = true) ∨ (ok = false ∧ r = .mk 0 [] [] ∧ (okK a = true → okK b = true → ∀ k, Jn a b k → okK k = false))
theorem kj_det {a b r r' : Kd} {ok ok' : Bool} (h : KJ a b r ok) (h' : KJ a b r' ok') : r = r' ∧ ok = ok' := by
  rcases h with ⟨rfl, h1, h2, h3, h4⟩ | ⟨rfl, rfl, h3⟩ <;> rcases h' with ⟨rfl, g1, g2, g3, g4⟩ | ⟨rfl, rfl, g3⟩
  · exact ⟨jn_det h3 _ g3, rfl⟩
  · rw [g3 h1 h2 r h3] at h4; cases h4
  · rw [h3 g1 g2 r' g3] at g4; cases g4
  · exact ⟨rfl, rfl⟩
theorem kj_sym {a b r : Kd} {ok : Bool} (h : KJ a b r ok) : KJ b a r ok := by
  rcases h with ⟨h0, h1, h2, h3, h4⟩ | ⟨h0, h1, h2⟩
  · exact .inl ⟨h0, h2, h1, jn_sym h3, h4⟩
  · exact .inr ⟨h0, h1, fun g1 g2 k hk => h2 g2 g1 k (jn_sym hk)⟩
theorem kj_KB {a b r : Kd} {ok : Bool} (h : KJ a b r ok) : KB 2000 r := by
  rcases h with ⟨_, h1, h2, h3, _⟩ | ⟨_, rfl, _⟩
  · exact jn_KB h3 (okK_KB h1) (okK_KB h2)
  · exact .mk _ _ _ (by simp) (by simp) (fun x hx => by cases hx) fun x hx => by cases hx
/- loop.example/teagle/spec.KindJoin -/
def r28_0 : List AOper := [ao 0 2 (.box 26 (.t 0)),
  ao 1 3 (.box 26 (.t 1)),
  ao 2 4 (.alloc 26 [(.v (.s (.int .i64 0))), .nil0, .nil0]),
  ao 3 5 (.mv (.k (.b false)))]
def r28_1 : List AOper := [ao 0 8 (.ld 3 true (.t 2)),
  ao 1 9 (.call (.k (.c (.fn 25 []))) [(.t 8)]),
  ao 2 10 (.un .not (.t 9)),
  ao 3 11 (.mv (.t 10)),
  ag 4 12 11 false [] (.ld 3 true (.t 3)),
  ag 5 13 11 false [] (.call (.k (.c (.fn 25 []))) [(.t 12)]),
  ag 6 14 11 false [] (.un .not (.t 13)),
  ao 7 15 (.pick (.t 11) (.k (.b true)) (.t 14))]
def r28_2 : List AOper := [ao 0 16 (.build [(.v (.s (.int .i64 0))), .nil0, .nil0] []),
  an 1 (.st 3 (.t 4) (.t 16)),
  ao 2 5 (.mv (.k (.b false)))]
def c28_3 : ACode := .seq (.reg r28_2) .ret
def c28_4 : ACode := .cond (.t 15) c28_3 .skip
def c28_5 : ACode := .seq (.reg r28_1) c28_4
def r28_6 : List AOper := [ao 0 18 (.ld 3 true (.t 2)),
  ao 1 19 (.ld 3 true (.t 3)),
  ao 2 20 (.call (.k (.c (.fn 66 []))) [(.t 18), (.t 19)]),
  ao 3 17 (.mv (.t 20)),
  ao 4 21 (.ext 0 (.t 17)),
  ao 5 22 (.ext 1 (.t 17)),
  ao 6 6 (.alloc 26 [(.v (.s (.int .i64 0))), .nil0, .nil0]),
  an 7 (.st 3 (.t 6) (.t 21)),
  ao 8 7 (.mv (.t 22))]
def r28_7 : List AOper := [ao 0 23 (.mv (.t 7)),
  ao 1 24 (.un .not (.t 23)),
  ao 2 25 (.mv (.t 24)),
  ag 3 26 25 false [] (.ld 3 true (.t 6)),
  ag 4 27 25 false [] (.call (.k (.c (.fn 25 []))) [(.t 26)]),
  ag 5 28 25 false [] (.un .not (.t 27)),
  ao 6 29 (.pick (.t 25) (.k (.b true)) (.t 28))]
def r28_8 : List AOper := [ao 0 30 (.build [(.v (.s (.int .i64 0))), .nil0, .nil0] []),
  an 1 (.st 3 (.t 4) (.t 30)),
  ao 2 5 (.mv (.k (.b false)))]
def c28_9 : ACode := .seq (.reg r28_8) .ret
def c28_10 : ACode := .cond (.t 29) c28_9 .skip
def c28_11 : ACode := .seq (.reg r28_7) c28_10
def r28_12 : List AOper := [ao 0 31 (.ld 3 true (.t 6)),
  an 1 (.st 3 (.t 4) (.t 31)),
  ao 2 5 (.mv (.k (.b true)))]
def c28 : ACode := .seq (.reg r28_0) (.seq c28_5 (.seq (.reg r28_6) (.seq c28_11 (.seq (.reg r28_12) .ret))))
def s28 : List ARes := [.cell 4 3 true, .tmp 5]
theorem ok28 : okF Try.prog 28 32 c28 s28 := ⟨Try.f28, Try.func28, Try.ntmps28, by kernel_rfl, by kernel_rfl, by kernel_rfl⟩
theorem UMu_1 : (type_of% (uA c28.eq_1)) ∧ (type_of% (uR r28_0.eq_1)) ∧ (type_of% (uA c28_5.eq_1)) ∧ (type_of% (uR r28_1.eq_1)) ∧ (type_of% (uA c28_4.eq_1)) ∧ (type_of% (uA c28_3.eq_1)) ∧ (type_of% (uR r28_2.eq_1)) ∧ (type_of% (uR r28_6.eq_1)) ∧ (type_of% (uA c28_11.eq_1)) ∧ (type_of% (uR r28_7.eq_1)) ∧ (type_of% (uA c28_10.eq_1)) ∧ (type_of% (uA c28_9.eq_1)) ∧ (type_of% (uR r28_8.eq_1)) ∧ (type_of% (uR r28_12.eq_1)) ∧ (type_of% s28.eq_1) :=
  ⟨uA c28.eq_1, uR r28_0.eq_1, uA c28_5.eq_1, uR r28_1.eq_1, uA c28_4.eq_1, uA c28_3.eq_1, uR r28_2.eq_1, uR r28_6.eq_1, uA c28_11.eq_1, uR r28_7.eq_1, uA c28_10.eq_1, uA c28_9.eq_1, uR r28_8.eq_1, uR r28_12.eq_1, s28.eq_1⟩
theorem kjS_ok (a b : Kd) (ha : KB 2000 a) (hb : KB 2000 b) : ∃ r ok, KJ a b r ok ∧ ACallsF Try.prog 28 [tK a, tK b] [] (tKB (r, ok)) := by
  have e0 := encK_0 0
  have hCa := kindOkS_ok a (ha.le (by omega))
  have hCb := kindOkS_ok b (hb.le (by omega))
  cases h1 : okK a with
  | false =>
    refine ⟨.mk 0 [] [], false, .inr ⟨rfl, rfl, fun g => by rw [h1] at g; cases g⟩, ACallsF.intro ok28 follows fun X c0 => ?_⟩
    rw [h1] at hCa
    simp only [RUN, core, T.c, T.s, T.b, T.i, sBin, sInt, sUn, isShift, asInt, P1.cells, loadT, ptrC, storeT, putC, fillP, Nat.reduceAdd, reduceIte, Nat.reduceEqDiff, Nat.reduceLT, Nat.reduceLeDiff, reduceCtorEq, eq_self, FIT, lendCs_map, verC_map, FinC, resPs, resP, lendPl, lendCs, lendC, sealC, partsT, finHs, tupT, verT, verP, verC, verB, verAt, Blk.ver, handsAre, forall_const, CHT, disj, Nat.reduceBEq, beq_self_eq_true, APT, srcOf, sealPs, sealCs, sealC, List.mem_singleton, forall_eq, ALT, UMu_1, List.length_map, encK_len, takeK, Nat.le_refl]
    refine callC hCa rfl rfl (by simp [closedA, closedP, closedC]) rfl ?_
    simp only [RUN, core, T.c, T.s, T.b, T.i, sBin, sInt, sUn, isShift, asInt, P1.cells, loadT, ptrC, storeT, putC, fillP, Nat.reduceAdd, reduceIte, Nat.reduceEqDiff, Nat.reduceLT, Nat.reduceLeDiff, reduceCtorEq, eq_self, FIT, lendCs_map, verC_map, FinC, resPs, resP, lendPl, lendCs, lendC, sealC, partsT, finHs, tupT, verT, verP, verC, verB, verAt, Blk.ver, handsAre, forall_const, CHT, disj, Nat.reduceBEq, beq_self_eq_true, APT, srcOf, sealPs, sealCs, sealC, List.mem_singleton, forall_eq, ALT, UMu_1, e0]
  | true =>
    rw [h1] at hCa
    cases h2 : okK b with
    | false =>
      refine ⟨.mk 0 [] [], false, .inr ⟨rfl, rfl, fun _ g => by rw [h2] at g; cases g⟩, ACallsF.intro ok28 follows fun X c0 => ?_⟩
      rw [h2] at hCb
      simp only [RUN, core, T.c, T.s, T.b, T.i, sBin, sInt, sUn, isShift, asInt, P1.cells, loadT, ptrC, storeT, putC, fillP, Nat.reduceAdd, reduceIte, Nat.reduceEqDiff, Nat.reduceLT, Nat.reduceLeDiff, reduceCtorEq, eq_self, FIT, lendCs_map, verC_map, FinC, resPs, resP, lendPl, lendCs, lendC, sealC, partsT, finHs, tupT, verT, verP, verC, verB, verAt, Blk.ver, handsAre, forall_const, CHT, disj, Nat.reduceBEq, beq_self_eq_true, APT, srcOf, sealPs, sealCs, sealC, List.mem_singleton, forall_eq, ALT, UMu_1, List.length_map, encK_len, takeK, Nat.le_refl]
      refine callC hCa rfl rfl (by simp [closedA, closedP, closedC]) rfl ?_
      simp only [RUN, core, T.c, T.s, T.b, T.i, sBin, sInt, sUn, isShift, asInt, P1.cells, loadT, ptrC, storeT, putC, fillP, Nat.reduceAdd, reduceIte, Nat.reduceEqDiff, Nat.reduceLT, Nat.reduceLeDiff, reduceCtorEq, eq_self, FIT, lendCs_map, verC_map, FinC, resPs, resP, lendPl, lendCs, lendC, sealC, partsT, finHs, tupT, verT, verP, verC, verB, verAt, Blk.ver, handsAre, forall_const, CHT, disj, Nat.reduceBEq, beq_self_eq_true, APT, srcOf, sealPs, sealCs, sealC, List.mem_singleton, forall_eq, ALT, UMu_1, List.length_map, encK_len, takeK, Nat.le_refl]
      refine callC hCb rfl rfl (by simp [closedA, closedP, closedC]) rfl ?_
      simp only [RUN, core, T.c, T.s, T.b, T.i, sBin, sInt, sUn, isShift, asInt, P1.cells, loadT, ptrC, storeT, putC, fillP, Nat.reduceAdd, reduceIte, Nat.reduceEqDiff, Nat.reduceLT, Nat.reduceLeDiff, reduceCtorEq, eq_self, FIT, lendCs_map, verC_map, FinC, resPs, resP, lendPl, lendCs, lendC, sealC, partsT, finHs, tupT, verT, verP, verC, verB, verAt, Blk.ver, handsAre, forall_const, CHT, disj, Nat.reduceBEq, beq_self_eq_true, APT, srcOf, sealPs, sealCs, sealC, List.mem_singleton, forall_eq, ALT, UMu_1, e0]
    | true =>
      rw [h2] at hCb
      obtain ⟨k, ok, hJ, hB, hC⟩ := joinS_ok a b 1 1 (okK_true.1 h1).1 (okK_true.1 h2).1 (okK_KB h1) (okK_KB h2)
      have hCk := kindOkS_ok k hB
      have pre : ∀ (r : Kd) (o : Bool), (ok = false → r = .mk 0 [] [] ∧ o = false) → (ok = true → okK k = false → r = .mk 0 [] [] ∧ o = false) → (ok = true → okK k = true → r = k ∧ o = true) → ACallsF Try.prog 28 [tK a, tK b] [] (tKB (r, o)) := by
        intro r o hr1 hr2 hr3
        refine ACallsF.intro ok28 follows fun X c0 => ?_
        simp only [RUN, core, T.c, T.s, T.b, T.i, sBin, sInt, sUn, isShift, asInt, P1.cells, loadT, ptrC, storeT, putC, fillP, Nat.reduceAdd, reduceIte, Nat.reduceEqDiff, Nat.reduceLT, Nat.reduceLeDiff, reduceCtorEq, eq_self, FIT, lendCs_map, verC_map, FinC, resPs, resP, lendPl, lendCs, lendC, sealC, partsT, finHs, tupT, verT, verP, verC, verB, verAt, Blk.ver, handsAre, forall_const, CHT, disj, Nat.reduceBEq, beq_self_eq_true, APT, srcOf, sealPs, sealCs, sealC, List.mem_singleton, forall_eq, ALT, UMu_1, List.length_map, encK_len, takeK, Nat.le_refl]
        refine callC hCa rfl rfl (by simp [closedA, closedP, closedC]) rfl ?_
        simp only [RUN, core, T.c, T.s, T.b, T.i, sBin, sInt, sUn, isShift, asInt, P1.cells, loadT, ptrC, storeT, putC, fillP, Nat.reduceAdd, reduceIte, Nat.reduceEqDiff, Nat.reduceLT, Nat.reduceLeDiff, reduceCtorEq, eq_self, FIT, lendCs_map, verC_map, FinC, resPs, resP, lendPl, lendCs, lendC, sealC, partsT, finHs, tupT, verT, verP, verC, verB, verAt, Blk.ver, handsAre, forall_const, CHT, disj, Nat.reduceBEq, beq_self_eq_true, APT, srcOf, sealPs, sealCs, sealC, List.mem_singleton, forall_eq, ALT, UMu_1, List.length_map, encK_len, takeK, Nat.le_refl]
        refine callC hCb rfl rfl (by simp [closedA, closedP, closedC]) rfl ?_
        simp only [RUN, core, T.c, T.s, T.b, T.i, sBin, sInt, sUn, isShift, asInt, P1.cells, loadT, ptrC, storeT, putC, fillP, Nat.reduceAdd, reduceIte, Nat.reduceEqDiff, Nat.reduceLT, Nat.reduceLeDiff, reduceCtorEq, eq_self, FIT, lendCs_map, verC_map, FinC, resPs, resP, lendPl, lendCs, lendC, sealC, partsT, finHs, tupT, verT, verP, verC, verB, verAt, Blk.ver, handsAre, forall_const, CHT, disj, Nat.reduceBEq, beq_self_eq_true, APT, srcOf, sealPs, sealCs, sealC, List.mem_singleton, forall_eq, ALT, UMu_1, List.length_map, encK_len, takeK, Nat.le_refl]
        refine callC hC rfl rfl (by simp [closedA, closedP, closedC]) (by simp [closedT, closedP, closedC]) ?_
        cases ok with
        | false =>
          obtain ⟨rfl, rfl⟩ := hr1 rfl
          simp only [RUN, core, T.c, T.s, T.b, T.i, sBin, sInt, sUn, isShift, asInt, P1.cells, loadT, ptrC, storeT, putC, fillP, Nat.reduceAdd, reduceIte, Nat.reduceEqDiff, Nat.reduceLT, Nat.reduceLeDiff, reduceCtorEq, eq_self, FIT, lendCs_map, verC_map, FinC, resPs, resP, lendPl, lendCs, lendC, sealC, partsT, finHs, tupT, verT, verP, verC, verB, verAt, Blk.ver, handsAre, forall_const, CHT, disj, Nat.reduceBEq, beq_self_eq_true, APT, srcOf, sealPs, sealCs, sealC, List.mem_singleton, forall_eq, ALT, UMu_1, List.length_map, encK_len, takeK, Nat.le_refl, e0]
        | true =>
          simp only [RUN, core, T.c, T.s, T.b, T.i, sBin, sInt, sUn, isShift, asInt, P1.cells, loadT, ptrC, storeT, putC, fillP, Nat.reduceAdd, reduceIte, Nat.reduceEqDiff, Nat.reduceLT, Nat.reduceLeDiff, reduceCtorEq, eq_self, FIT, lendCs_map, verC_map, FinC, resPs, resP, lendPl, lendCs, lendC, sealC, partsT, finHs, tupT, verT, verP, verC, verB, verAt, Blk.ver, handsAre, forall_const, CHT, disj, Nat.reduceBEq, beq_self_eq_true, APT, srcOf, sealPs, sealCs, sealC, List.mem_singleton, forall_eq, ALT, UMu_1, List.length_map, encK_len, takeK, Nat.le_refl]
          refine callC hCk rfl rfl (by simp [closedA, closedP, closedC]) rfl ?_
          cases hk : okK k with
          | false =>
            obtain ⟨rfl, rfl⟩ := hr2 rfl hk
            simp only [RUN, core, T.c, T.s, T.b, T.i, sBin, sInt, sUn, isShift, asInt, P1.cells, loadT, ptrC, storeT, putC, fillP, Nat.reduceAdd, reduceIte, Nat.reduceEqDiff, Nat.reduceLT, Nat.reduceLeDiff, reduceCtorEq, eq_self, FIT, lendCs_map, verC_map, FinC, resPs, resP, lendPl, lendCs, lendC, sealC, partsT, finHs, tupT, verT, verP, verC, verB, verAt, Blk.ver, handsAre, forall_const, CHT, disj, Nat.reduceBEq, beq_self_eq_true, APT, srcOf, sealPs, sealCs, sealC, List.mem_singleton, forall_eq, ALT, UMu_1, List.length_map, encK_len, takeK, Nat.le_refl, e0]
          | true =>
            obtain ⟨rfl, rfl⟩ := hr3 rfl hk
            simp only [RUN, core, T.c, T.s, T.b, T.i, sBin, sInt, sUn, isShift, asInt, P1.cells, loadT, ptrC, storeT, putC, fillP, Nat.reduceAdd, reduceIte, Nat.reduceEqDiff, Nat.reduceLT, Nat.reduceLeDiff, reduceCtorEq, eq_self, FIT, lendCs_map, verC_map, FinC, resPs, resP, lendPl, lendCs, lendC, sealC, partsT, finHs, tupT, verT, verP, verC, verB, verAt, Blk.ver, handsAre, forall_const, CHT, disj, Nat.reduceBEq, beq_self_eq_true, APT, srcOf, sealPs, sealCs, sealC, List.mem_singleton, forall_eq, ALT, UMu_1, List.length_map, encK_len, takeK, Nat.le_refl]
      rcases hJ with ⟨rfl, hJ⟩ | ⟨rfl, hJ⟩
      · cases hk : okK k with
        | true => exact ⟨k, true, .inl ⟨rfl, h1, h2, hJ, hk⟩, pre _ _ (fun h => by cases h) (fun _ h => by rw [hk] at h; cases h) fun _ _ => ⟨rfl, rfl⟩⟩
        | false => exact ⟨.mk 0 [] [], false, .inr ⟨rfl, rfl, fun _ _ k' hk' => by cases jn_det hJ k' hk'; exact hk⟩, pre _ _ (fun h => by cases h) (fun _ _ => ⟨rfl, rfl⟩) fun _ h => by rw [hk] at h; cases h⟩
      · exact ⟨.mk 0 [] [], false, .inr ⟨rfl, rfl, fun _ _ k' hk' => absurd hk' (hJ k')⟩, pre _ _ (fun _ => ⟨rfl, rfl⟩) (fun h => by cases h) fun h => by cases h⟩
/- loop.example/teagle/impl.KindJoin -/
def r29_0 : List AOper := [ao 0 2 (.box 26 (.t 0)),
  ao 1 3 (.box 26 (.t 1)),
  ao 2 4 (.alloc 26 [(.v (.s (.int .i64 0))), .nil0, .nil0]),
  ao 3 5 (.mv (.k (.b false)))]
def r29_1 : List AOper := [ao 0 8 (.ld 3 true (.t 2)),
  ao 1 9 (.call (.k (.c (.fn 42 []))) [(.t 8)]),
  ao 2 10 (.un .not (.t 9)),
  ao 3 11 (.mv (.t 10)),
  ag 4 12 11 false [] (.ld 3 true (.t 3)),
  ag 5 13 11 false [] (.call (.k (.c (.fn 42 []))) [(.t 12)]),
  ag 6 14 11 false [] (.un .not (.t 13)),
  ao 7 15 (.pick (.t 11) (.k (.b true)) (.t 14))]
def r29_2 : List AOper := [ao 0 16 (.build [(.v (.s (.int .i64 0))), .nil0, .nil0] []),
  an 1 (.st 3 (.t 4) (.t 16)),
  ao 2 5 (.mv (.k (.b false)))]
def c29_3 : ACode := .seq (.reg r29_2) .ret
def c29_4 : ACode := .cond (.t 15) c29_3 .skip
def c29_5 : ACode := .seq (.reg r29_1) c29_4
def r29_6 : List AOper := [ao 0 18 (.ld 3 true (.t 2)),
  ao 1 19 (.ld 3 true (.t 3)),
  ao 2 20 (.call (.k (.c (.fn 67 []))) [(.t 18), (.t 19)]),
  ao 3 17 (.mv (.t 20)),
  ao 4 21 (.ext 0 (.t 17)),
  ao 5 22 (.ext 1 (.t 17)),
  ao 6 6 (.alloc 26 [(.v (.s (.int .i64 0))), .nil0, .nil0]),
  an 7 (.st 3 (.t 6) (.t 21)),
  ao 8 7 (.mv (.t 22))]
def r29_7 : List AOper := [ao 0 23 (.mv (.t 7)),
  ao 1 24 (.un .not (.t 23)),
  ao 2 25 (.mv (.t 24)),
  ag 3 26 25 false [] (.ld 3 true (.t 6)),
  ag 4 27 25 false [] (.call (.k (.c (.fn 42 []))) [(.t 26)]),
  ag 5 28 25 false [] (.un .not (.t 27)),
  ao 6 29 (.pick (.t 25) (.k (.b true)) (.t 28))]
def r29_8 : List AOper := [ao 0 30 (.build [(.v (.s (.int .i64 0))), .nil0, .nil0] []),
  an 1 (.st 3 (.t 4) (.t 30)),
  ao 2 5 (.mv (.k (.b false)))]
def c29_9 : ACode := .seq (.reg r29_8) .ret
def c29_10 : ACode := .cond (.t 29) c29_9 .skip
def c29_11 : ACode := .seq (.reg r29_7) c29_10
def r29_12 : List AOper := [ao 0 31 (.ld 3 true (.t 6)),
  an 1 (.st 3 (.t 4) (.t 31)),
  ao 2 5 (.mv (.k (.b true)))]
def c29 : ACode := .seq (.reg r29_0) (.seq c29_5 (.seq (.reg r29_6) (.seq c29_11 (.seq (.reg r29_12) .ret))))
def s29 : List ARes := [.cell 4 3 true, .tmp 5]
theorem ok29 : okF Try.prog 29 32 c29 s29 := ⟨Try.f29, Try.func29, Try.ntmps29, by kernel_rfl, by kernel_rfl, by kernel_rfl⟩
theorem UMu_2 : (type_of% (uA c29.eq_1)) ∧ (type_of% (uR r29_0.eq_1)) ∧ (type_of% (uA c29_5.eq_1)) ∧ (type_of% (uR r29_1.eq_1)) ∧ (type_of% (uA c29_4.eq_1)) ∧ (type_of% (uA c29_3.eq_1)) ∧ (type_of% (uR r29_2.eq_1)) ∧ (type_of% (uR r29_6.eq_1)) ∧ (type_of% (uA c29_11.eq_1)) ∧ (type_of% (uR r29_7.eq_1)) ∧ (type_of% (uA c29_10.eq_1)) ∧ (type_of% (uA c29_9.eq_1)) ∧ (type_of% (uR r29_8.eq_1)) ∧ (type_of% (uR r29_12.eq_1)) ∧ (type_of% s29.eq_1) :=
  ⟨uA c29.eq_1, uR r29_0.eq_1, uA c29_5.eq_1, uR r29_1.eq_1, uA c29_4.eq_1, uA c29_3.eq_1, uR r29_2.eq_1, uR r29_6.eq_1, uA c29_11.eq_1, uR r29_7.eq_1, uA c29_10.eq_1, uA c29_9.eq_1, uR r29_8.eq_1, uR r29_12.eq_1, s29.eq_1⟩
theorem kjI_ok (a b : Kd) (ha : KB 2000 a) (hb : KB 2000 b) : ∃ r ok, KJ a b r ok ∧ ACallsF Try.prog 29 [tK a, tK b] [] (tKB (r, ok)) := by
  have e0 := encK_0 0
  have hCa := kindOkI_ok a (ha.le (by omega))
  have hCb := kindOkI_ok b (hb.le (by omega))
  cases h1 : okK a with
  | false =>
    refine ⟨.mk 0 [] [], false, .inr ⟨rfl, rfl, fun g => by rw [h1] at g; cases g⟩, ACallsF.intro ok29 follows fun X c0 => ?_⟩
    rw [h1] at hCa
    simp only [RUN, core, T.c, T.s, T.b, T.i, sBin, sInt, sUn, isShift, asInt, P1.cells, loadT, ptrC, storeT, putC, fillP, Nat.reduceAdd, reduceIte, Nat.reduceEqDiff, Nat.reduceLT, Nat.reduceLeDiff, reduceCtorEq, eq_self, FIT, lendCs_map, verC_map, FinC, resPs, resP, lendPl, lendCs, lendC, sealC, partsT, finHs, tupT, verT, verP, verC, verB, verAt, Blk.ver, handsAre, forall_const, CHT, disj, Nat.reduceBEq, beq_self_eq_true, APT, srcOf, sealPs, sealCs, sealC, List.mem_singleton, forall_eq, ALT, UMu_2, List.length_map, encK_len, takeK, Nat.le_refl]
    refine callC hCa rfl rfl (by simp [closedA, closedP, closedC]) rfl ?_
    simp only [RUN, core, T.c, T.s, T.b, T.i, sBin, sInt, sUn, isShift, asInt, P1.cells, loadT, ptrC, storeT, putC, fillP, Nat.reduceAdd, reduceIte, Nat.reduceEqDiff, Nat.reduceLT, Nat.reduceLeDiff, reduceCtorEq, eq_self, FIT, lendCs_map, verC_map, FinC, resPs, resP, lendPl, lendCs, lendC, sealC, partsT, finHs, tupT, verT, verP, verC, verB, verAt, Blk.ver, handsAre, forall_const, CHT, disj, Nat.reduceBEq, beq_self_eq_true, APT, srcOf, sealPs, sealCs, sealC, List.mem_singleton, forall_eq, ALT, UMu_2, e0]
  | true =>
    rw [h1] at hCa
    cases h2 : okK b with
    | false =>
      refine ⟨.mk 0 [] [], false, .inr ⟨rfl, rfl, fun _ g => by rw [h2] at g; cases g⟩, ACallsF.intro ok29 follows fun X c0 => ?_⟩
      rw [h2] at hCb
      simp only [RUN, core, T.c, T.s, T.b, T.i, sBin, sInt, sUn, isShift, asInt, P1.cells, loadT, ptrC, storeT, putC, fillP, Nat.reduceAdd, reduceIte, Nat.reduceEqDiff, Nat.reduceLT, Nat.reduceLeDiff, reduceCtorEq, eq_self, FIT, lendCs_map, verC_map, FinC, resPs, resP, lendPl, lendCs, lendC, sealC, partsT, finHs, tupT, verT, verP, verC, verB, verAt, Blk.ver, handsAre, forall_const, CHT, disj, Nat.reduceBEq, beq_self_eq_true, APT, srcOf, sealPs, sealCs, sealC, List.mem_singleton, forall_eq, ALT, UMu_2, List.length_map, encK_len, takeK, Nat.le_refl]
      refine callC hCa rfl rfl (by simp [closedA, closedP, closedC]) rfl ?_
      simp only [RUN, core, T.c, T.s, T.b, T.i, sBin, sInt, sUn, isShift, asInt, P1.cells, loadT, ptrC, storeT, putC, fillP, Nat.reduceAdd, reduceIte, Nat.reduceEqDiff, Nat.reduceLT, Nat.reduceLeDiff, reduceCtorEq, eq_self, FIT, lendCs_map, verC_map, FinC, resPs, resP, lendPl, lendCs, lendC, sealC, partsT, finHs, tupT, verT, verP, verC, verB, verAt, Blk.ver, handsAre, forall_const, CHT, disj, Nat.reduceBEq, beq_self_eq_true, APT, srcOf, sealPs, sealCs, sealC, List.mem_singleton, forall_eq, ALT, UMu_2, List.length_map, encK_len, takeK, Nat.le_refl]
      refine callC hCb rfl rfl (by simp [closedA, closedP, closedC]) rfl ?_
      simp only [RUN, core, T.c, T.s, T.b, T.i, sBin, sInt, sUn, isShift, asInt, P1.cells, loadT, ptrC, storeT, putC, fillP, Nat.reduceAdd, reduceIte, Nat.reduceEqDiff, Nat.reduceLT, Nat.reduceLeDiff, reduceCtorEq, eq_self, FIT, lendCs_map, verC_map, FinC, resPs, resP, lendPl, lendCs, lendC, sealC, partsT, finHs, tupT, verT, verP, verC, verB, verAt, Blk.ver, handsAre, forall_const, CHT, disj, Nat.reduceBEq, beq_self_eq_true, APT, srcOf, sealPs, sealCs, sealC, List.mem_singleton, forall_eq, ALT, UMu_2, e0]
    | true =>
      rw [h2] at hCb
      obtain ⟨k, ok, hJ, hB, hC⟩ := joinI_ok a b 1 1 (okK_true.1 h1).1 (okK_true.1 h2).1 (okK_KB h1) (okK_KB h2)
      have hCk := kindOkI_ok k hB
      have pre : ∀ (r : Kd) (o : Bool), (ok = false → r = .mk 0 [] [] ∧ o = false) → (ok = true → okK k = false → r = .mk 0 [] [] ∧ o = false) → (ok = true → okK k = true → r = k ∧ o = true) → ACallsF Try.prog 29 [tK a, tK b] [] (tKB (r, o)) := by
        intro r o hr1 hr2 hr3
        refine ACallsF.intro ok29 follows fun X c0 => ?_
        simp only [RUN, core, T.c, T.s, T.b, T.i, sBin, sInt, sUn, isShift, asInt, P1.cells, loadT, ptrC, storeT, putC, fillP, Nat.reduceAdd, reduceIte, Nat.reduceEqDiff, Nat.reduceLT, Nat.reduceLeDiff, reduceCtorEq, eq_self, FIT, lendCs_map, verC_map, FinC, resPs, resP, lendPl, lendCs, lendC, sealC, partsT, finHs, tupT, verT, verP, verC, verB, verAt, Blk.ver, handsAre, forall_const, CHT, disj, Nat.reduceBEq, beq_self_eq_true, APT, srcOf, sealPs, sealCs, sealC, List.mem_singleton, forall_eq, ALT, UMu_2, List.length_map, encK_len, takeK, Nat.le_refl]
        refine callC hCa rfl rfl (by simp [closedA, closedP, closedC]) rfl ?_
        simp only [RUN, core, T.c, T.s, T.b, T.i, sBin, sInt, sUn, isShift, asInt, P1.cells, loadT, ptrC, storeT, putC, fillP, Nat.reduceAdd, reduceIte, Nat.reduceEqDiff, Nat.reduceLT, Nat.reduceLeDiff, reduceCtorEq, eq_self, FIT, lendCs_map, verC_map, FinC, resPs, resP, lendPl, lendCs, lendC, sealC, partsT, finHs, tupT, verT, verP, verC, verB, verAt, Blk.ver, handsAre, forall_const, CHT, disj, Nat.reduceBEq, beq_self_eq_true, APT, srcOf, sealPs, sealCs, sealC, List.mem_singleton, forall_eq, ALT, UMu_2, List.length_map, encK_len, takeK, Nat.le_refl]
        refine callC hCb rfl rfl (by simp [closedA, closedP, closedC]) rfl ?_
        simp only [RUN, core, T.c, T.s, T.b, T.i, sBin, sInt, sUn, isShift, asInt, P1.cells, loadT, ptrC, storeT, putC, fillP, Nat.reduceAdd, reduceIte, Nat.reduceEqDiff, Nat.reduceLT, Nat.reduceLeDiff, reduceCtorEq, eq_self, FIT, lendCs_map, verC_map, FinC, resPs, resP, lendPl, lendCs, lendC, sealC, partsT, finHs, tupT, verT, verP, verC, verB, verAt, Blk.ver, handsAre, forall_const, CHT, disj, Nat.reduceBEq, beq_self_eq_true, APT, srcOf, sealPs, sealCs, sealC, List.mem_singleton, forall_eq, ALT, UMu_2, List.length_map, encK_len, takeK, Nat.le_refl]
        refine callC hC rfl rfl (by simp [closedA, closedP, closedC]) (by simp [closedT, closedP, closedC]) ?_
        cases ok with
        | false =>
          obtain ⟨rfl, rfl⟩ := hr1 rfl
          simp only [RUN, core, T.c, T.s, T.b, T.i, sBin, sInt, sUn, isShift, asInt, P1.cells, loadT, ptrC, storeT, putC, fillP, Nat.reduceAdd, reduceIte, Nat.reduceEqDiff, Nat.reduceLT, Nat.reduceLeDiff, reduceCtorEq, eq_self, FIT, lendCs_map, verC_map, FinC, resPs, resP, lendPl, lendCs, lendC, sealC, partsT, finHs, tupT, verT, verP, verC, verB, verAt, Blk.ver, handsAre, forall_const, CHT, disj, Nat.reduceBEq, beq_self_eq_true, APT, srcOf, sealPs, sealCs, sealC, List.mem_singleton, forall_eq, ALT, UMu_2, List.length_map, encK_len, takeK, Nat.le_refl, e0]
        | true =>
          simp only [RUN, core, T.c, T.s, T.b, T.i, sBin, sInt, sUn, isShift, asInt, P1.cells, loadT, ptrC, storeT, putC, fillP, Nat.reduceAdd, reduceIte, Nat.reduceEqDiff, Nat.reduceLT, Nat.reduceLeDiff, reduceCtorEq, eq_self, FIT, lendCs_map, verC_map, FinC, resPs, resP, lendPl, lendCs, lendC, sealC, partsT, finHs, tupT, verT, verP, verC, verB, verAt, Blk.ver, handsAre, forall_const, CHT, disj, Nat.reduceBEq, beq_self_eq_true, APT, srcOf, sealPs, sealCs, sealC, List.mem_singleton, forall_eq, ALT, UMu_2, List.length_map, encK_len, takeK, Nat.le_refl]
          refine callC hCk rfl rfl (by simp [closedA, closedP, closedC]) rfl ?_
          cases hk : okK k with
          | false =>
            obtain ⟨rfl, rfl⟩ := hr2 rfl hk
            simp only [RUN, core, T.c, T.s, T.b, T.i, sBin, sInt, sUn, isShift, asInt, P1.cells, loadT, ptrC, storeT, putC, fillP, Nat.reduceAdd, reduceIte, Nat.reduceEqDiff, Nat.reduceLT, Nat.reduceLeDiff, reduceCtorEq, eq_self, FIT, lendCs_map, verC_map, FinC, resPs, resP, lendPl, lendCs, lendC, sealC, partsT, finHs, tupT, verT, verP, verC, verB, verAt, Blk.ver, handsAre, forall_const, CHT, disj, Nat.reduceBEq, beq_self_eq_true, APT, srcOf, sealPs, sealCs, sealC, List.mem_singleton, forall_eq, ALT, UMu_2, List.length_map, encK_len, takeK, Nat.le_refl, e0]
          | true =>
            obtain ⟨rfl, rfl⟩ := hr3 rfl hk
            simp only [RUN, core, T.c, T.s, T.b, T.i, sBin, sInt, sUn, isShift, asInt, P1.cells, loadT, ptrC, storeT, putC, fillP, Nat.reduceAdd, reduceIte, Nat.reduceEqDiff, Nat.reduceLT, Nat.reduceLeDiff, reduceCtorEq, eq_self, FIT, lendCs_map, verC_map, FinC, resPs, resP, lendPl, lendCs, lendC, sealC, partsT, finHs, tupT, verT, verP, verC, verB, verAt, Blk.ver, handsAre, forall_const, CHT, disj, Nat.reduceBEq, beq_self_eq_true, APT, srcOf, sealPs, sealCs, sealC, List.mem_singleton, forall_eq, ALT, UMu_2, List.length_map, encK_len, takeK, Nat.le_refl]
      rcases hJ with ⟨rfl, hJ⟩ | ⟨rfl, hJ⟩
      · cases hk : okK k with
        | true => exact ⟨k, true, .inl ⟨rfl, h1, h2, hJ, hk⟩, pre _ _ (fun h => by cases h) (fun _ h => by rw [hk] at h; cases h) fun _ _ => ⟨rfl, rfl⟩⟩
        | false => exact ⟨.mk 0 [] [], false, .inr ⟨rfl, rfl, fun _ _ k' hk' => by cases jn_det hJ k' hk'; exact hk⟩, pre _ _ (fun h => by cases h) (fun _ _ => ⟨rfl, rfl⟩) fun _ h => by rw [hk] at h; cases h⟩
      · exact ⟨.mk 0 [] [], false, .inr ⟨rfl, rfl, fun _ _ k' hk' => absurd hk' (hJ k')⟩, pre _ _ (fun _ => ⟨rfl, rfl⟩) (fun h => by cases h) fun h => by cases h⟩
end Go.V
set_option linter.unusedSimpArgs false
namespace Go.V
open Go.Proofs
/- loop.example/teagle/laws.ttKind -/
def r32_0 : List AOper := [ao 0 2 (.box 26 (.t 0)),
  ao 1 3 (.box 26 (.t 1)),
  ao 2 4 (.mv (.k (.b false)))]
def r32_1 : List AOper := [ao 0 7 (.fa 0 (.t 2)),
  ao 1 8 (.ld 1 false (.t 7)),
  ao 2 9 (.fa 0 (.t 3)),
  ao 3 10 (.ld 1 false (.t 9)),
  ao 4 11 (.bin .neq (.t 8) (.t 10)),
  ao 5 12 (.mv (.t 11)),
  ag 6 13 12 false [] (.fa 1 (.t 2)),
  ag 7 14 12 false [] (.ld 1 false (.t 13)),
  ag 8 15 12 false [] (.len (.t 14)),
  ag 9 16 12 false [] (.fa 1 (.t 3)),
  ag 10 17 12 false [] (.ld 1 false (.t 16)),
  ag 11 18 12 false [] (.len (.t 17)),
  ag 12 19 12 false [] (.bin .neq (.t 15) (.t 18)),
  ao 13 20 (.pick (.t 12) (.k (.b true)) (.t 19)),
  ao 14 21 (.mv (.t 20)),
  ag 15 22 21 false [] (.fa 2 (.t 2)),
  ag 16 23 21 false [] (.ld 1 false (.t 22)),
  ag 17 24 21 false [] (.len (.t 23)),
  ag 18 25 21 false [] (.fa 2 (.t 3)),
  ag 19 26 21 false [] (.ld 1 false (.t 25)),
  ag 20 27 21 false [] (.len (.t 26)),
  ag 21 28 21 false [] (.bin .neq (.t 24) (.t 27)),
  ao 22 29 (.pick (.t 21) (.k (.b true)) (.t 28))]
def r32_2 : List AOper := [ao 0 4 (.mv (.k (.b false)))]
def c32_3 : ACode := .seq (.reg r32_2) .ret
def c32_4 : ACode := .cond (.t 29) c32_3 .skip
def c32_5 : ACode := .seq (.reg r32_1) c32_4
def r32_6 : List AOper := [ao 0 5 (.mv (.k (.i 0)))]
def r32_7 : List AOper := [ao 0 30 (.mv (.t 5)),
  ao 1 31 (.fa 1 (.t 2)),
  ao 2 32 (.ld 1 false (.t 31)),
  ao 3 33 (.len (.t 32)),
  ao 4 34 (.bin .lss (.t 30) (.t 33))]
def c32_8 : ACode := .cond (.t 34) .skip (.exit 0)
def c32_9 : ACode := .seq (.reg r32_7) c32_8
def r32_10 : List AOper := [ao 0 37 (.fa 1 (.t 2)),
  ao 1 38 (.ld 1 false (.t 37)),
  au 2 39 [0, 1] (.mv (.t 5)),
  ao 3 40 (.ia 1 (.t 38) (.t 39)),
  ao 4 41 (.ld 1 false (.t 40)),
  au 5 42 (ru 5) (.fa 1 (.t 3)),
  au 6 43 (ru 5) (.ld 1 false (.t 42)),
  au 7 44 (ru 7) (.mv (.t 5)),
  au 8 45 (ru 5) (.ia 1 (.t 43) (.t 44)),
  au 9 46 (ru 5) (.ld 1 false (.t 45)),
  ao 10 47 (.bin .neq (.t 41) (.t 46))]
def r32_11 : List AOper := [ao 0 4 (.mv (.k (.b false)))]
def c32_12 : ACode := .seq (.reg r32_11) .ret
def c32_13 : ACode := .cond (.t 47) c32_12 .skip
def c32_14 : ACode := .seq (.reg r32_10) c32_13
def c32_15 : ACode := .block 1 c32_14
def r32_16 : List AOper := [ao 0 35 (.mv (.t 5)),
  ao 1 36 (.bin .add (.t 35) (.k (.i 1))),
  ao 2 5 (.mv (.t 36))]
def c32_17 : ACode := .seq c32_9 (.seq c32_15 (.reg r32_16))
def c32_18 : ACode := .loop c32_17
def c32_19 : ACode := .block 0 c32_18
def c32_20 : ACode := .seq (.reg r32_6) c32_19
def r32_21 : List AOper := [ao 0 6 (.mv (.k (.i 0)))]
def r32_22 : List AOper := [ao 0 48 (.mv (.t 6)),
  ao 1 49 (.fa 2 (.t 2)),
  ao 2 50 (.ld 1 false (.t 49)),
  ao 3 51 (.len (.t 50)),
  ao 4 52 (.bin .lss (.t 48) (.t 51))]
def c32_23 : ACode := .cond (.t 52) .skip (.exit 2)
def c32_24 : ACode := .seq (.reg r32_22) c32_23
def r32_25 : List AOper := [ao 0 55 (.fa 2 (.t 2)),
  ao 1 56 (.ld 1 false (.t 55)),
  au 2 57 [0, 1] (.mv (.t 6)),
  ao 3 58 (.ia 3 (.t 56) (.t 57)),
  ao 4 59 (.ld 3 true (.t 58)),
  au 5 60 (ru 5) (.fa 2 (.t 3)),
  au 6 61 (ru 5) (.ld 1 false (.t 60)),
  au 7 62 (ru 7) (.mv (.t 6)),
  au 8 63 (ru 5) (.ia 3 (.t 61) (.t 62)),
  au 9 64 (ru 5) (.ld 3 true (.t 63)),
  ao 10 65 (.call (.k (.c (.fn 32 []))) [(.t 59), (.t 64)]),
  ao 11 66 (.un .not (.t 65))]
def r32_26 : List AOper := [ao 0 4 (.mv (.k (.b false)))]
def c32_27 : ACode := .seq (.reg r32_26) .ret
def c32_28 : ACode := .cond (.t 66) c32_27 .skip
def c32_29 : ACode := .seq (.reg r32_25) c32_28
def c32_30 : ACode := .block 3 c32_29
def r32_31 : List AOper := [ao 0 53 (.mv (.t 6)),
  ao 1 54 (.bin .add (.t 53) (.k (.i 1))),
  ao 2 6 (.mv (.t 54))]
def c32_32 : ACode := .seq c32_24 (.seq c32_30 (.reg r32_31))
def c32_33 : ACode := .loop c32_32
def c32_34 : ACode := .block 2 c32_33
def c32_35 : ACode := .seq (.reg r32_21) c32_34
def r32_36 : List AOper := [ao 0 4 (.mv (.k (.b true)))]
def c32 : ACode := .seq (.reg r32_0) (.seq c32_5 (.seq c32_20 (.seq c32_35 (.seq (.reg r32_36) .ret))))
def s32 : List ARes := [.tmp 4]
theorem ok32 : okF Try.prog 32 67 c32 s32 := ⟨Try.f32, Try.func32, Try.ntmps32, by kernel_rfl, by kernel_rfl, by kernel_rfl⟩
def inv32 (s : Int) (ns : List ByteArray) (ks : List Kd) (i : Nat) (σ : St) : Prop :=
  (∃ u, σ.t 2 = .c (.ptr 2 u 0) ∧ σ.H 2 = some (.var u 26 [.v (.s (.int .i64 s)), .v (.sl (encS ns)), .v (.sl (encKs ks))])) ∧ (∃ u, σ.t 3 = .c (.ptr 3 u 0) ∧ σ.H 3 = some (.var u 26 [.v (.s (.int .i64 s)), .v (.sl (encS ns)), .v (.sl (encKs ks))])) ∧ σ.t 5 = .i i
def inv32b (s : Int) (ns : List ByteArray) (ks : List Kd) (i : Nat) (σ : St) : Prop :=
  (∃ u, σ.t 2 = .c (.ptr 2 u 0) ∧ σ.H 2 = some (.var u 26 [.v (.s (.int .i64 s)), .v (.sl (encS ns)), .v (.sl (encKs ks))])) ∧ (∃ u, σ.t 3 = .c (.ptr 3 u 0) ∧ σ.H 3 = some (.var u 26 [.v (.s (.int .i64 s)), .v (.sl (encS ns)), .v (.sl (encKs ks))])) ∧ σ.t 6 = .i i
theorem UMv_1 : (type_of% (uA c32.eq_1)) ∧ (type_of% (uR r32_0.eq_1)) ∧ (type_of% (uA c32_5.eq_1)) ∧ (type_of% (uR r32_1.eq_1)) ∧ (type_of% (uA c32_4.eq_1)) ∧ (type_of% (uA c32_3.eq_1)) ∧ (type_of% (uR r32_2.eq_1)) ∧ (type_of% (uA c32_20.eq_1)) ∧ (type_of% (uR r32_6.eq_1)) ∧ (type_of% (uA c32_19.eq_1)) ∧ (type_of% (uA c32_18.eq_1)) ∧ (type_of% (uA c32_35.eq_1)) ∧ (type_of% (uR r32_21.eq_1)) ∧ (type_of% (uA c32_34.eq_1)) ∧ (type_of% (uA c32_33.eq_1)) ∧ (type_of% (uR r32_36.eq_1)) ∧ (type_of% s32.eq_1) :=
  ⟨uA c32.eq_1, uR r32_0.eq_1, uA c32_5.eq_1, uR r32_1.eq_1, uA c32_4.eq_1, uA c32_3.eq_1, uR r32_2.eq_1, uA c32_20.eq_1, uR r32_6.eq_1, uA c32_19.eq_1, uA c32_18.eq_1, uA c32_35.eq_1, uR r32_21.eq_1, uA c32_34.eq_1, uA c32_33.eq_1, uR r32_36.eq_1, s32.eq_1⟩
theorem UMv_2 : (type_of% (uA c32_17.eq_1)) ∧ (type_of% (uA c32_9.eq_1)) ∧ (type_of% (uR r32_7.eq_1)) ∧ (type_of% (uA c32_8.eq_1)) ∧ (type_of% (uA c32_15.eq_1)) ∧ (type_of% (uA c32_14.eq_1)) ∧ (type_of% (uR r32_10.eq_1)) ∧ (type_of% (uA c32_13.eq_1)) ∧ (type_of% (uA c32_12.eq_1)) ∧ (type_of% (uR r32_11.eq_1)) ∧ (type_of% (uR r32_16.eq_1)) ∧ (type_of% (uA c32.eq_1)) ∧ (type_of% (uR r32_0.eq_1)) ∧ (type_of% (uA c32_5.eq_1)) ∧ (type_of% (uR r32_1.eq_1)) ∧ (type_of% (uA c32_4.eq_1)) ∧ (type_of% (uA c32_3.eq_1)) ∧ (type_of% (uR r32_2.eq_1)) ∧ (type_of% (uA c32_20.eq_1)) ∧ (type_of% (uR r32_6.eq_1)) ∧ (type_of% (uA c32_19.eq_1)) ∧ (type_of% (uA c32_18.eq_1)) ∧ (type_of% (uA c32_35.eq_1)) ∧ (type_of% (uR r32_21.eq_1)) ∧ (type_of% (uA c32_34.eq_1)) ∧ (type_of% (uA c32_33.eq_1)) ∧ (type_of% (uR r32_36.eq_1)) ∧ (type_of% s32.eq_1) :=
  ⟨uA c32_17.eq_1, uA c32_9.eq_1, uR r32_7.eq_1, uA c32_8.eq_1, uA c32_15.eq_1, uA c32_14.eq_1, uR r32_10.eq_1, uA c32_13.eq_1, uA c32_12.eq_1, uR r32_11.eq_1, uR r32_16.eq_1, uA c32.eq_1, uR r32_0.eq_1, uA c32_5.eq_1, uR r32_1.eq_1, uA c32_4.eq_1, uA c32_3.eq_1, uR r32_2.eq_1, uA c32_20.eq_1, uR r32_6.eq_1, uA c32_19.eq_1, uA c32_18.eq_1, uA c32_35.eq_1, uR r32_21.eq_1, uA c32_34.eq_1, uA c32_33.eq_1, uR r32_36.eq_1, s32.eq_1⟩
theorem UMv_3 : (type_of% (uA c32_32.eq_1)) ∧ (type_of% (uA c32_24.eq_1)) ∧ (type_of% (uR r32_22.eq_1)) ∧ (type_of% (uA c32_23.eq_1)) ∧ (type_of% (uA c32_30.eq_1)) ∧ (type_of% (uA c32_29.eq_1)) ∧ (type_of% (uR r32_25.eq_1)) ∧ (type_of% (uA c32_28.eq_1)) ∧ (type_of% (uA c32_27.eq_1)) ∧ (type_of% (uR r32_26.eq_1)) ∧ (type_of% (uR r32_31.eq_1)) ∧ (type_of% (uA c32.eq_1)) ∧ (type_of% (uR r32_0.eq_1)) ∧ (type_of% (uA c32_5.eq_1)) ∧ (type_of% (uR r32_1.eq_1)) ∧ (type_of% (uA c32_4.eq_1)) ∧ (type_of% (uA c32_3.eq_1)) ∧ (type_of% (uR r32_2.eq_1)) ∧ (type_of% (uA c32_20.eq_1)) ∧ (type_of% (uR r32_6.eq_1)) ∧ (type_of% (uA c32_19.eq_1)) ∧ (type_of% (uA c32_18.eq_1)) ∧ (type_of% (uA c32_35.eq_1)) ∧ (type_of% (uR r32_21.eq_1)) ∧ (type_of% (uA c32_34.eq_1)) ∧ (type_of% (uA c32_33.eq_1)) ∧ (type_of% (uR r32_36.eq_1)) ∧ (type_of% s32.eq_1) :=
  ⟨uA c32_32.eq_1, uA c32_24.eq_1, uR r32_22.eq_1, uA c32_23.eq_1, uA c32_30.eq_1, uA c32_29.eq_1, uR r32_25.eq_1, uA c32_28.eq_1, uA c32_27.eq_1, uR r32_26.eq_1, uR r32_31.eq_1, uA c32.eq_1, uR r32_0.eq_1, uA c32_5.eq_1, uR r32_1.eq_1, uA c32_4.eq_1, uA c32_3.eq_1, uR r32_2.eq_1, uA c32_20.eq_1, uR r32_6.eq_1, uA c32_19.eq_1, uA c32_18.eq_1, uA c32_35.eq_1, uR r32_21.eq_1, uA c32_34.eq_1, uA c32_33.eq_1, uR r32_36.eq_1, s32.eq_1⟩
theorem ttKind_ok : ∀ (k : Kd), KB 2000 k → ACallsF Try.prog 32 [tK k, tK k] [] (.b true) := by
  intro k
  induction k using Kd.ind with
  | _ s ns ks ih =>
    intro hB
    obtain ⟨b1, b2, b3, b4⟩ := hB.inv
    have e0 : (s != s) = false := by simp
    have e1 : ((ns.length : Int) != ns.length) = false := by simp
    have e2 : ((ks.length : Int) != ks.length) = false := by simp
    refine ACallsF.intro ok32 follows fun X c0 => ?_
    simp only [RUN, core, T.c, T.s, T.b, T.i, sBin, sInt, sUn, isShift, asInt, P1.cells, loadT, ptrC, storeT, putC, fillP, Nat.reduceAdd, reduceIte, Nat.reduceEqDiff, Nat.reduceLT, Nat.reduceLeDiff, reduceCtorEq, eq_self, FIT, lendCs_map, verC_map, FinC, resPs, resP, lendPl, lendCs, lendC, sealC, partsT, finHs, tupT, verT, verP, verC, verB, verAt, Blk.ver, handsAre, forall_const, CHT, disj, Nat.reduceBEq, beq_self_eq_true, APT, srcOf, sealPs, sealCs, sealC, List.mem_singleton, forall_eq, ALT, UMv_1, encK_mk, encS_len, encKs_len, e0, e1, e2]
    refine AW.upto ns.length (inv32 s ns ks) ⟨⟨_, rfl, rfl⟩, ⟨_, rfl, rfl⟩, rfl⟩ fun i t H c hi h => ?_
    obtain ⟨⟨u2, g2, gH2⟩, ⟨u3, g3, gH3⟩, g5⟩ := h
    simp only [T.c, T.i] at g2 gH2 g3 gH3 g5
    by_cases hlt : i < ns.length
    · obtain ⟨x, hx⟩ : ∃ x, ns[i]? = some x := ⟨_, List.getElem?_eq_getElem hlt⟩
      have ex := encS_at hx
      have k1 : (i : Int) < ns.length := by omega
      have gz : (0 : Int) ≤ i := by omega
      have gw : IntKind.i64.wrap ((i : Int) + 1) = ((i + 1 : Nat) : Int) := wrap64 (x := (i : Int) + 1) ⟨by omega, by omega⟩
      have hxx : (x.toList != x.toList) = false := by simp
      simp only [RUN, core, T.c, T.s, T.b, T.i, sBin, sInt, sUn, isShift, asInt, P1.cells, loadT, ptrC, storeT, putC, fillP, Nat.reduceAdd, reduceIte, Nat.reduceEqDiff, Nat.reduceLT, Nat.reduceLeDiff, reduceCtorEq, eq_self, FIT, lendCs_map, verC_map, FinC, resPs, resP, lendPl, lendCs, lendC, sealC, partsT, finHs, tupT, verT, verP, verC, verB, verAt, Blk.ver, handsAre, forall_const, CHT, disj, Nat.reduceBEq, beq_self_eq_true, APT, srcOf, sealPs, sealCs, sealC, List.mem_singleton, forall_eq, ALT, UMv_2, g2, gH2, g3, gH3, g5, encS_len, k1, gz, ex, Int.toNat_natCast, sStr, str_beq, hxx, gw]
      exact ⟨hlt, ⟨u2, g2, gH2⟩, ⟨u3, g3, gH3⟩, rfl⟩
    · have k1 : ¬ (i : Int) < ns.length := by omega
      simp only [RUN, core, T.c, T.s, T.b, T.i, sBin, sInt, sUn, isShift, asInt, P1.cells, loadT, ptrC, storeT, putC, fillP, Nat.reduceAdd, reduceIte, Nat.reduceEqDiff, Nat.reduceLT, Nat.reduceLeDiff, reduceCtorEq, eq_self, FIT, lendCs_map, verC_map, FinC, resPs, resP, lendPl, lendCs, lendC, sealC, partsT, finHs, tupT, verT, verP, verC, verB, verAt, Blk.ver, handsAre, forall_const, CHT, disj, Nat.reduceBEq, beq_self_eq_true, APT, srcOf, sealPs, sealCs, sealC, List.mem_singleton, forall_eq, ALT, UMv_2, UMv_1, g2, gH2, g3, gH3, g5, encS_len, k1]
      refine AW.upto ks.length (inv32b s ns ks) ⟨⟨u2, g2, gH2⟩, ⟨u3, g3, gH3⟩, rfl⟩ fun i t H c hi h => ?_
      clear g2 gH2 g3 gH3 g5
      obtain ⟨⟨u2, g2, gH2⟩, ⟨u3, g3, gH3⟩, g5⟩ := h
      simp only [T.c, T.i] at g2 gH2 g3 gH3 g5
      by_cases hlt : i < ks.length
      · obtain ⟨x, hx⟩ : ∃ x, ks[i]? = some x := ⟨_, List.getElem?_eq_getElem hlt⟩
        have hm := List.mem_of_getElem? hx
        have ex := encKs_at hx
        have k1 : (i : Int) < ks.length := by omega
        have gz : (0 : Int) ≤ i := by omega
        have gw : IntKind.i64.wrap ((i : Int) + 1) = ((i + 1 : Nat) : Int) := wrap64 (x := (i : Int) + 1) ⟨by omega, by omega⟩
        simp only [RUN, core, T.c, T.s, T.b, T.i, sBin, sInt, sUn, isShift, asInt, P1.cells, loadT, ptrC, storeT, putC, fillP, Nat.reduceAdd, reduceIte, Nat.reduceEqDiff, Nat.reduceLT, Nat.reduceLeDiff, reduceCtorEq, eq_self, FIT, lendCs_map, verC_map, FinC, resPs, resP, lendPl, lendCs, lendC, sealC, partsT, finHs, tupT, verT, verP, verC, verB, verAt, Blk.ver, handsAre, forall_const, CHT, disj, Nat.reduceBEq, beq_self_eq_true, APT, srcOf, sealPs, sealCs, sealC, List.mem_singleton, forall_eq, ALT, UMv_3, g2, gH2, g3, gH3, g5, encKs_len, k1, gz, ex, Int.toNat_natCast, List.length_map, encK_len, takeK, Nat.le_refl]
        refine callC (ih x hm (b4 x hm)) rfl rfl (by simp [closedA, closedP, closedC]) rfl ?_
        simp only [RUN, core, T.c, T.s, T.b, T.i, sBin, sInt, sUn, isShift, asInt, P1.cells, loadT, ptrC, storeT, putC, fillP, Nat.reduceAdd, reduceIte, Nat.reduceEqDiff, Nat.reduceLT, Nat.reduceLeDiff, reduceCtorEq, eq_self, FIT, lendCs_map, verC_map, FinC, resPs, resP, lendPl, lendCs, lendC, sealC, partsT, finHs, tupT, verT, verP, verC, verB, verAt, Blk.ver, handsAre, forall_const, CHT, disj, Nat.reduceBEq, beq_self_eq_true, APT, srcOf, sealPs, sealCs, sealC, List.mem_singleton, forall_eq, ALT, UMv_3, g5, gw]
        exact ⟨hlt, ⟨u2, g2, gH2⟩, ⟨u3, g3, gH3⟩, rfl⟩
      · have k1 : ¬ (i : Int) < ks.length := by omega
        simp only [RUN, core, T.c, T.s, T.b, T.i, sBin, sInt, sUn, isShift, asInt, P1.cells, loadT, ptrC, storeT, putC, fillP, Nat.reduceAdd, reduceIte, Nat.reduceEqDiff, Nat.reduceLT, Nat.reduceLeDiff, reduceCtorEq, eq_self, FIT, lendCs_map, verC_map, FinC, resPs, resP, lendPl, lendCs, lendC, sealC, partsT, finHs, tupT, verT, verP, verC, verB, verAt, Blk.ver, handsAre, forall_const, CHT, disj, Nat.reduceBEq, beq_self_eq_true, APT, srcOf, sealPs, sealCs, sealC, List.mem_singleton, forall_eq, ALT, UMv_3, UMv_1, g2, gH2, g3, gH3, g5, encKs_len, k1]
end Go.V
set_option linter.unusedSimpArgs false
namespace Go.V
open Go.Proofs
theorem kj_fits {a b c : Kd} (ha : okK a = true) (hb : okK b = true) (hc : okK c = true) (fa : Fits a c) (fb : Fits b c) : ∃ k, Jn a b k ∧ Fits k c ∧ okK k = true := by
  obtain ⟨c1, c2⟩ := okK_true.1 hc
  obtain ⟨k, h1, h2, h3⟩ := jn_least c a b 1 1 1 (okK_true.1 ha).1 (okK_true.1 hb).1 c1 fa fb
  have h4 := fits_le c k 1 1 h3 c1 h2
  exact ⟨k, h1, h2, okK_true.2 ⟨h3, by omega⟩⟩
/- loop.example/teagle/laws.FnKindJoin -/
def r7_0 : List AOper := [ao 0 4 (.mv (.k (.b false)))]
def r7_1 : List AOper := [ao 0 15 (.mv (.t 0)),
  ao 1 16 (.len (.t 15)),
  ao 2 17 (.bin .gtr (.t 16) (.k (.i 1048576))),
  ao 3 18 (.mv (.t 17)),
  ag 4 19 18 false [] (.mv (.t 1)),
  ag 5 20 18 false [] (.len (.t 19)),
  ag 6 21 18 false [] (.bin .gtr (.t 20) (.k (.i 1048576))),
  ao 7 22 (.pick (.t 18) (.k (.b true)) (.t 21))]
def r7_2 : List AOper := [ao 0 4 (.mv (.k (.b true)))]
def c7_3 : ACode := .seq (.reg r7_2) .ret
def c7_4 : ACode := .cond (.t 22) c7_3 .skip
def c7_5 : ACode := .seq (.reg r7_1) c7_4
def r7_6 : List AOper := [ao 0 24 (.mv (.t 0)),
  ao 1 25 (.call (.k (.c (.fn 31 []))) [(.t 24)]),
  ao 2 23 (.mv (.t 25)),
  ao 3 26 (.ext 0 (.t 23)),
  ao 4 27 (.ext 1 (.t 23)),
  ao 5 5 (.alloc 26 [(.v (.s (.int .i64 0))), .nil0, .nil0]),
  ao 6 6 (.alloc 26 [(.v (.s (.int .i64 0))), .nil0, .nil0]),
  an 7 (.st 3 (.t 5) (.t 26)),
  an 8 (.st 3 (.t 6) (.t 27))]
def r7_7 : List AOper := [ao 0 29 (.ld 3 true (.t 5)),
  ao 1 30 (.ld 3 true (.t 6)),
  ao 2 31 (.call (.k (.c (.fn 28 []))) [(.t 29), (.t 30)]),
  ao 3 28 (.mv (.t 31)),
  ao 4 32 (.ext 0 (.t 28)),
  ao 5 33 (.ext 1 (.t 28)),
  ao 6 7 (.alloc 26 [(.v (.s (.int .i64 0))), .nil0, .nil0]),
  an 7 (.st 3 (.t 7) (.t 32)),
  ao 8 8 (.mv (.t 33))]
def r7_8 : List AOper := [ao 0 35 (.ld 3 true (.t 5)),
  ao 1 36 (.ld 3 true (.t 6)),
  ao 2 37 (.call (.k (.c (.fn 29 []))) [(.t 35), (.t 36)]),
  ao 3 34 (.mv (.t 37)),
  ao 4 38 (.ext 0 (.t 34)),
  ao 5 39 (.ext 1 (.t 34)),
  ao 6 9 (.alloc 26 [(.v (.s (.int .i64 0))), .nil0, .nil0]),
  an 7 (.st 3 (.t 9) (.t 38)),
  ao 8 10 (.mv (.t 39))]
def r7_9 : List AOper := [ao 0 40 (.mv (.t 10)),
  ao 1 41 (.mv (.t 8)),
  ao 2 42 (.binB .neq (.t 40) (.t 41)),
  ao 3 43 (.mv (.t 42)),
  ag 4 44 43 false [] (.ld 3 true (.t 9)),
  ag 5 45 43 false [] (.ld 3 true (.t 7)),
  ag 6 46 43 false [] (.call (.k (.c (.fn 32 []))) [(.t 44), (.t 45)]),
  ag 7 47 43 false [] (.un .not (.t 46)),
  ao 8 48 (.pick (.t 43) (.k (.b true)) (.t 47))]
def r7_10 : List AOper := [ao 0 4 (.mv (.k (.b false)))]
def c7_11 : ACode := .seq (.reg r7_10) .ret
def c7_12 : ACode := .cond (.t 48) c7_11 .skip
def c7_13 : ACode := .seq (.reg r7_9) c7_12
def r7_14 : List AOper := [ao 0 50 (.ld 3 true (.t 6)),
  ao 1 51 (.ld 3 true (.t 5)),
  ao 2 52 (.call (.k (.c (.fn 29 []))) [(.t 50), (.t 51)]),
  ao 3 49 (.mv (.t 52)),
  ao 4 53 (.ext 0 (.t 49)),
  ao 5 54 (.ext 1 (.t 49)),
  ao 6 11 (.alloc 26 [(.v (.s (.int .i64 0))), .nil0, .nil0]),
  an 7 (.st 3 (.t 11) (.t 53)),
  ao 8 12 (.mv (.t 54))]
def r7_15 : List AOper := [ao 0 55 (.mv (.t 12)),
  ao 1 56 (.mv (.t 10)),
  ao 2 57 (.binB .neq (.t 55) (.t 56)),
  ao 3 58 (.mv (.t 57)),
  ag 4 59 58 false [] (.ld 3 true (.t 11)),
  ag 5 60 58 false [] (.ld 3 true (.t 9)),
  ag 6 61 58 false [] (.call (.k (.c (.fn 32 []))) [(.t 59), (.t 60)]),
  ag 7 62 58 false [] (.un .not (.t 61)),
  ao 8 63 (.pick (.t 58) (.k (.b true)) (.t 62))]
def r7_16 : List AOper := [ao 0 4 (.mv (.k (.b false)))]
def c7_17 : ACode := .seq (.reg r7_16) .ret
def c7_18 : ACode := .cond (.t 63) c7_17 .skip
def c7_19 : ACode := .seq (.reg r7_15) c7_18
def r7_20 : List AOper := [ao 0 64 (.ld 3 true (.t 5)),
  ao 1 65 (.mv (.t 1)),
  ao 2 66 (.call (.k (.c (.fn 9 []))) [(.t 64), (.t 65)]),
  ao 3 13 (.alloc 26 [(.v (.s (.int .i64 0))), .nil0, .nil0]),
  an 4 (.st 3 (.t 13) (.t 66))]
def r7_21 : List AOper := [ao 0 67 (.mv (.t 10)),
  ao 1 68 (.un .not (.t 67)),
  ao 2 69 (.mv (.t 68)),
  ag 3 70 69 true [] (.ld 3 true (.t 5)),
  ag 4 71 69 true [] (.ld 3 true (.t 13)),
  ag 5 72 69 true [] (.call (.k (.c (.fn 10 []))) [(.t 70), (.t 71)]),
  ao 6 73 (.pick (.t 69) (.t 72) (.k (.b false))),
  ao 7 74 (.mv (.t 73)),
  ag 8 75 74 true [] (.ld 3 true (.t 6)),
  ag 9 76 74 true [] (.ld 3 true (.t 13)),
  ag 10 77 74 true [] (.call (.k (.c (.fn 10 []))) [(.t 75), (.t 76)]),
  ao 11 78 (.pick (.t 74) (.t 77) (.k (.b false)))]
def r7_22 : List AOper := [ao 0 4 (.mv (.k (.b false)))]
def c7_23 : ACode := .seq (.reg r7_22) .ret
def c7_24 : ACode := .cond (.t 78) c7_23 .skip
def c7_25 : ACode := .seq (.reg r7_21) c7_24
def r7_26 : List AOper := [ao 0 79 (.mv (.t 10)),
  ao 1 80 (.un .not (.t 79))]
def r7_27 : List AOper := [ao 0 81 (.fa 0 (.t 9)),
  ao 1 82 (.ld 1 false (.t 81)),
  ao 2 83 (.bin .eql (.t 82) (.k (.i 0))),
  ao 3 4 (.mv (.t 83))]
def c7_28 : ACode := .seq (.reg r7_27) .ret
def c7_29 : ACode := .cond (.t 80) c7_28 .skip
def c7_30 : ACode := .seq (.reg r7_26) c7_29
def r7_31 : List AOper := [ao 0 84 (.ld 3 true (.t 5)),
  ao 1 85 (.ld 3 true (.t 9)),
  ao 2 86 (.call (.k (.c (.fn 11 []))) [(.t 84), (.t 85)]),
  ao 3 87 (.un .not (.t 86)),
  ao 4 88 (.mv (.t 87)),
  ag 5 89 88 false [] (.ld 3 true (.t 6)),
  ag 6 90 88 false [] (.ld 3 true (.t 9)),
  ag 7 91 88 false [] (.call (.k (.c (.fn 11 []))) [(.t 89), (.t 90)]),
  ag 8 92 88 false [] (.un .not (.t 91)),
  ao 9 93 (.pick (.t 88) (.k (.b true)) (.t 92))]
def r7_32 : List AOper := [ao 0 4 (.mv (.k (.b false)))]
def c7_33 : ACode := .seq (.reg r7_32) .ret
def c7_34 : ACode := .cond (.t 93) c7_33 .skip
def c7_35 : ACode := .seq (.reg r7_31) c7_34
def r7_36 : List AOper := [ao 0 94 (.ld 3 true (.t 7)),
  ao 1 95 (.mv (.t 1)),
  ao 2 96 (.call (.k (.c (.fn 9 []))) [(.t 94), (.t 95)]),
  ao 3 14 (.alloc 26 [(.v (.s (.int .i64 0))), .nil0, .nil0]),
  an 4 (.st 3 (.t 14) (.t 96))]
def r7_37 : List AOper := [ao 0 97 (.ld 3 true (.t 5)),
  ao 1 98 (.ld 3 true (.t 14)),
  ao 2 99 (.call (.k (.c (.fn 10 []))) [(.t 97), (.t 98)]),
  ao 3 100 (.un .not (.t 99)),
  ao 4 101 (.mv (.t 100)),
  ag 5 102 101 false [] (.ld 3 true (.t 6)),
  ag 6 103 101 false [] (.ld 3 true (.t 14)),
  ag 7 104 101 false [] (.call (.k (.c (.fn 10 []))) [(.t 102), (.t 103)]),
  ag 8 105 101 false [] (.un .not (.t 104)),
  ao 9 106 (.pick (.t 101) (.k (.b true)) (.t 105))]
def r7_38 : List AOper := [ao 0 4 (.mv (.k (.b true)))]
def c7_39 : ACode := .seq (.reg r7_38) .ret
def c7_40 : ACode := .cond (.t 106) c7_39 .skip
def c7_41 : ACode := .seq (.reg r7_37) c7_40
def r7_42 : List AOper := [ao 0 107 (.ld 3 true (.t 9)),
  ao 1 108 (.ld 3 true (.t 14)),
  ao 2 109 (.call (.k (.c (.fn 11 []))) [(.t 107), (.t 108)]),
  ao 3 4 (.mv (.t 109))]
def c7 : ACode := .seq (.reg r7_0) (.seq c7_5 (.seq (.reg r7_6) (.seq (.reg r7_7) (.seq (.reg r7_8) (.seq c7_13 (.seq (.reg r7_14) (.seq c7_19 (.seq (.reg r7_20) (.seq c7_25 (.seq c7_30 (.seq c7_35 (.seq (.reg r7_36) (.seq c7_41 (.seq (.reg r7_42) .ret))))))))))))))
def s7 : List ARes := [.tmp 4]
theorem ok7 : okF Try.prog 7 110 c7 s7 := ⟨Try.f7, Try.func7, Try.ntmps7, by kernel_rfl, by kernel_rfl, by kernel_rfl⟩
theorem UNa_1 : (type_of% (uA c7.eq_1)) ∧ (type_of% (uR r7_0.eq_1)) ∧ (type_of% (uA c7_5.eq_1)) ∧ (type_of% (uR r7_1.eq_1)) ∧ (type_of% (uA c7_4.eq_1)) ∧ (type_of% (uA c7_3.eq_1)) ∧ (type_of% (uR r7_2.eq_1)) ∧ (type_of% (uR r7_6.eq_1)) ∧ (type_of% (uR r7_7.eq_1)) ∧ (type_of% (uR r7_8.eq_1)) ∧ (type_of% (uA c7_13.eq_1)) ∧ (type_of% (uR r7_9.eq_1)) ∧ (type_of% (uA c7_12.eq_1)) ∧ (type_of% (uA c7_11.eq_1)) ∧ (type_of% (uR r7_10.eq_1)) ∧ (type_of% (uR r7_14.eq_1)) ∧ (type_of% (uA c7_19.eq_1)) ∧ (type_of% (uR r7_15.eq_1)) ∧ (type_of% (uA c7_18.eq_1)) ∧ (type_of% (uA c7_17.eq_1)) ∧ (type_of% (uR r7_16.eq_1)) ∧ (type_of% (uR r7_20.eq_1)) ∧ (type_of% (uA c7_25.eq_1)) ∧ (type_of% (uR r7_21.eq_1)) ∧ (type_of% (uA c7_24.eq_1)) ∧ (type_of% (uA c7_23.eq_1)) ∧ (type_of% (uR r7_22.eq_1)) ∧ (type_of% (uA c7_30.eq_1)) ∧ (type_of% (uR r7_26.eq_1)) ∧ (type_of% (uA c7_29.eq_1)) ∧ (type_of% (uA c7_28.eq_1)) ∧ (type_of% (uR r7_27.eq_1)) ∧ (type_of% (uA c7_35.eq_1)) ∧ (type_of% (uR r7_31.eq_1)) ∧ (type_of% (uA c7_34.eq_1)) ∧ (type_of% (uA c7_33.eq_1)) ∧ (type_of% (uR r7_32.eq_1)) ∧ (type_of% (uR r7_36.eq_1)) ∧ (type_of% (uA c7_41.eq_1)) ∧ (type_of% (uR r7_37.eq_1)) ∧ (type_of% (uA c7_40.eq_1)) ∧ (type_of% (uA c7_39.eq_1)) ∧ (type_of% (uR r7_38.eq_1)) ∧ (type_of% (uR r7_42.eq_1)) ∧ (type_of% s7.eq_1) :=
  ⟨uA c7.eq_1, uR r7_0.eq_1, uA c7_5.eq_1, uR r7_1.eq_1, uA c7_4.eq_1, uA c7_3.eq_1, uR r7_2.eq_1, uR r7_6.eq_1, uR r7_7.eq_1, uR r7_8.eq_1, uA c7_13.eq_1, uR r7_9.eq_1, uA c7_12.eq_1, uA c7_11.eq_1, uR r7_10.eq_1, uR r7_14.eq_1, uA c7_19.eq_1, uR r7_15.eq_1, uA c7_18.eq_1, uA c7_17.eq_1, uR r7_16.eq_1, uR r7_20.eq_1, uA c7_25.eq_1, uR r7_21.eq_1, uA c7_24.eq_1, uA c7_23.eq_1, uR r7_22.eq_1, uA c7_30.eq_1, uR r7_26.eq_1, uA c7_29.eq_1, uA c7_28.eq_1, uR r7_27.eq_1, uA c7_35.eq_1, uR r7_31.eq_1, uA c7_34.eq_1, uA c7_33.eq_1, uR r7_32.eq_1, uR r7_36.eq_1, uA c7_41.eq_1, uR r7_37.eq_1, uA c7_40.eq_1, uA c7_39.eq_1, uR r7_38.eq_1, uR r7_42.eq_1, s7.eq_1⟩
set_option maxHeartbeats 1000000 in
theorem lawJ_ok (code more : List UInt8) : ACallsF Try.prog 7 [.c (.v (.sl (encB code))), .c (.v (.sl (encB more)))] [] (.b true) := by
  obtain ⟨a, b, hBa, hBb, hCD⟩ := drawJoin_ok code
  obtain ⟨k, ok, hJ, hCS⟩ := kjS_ok a b hBa hBb
  obtain ⟨k2, ok2, hJ2, hCI⟩ := kjI_ok a b hBa hBb
  obtain ⟨k3, ok3, hJ3, hCR⟩ := kjI_ok b a hBb hBa
  obtain ⟨rfl, rfl⟩ := kj_det hJ hJ2
  obtain ⟨rfl, rfl⟩ := kj_det hJ (kj_sym hJ3)
  have hBk := kj_KB hJ
  obtain ⟨w, hBw, hCW⟩ := way_ok more a hBa
  obtain ⟨c, hBc, hCC⟩ := way_ok more k hBk
  have hT := ttKind_ok k hBk
  have S1 := kindFitsS_ok a w hBa hBw
  have S2 := kindFitsS_ok b w hBb hBw
  have I1 := kindFitsI_ok a k hBa hBk
  have I2 := kindFitsI_ok b k hBb hBk
  have S3 := kindFitsS_ok a c hBa hBc
  have S4 := kindFitsS_ok b c hBb hBc
  have I3 := kindFitsI_ok k c hBk hBc
  have eok : (ok != ok) = false := by cases ok <;> rfl
  refine ACallsF.intro ok7 follows fun X c0 => ?_
  by_cases hl1 : (code.length : Int) > 1048576
  · simp only [RUN, core, T.c, T.s, T.b, T.i, sBin, sInt, sUn, isShift, asInt, P1.cells, loadT, ptrC, storeT, putC, fillP, Nat.reduceAdd, reduceIte, Nat.reduceEqDiff, Nat.reduceLT, Nat.reduceLeDiff, reduceCtorEq, eq_self, FIT, lendCs_map, verC_map, FinC, resPs, resP, lendPl, lendCs, lendC, sealC, partsT, finHs, tupT, verT, verP, verC, verB, verAt, Blk.ver, handsAre, forall_const, CHT, disj, Nat.reduceBEq, beq_self_eq_true, APT, srcOf, sealPs, sealCs, sealC, List.mem_singleton, forall_eq, ALT, UNa_1, encB_len, hl1]
  by_cases hl2 : (more.length : Int) > 1048576
  · simp only [RUN, core, T.c, T.s, T.b, T.i, sBin, sInt, sUn, isShift, asInt, P1.cells, loadT, ptrC, storeT, putC, fillP, Nat.reduceAdd, reduceIte, Nat.reduceEqDiff, Nat.reduceLT, Nat.reduceLeDiff, reduceCtorEq, eq_self, FIT, lendCs_map, verC_map, FinC, resPs, resP, lendPl, lendCs, lendC, sealC, partsT, finHs, tupT, verT, verP, verC, verB, verAt, Blk.ver, handsAre, forall_const, CHT, disj, Nat.reduceBEq, beq_self_eq_true, APT, srcOf, sealPs, sealCs, sealC, List.mem_singleton, forall_eq, ALT, UNa_1, encB_len, hl1, hl2]
  simp only [RUN, core, T.c, T.s, T.b, T.i, sBin, sInt, sUn, isShift, asInt, P1.cells, loadT, ptrC, storeT, putC, fillP, Nat.reduceAdd, reduceIte, Nat.reduceEqDiff, Nat.reduceLT, Nat.reduceLeDiff, reduceCtorEq, eq_self, FIT, lendCs_map, verC_map, FinC, resPs, resP, lendPl, lendCs, lendC, sealC, partsT, finHs, tupT, verT, verP, verC, verB, verAt, Blk.ver, handsAre, forall_const, CHT, disj, Nat.reduceBEq, beq_self_eq_true, APT, srcOf, sealPs, sealCs, sealC, List.mem_singleton, forall_eq, ALT, UNa_1, encB_len, hl1, hl2]
  refine callC hCD rfl rfl (by simp [closedA, closedP, closedC]) (by simp [closedT, closedP, closedC]) ?_
  simp only [RUN, core, T.c, T.s, T.b, T.i, sBin, sInt, sUn, isShift, asInt, P1.cells, loadT, ptrC, storeT, putC, fillP, Nat.reduceAdd, reduceIte, Nat.reduceEqDiff, Nat.reduceLT, Nat.reduceLeDiff, reduceCtorEq, eq_self, FIT, lendCs_map, verC_map, FinC, resPs, resP, lendPl, lendCs, lendC, sealC, partsT, finHs, tupT, verT, verP, verC, verB, verAt, Blk.ver, handsAre, forall_const, CHT, disj, Nat.reduceBEq, beq_self_eq_true, APT, srcOf, sealPs, sealCs, sealC, List.mem_singleton, forall_eq, ALT, UNa_1, List.length_map, encK_len, takeK, Nat.le_refl]
  refine callC hCS rfl rfl (by simp [closedA, closedP, closedC]) (by simp [closedT, closedP, closedC]) ?_
  simp only [RUN, core, T.c, T.s, T.b, T.i, sBin, sInt, sUn, isShift, asInt, P1.cells, loadT, ptrC, storeT, putC, fillP, Nat.reduceAdd, reduceIte, Nat.reduceEqDiff, Nat.reduceLT, Nat.reduceLeDiff, reduceCtorEq, eq_self, FIT, lendCs_map, verC_map, FinC, resPs, resP, lendPl, lendCs, lendC, sealC, partsT, finHs, tupT, verT, verP, verC, verB, verAt, Blk.ver, handsAre, forall_const, CHT, disj, Nat.reduceBEq, beq_self_eq_true, APT, srcOf, sealPs, sealCs, sealC, List.mem_singleton, forall_eq, ALT, UNa_1, List.length_map, encK_len, takeK, Nat.le_refl]
  refine callC hCI rfl rfl (by simp [closedA, closedP, closedC]) (by simp [closedT, closedP, closedC]) ?_
  simp only [RUN, core, T.c, T.s, T.b, T.i, sBin, sInt, sUn, isShift, asInt, P1.cells, loadT, ptrC, storeT, putC, fillP, Nat.reduceAdd, reduceIte, Nat.reduceEqDiff, Nat.reduceLT, Nat.reduceLeDiff, reduceCtorEq, eq_self, FIT, lendCs_map, verC_map, FinC, resPs, resP, lendPl, lendCs, lendC, sealC, partsT, finHs, tupT, verT, verP, verC, verB, verAt, Blk.ver, handsAre, forall_const, CHT, disj, Nat.reduceBEq, beq_self_eq_true, APT, srcOf, sealPs, sealCs, sealC, List.mem_singleton, forall_eq, ALT, UNa_1, List.length_map, encK_len, takeK, Nat.le_refl, eok]
  refine callC hT rfl rfl (by simp [closedA, closedP, closedC]) rfl ?_
  simp only [RUN, core, T.c, T.s, T.b, T.i, sBin, sInt, sUn, isShift, asInt, P1.cells, loadT, ptrC, storeT, putC, fillP, Nat.reduceAdd, reduceIte, Nat.reduceEqDiff, Nat.reduceLT, Nat.reduceLeDiff, reduceCtorEq, eq_self, FIT, lendCs_map, verC_map, FinC, resPs, resP, lendPl, lendCs, lendC, sealC, partsT, finHs, tupT, verT, verP, verC, verB, verAt, Blk.ver, handsAre, forall_const, CHT, disj, Nat.reduceBEq, beq_self_eq_true, APT, srcOf, sealPs, sealCs, sealC, List.mem_singleton, forall_eq, ALT, UNa_1, List.length_map, encK_len, takeK, Nat.le_refl]
  refine callC hCR rfl rfl (by simp [closedA, closedP, closedC]) (by simp [closedT, closedP, closedC]) ?_
  simp only [RUN, core, T.c, T.s, T.b, T.i, sBin, sInt, sUn, isShift, asInt, P1.cells, loadT, ptrC, storeT, putC, fillP, Nat.reduceAdd, reduceIte, Nat.reduceEqDiff, Nat.reduceLT, Nat.reduceLeDiff, reduceCtorEq, eq_self, FIT, lendCs_map, verC_map, FinC, resPs, resP, lendPl, lendCs, lendC, sealC, partsT, finHs, tupT, verT, verP, verC, verB, verAt, Blk.ver, handsAre, forall_const, CHT, disj, Nat.reduceBEq, beq_self_eq_true, APT, srcOf, sealPs, sealCs, sealC, List.mem_singleton, forall_eq, ALT, UNa_1, List.length_map, encK_len, takeK, Nat.le_refl, eok]
  refine callC hT rfl rfl (by simp [closedA, closedP, closedC]) rfl ?_
  simp only [RUN, core, T.c, T.s, T.b, T.i, sBin, sInt, sUn, isShift, asInt, P1.cells, loadT, ptrC, storeT, putC, fillP, Nat.reduceAdd, reduceIte, Nat.reduceEqDiff, Nat.reduceLT, Nat.reduceLeDiff, reduceCtorEq, eq_self, FIT, lendCs_map, verC_map, FinC, resPs, resP, lendPl, lendCs, lendC, sealC, partsT, finHs, tupT, verT, verP, verC, verB, verAt, Blk.ver, handsAre, forall_const, CHT, disj, Nat.reduceBEq, beq_self_eq_true, APT, srcOf, sealPs, sealCs, sealC, List.mem_singleton, forall_eq, ALT, UNa_1, List.length_map, encK_len, takeK, Nat.le_refl]
  refine callC hCW rfl rfl (by simp [closedA, closedP, closedC]) (closed_map _) ?_
  simp only [RUN, core, T.c, T.s, T.b, T.i, sBin, sInt, sUn, isShift, asInt, P1.cells, loadT, ptrC, storeT, putC, fillP, Nat.reduceAdd, reduceIte, Nat.reduceEqDiff, Nat.reduceLT, Nat.reduceLeDiff, reduceCtorEq, eq_self, FIT, lendCs_map, verC_map, FinC, resPs, resP, lendPl, lendCs, lendC, sealC, partsT, finHs, tupT, verT, verP, verC, verB, verAt, Blk.ver, handsAre, forall_const, CHT, disj, Nat.reduceBEq, beq_self_eq_true, APT, srcOf, sealPs, sealCs, sealC, List.mem_singleton, forall_eq, ALT, UNa_1, List.length_map, encK_len, takeK, Nat.le_refl]
  rcases hJ with ⟨rfl, ha, hb, hj, hk⟩ | ⟨rfl, rfl, hno⟩
  · have fa := jn_up hj 1 (okK_true.1 ha).1
    have fb := jn_up (jn_sym hj) 1 (okK_true.1 hb).1
    rw [ha, hk, fits_true.2 fa] at I1
    rw [hb, hk, fits_true.2 fb] at I2
    simp only [RUN, core, T.c, T.s, T.b, T.i, sBin, sInt, sUn, isShift, asInt, P1.cells, loadT, ptrC, storeT, putC, fillP, Nat.reduceAdd, reduceIte, Nat.reduceEqDiff, Nat.reduceLT, Nat.reduceLeDiff, reduceCtorEq, eq_self, FIT, lendCs_map, verC_map, FinC, resPs, resP, lendPl, lendCs, lendC, sealC, partsT, finHs, tupT, verT, verP, verC, verB, verAt, Blk.ver, handsAre, forall_const, CHT, disj, Nat.reduceBEq, beq_self_eq_true, APT, srcOf, sealPs, sealCs, sealC, List.mem_singleton, forall_eq, ALT, UNa_1, List.length_map, encK_len, takeK, Nat.le_refl]
    refine callC I1 rfl rfl (by simp [closedA, closedP, closedC]) rfl ?_
    simp only [RUN, core, T.c, T.s, T.b, T.i, sBin, sInt, sUn, isShift, asInt, P1.cells, loadT, ptrC, storeT, putC, fillP, Nat.reduceAdd, reduceIte, Nat.reduceEqDiff, Nat.reduceLT, Nat.reduceLeDiff, reduceCtorEq, eq_self, FIT, lendCs_map, verC_map, FinC, resPs, resP, lendPl, lendCs, lendC, sealC, partsT, finHs, tupT, verT, verP, verC, verB, verAt, Blk.ver, handsAre, forall_const, CHT, disj, Nat.reduceBEq, beq_self_eq_true, APT, srcOf, sealPs, sealCs, sealC, List.mem_singleton, forall_eq, ALT, UNa_1, List.length_map, encK_len, takeK, Nat.le_refl]
    refine callC I2 rfl rfl (by simp [closedA, closedP, closedC]) rfl ?_
    simp only [RUN, core, T.c, T.s, T.b, T.i, sBin, sInt, sUn, isShift, asInt, P1.cells, loadT, ptrC, storeT, putC, fillP, Nat.reduceAdd, reduceIte, Nat.reduceEqDiff, Nat.reduceLT, Nat.reduceLeDiff, reduceCtorEq, eq_self, FIT, lendCs_map, verC_map, FinC, resPs, resP, lendPl, lendCs, lendC, sealC, partsT, finHs, tupT, verT, verP, verC, verB, verAt, Blk.ver, handsAre, forall_const, CHT, disj, Nat.reduceBEq, beq_self_eq_true, APT, srcOf, sealPs, sealCs, sealC, List.mem_singleton, forall_eq, ALT, UNa_1, List.length_map, encK_len, takeK, Nat.le_refl]
    refine callC hCC rfl rfl (by simp [closedA, closedP, closedC]) (closed_map _) ?_
    simp only [RUN, core, T.c, T.s, T.b, T.i, sBin, sInt, sUn, isShift, asInt, P1.cells, loadT, ptrC, storeT, putC, fillP, Nat.reduceAdd, reduceIte, Nat.reduceEqDiff, Nat.reduceLT, Nat.reduceLeDiff, reduceCtorEq, eq_self, FIT, lendCs_map, verC_map, FinC, resPs, resP, lendPl, lendCs, lendC, sealC, partsT, finHs, tupT, verT, verP, verC, verB, verAt, Blk.ver, handsAre, forall_const, CHT, disj, Nat.reduceBEq, beq_self_eq_true, APT, srcOf, sealPs, sealCs, sealC, List.mem_singleton, forall_eq, ALT, UNa_1, List.length_map, encK_len, takeK, Nat.le_refl]
    refine callC S3 rfl rfl (by simp [closedA, closedP, closedC]) rfl ?_
    cases h3 : (okK a && (okK c && fits a c)) with
    | false => simp only [RUN, core, T.c, T.s, T.b, T.i, sBin, sInt, sUn, isShift, asInt, P1.cells, loadT, ptrC, storeT, putC, fillP, Nat.reduceAdd, reduceIte, Nat.reduceEqDiff, Nat.reduceLT, Nat.reduceLeDiff, reduceCtorEq, eq_self, FIT, lendCs_map, verC_map, FinC, resPs, resP, lendPl, lendCs, lendC, sealC, partsT, finHs, tupT, verT, verP, verC, verB, verAt, Blk.ver, handsAre, forall_const, CHT, disj, Nat.reduceBEq, beq_self_eq_true, APT, srcOf, sealPs, sealCs, sealC, List.mem_singleton, forall_eq, ALT, UNa_1, List.length_map, encK_len, takeK, Nat.le_refl]
    | true =>
      simp only [RUN, core, T.c, T.s, T.b, T.i, sBin, sInt, sUn, isShift, asInt, P1.cells, loadT, ptrC, storeT, putC, fillP, Nat.reduceAdd, reduceIte, Nat.reduceEqDiff, Nat.reduceLT, Nat.reduceLeDiff, reduceCtorEq, eq_self, FIT, lendCs_map, verC_map, FinC, resPs, resP, lendPl, lendCs, lendC, sealC, partsT, finHs, tupT, verT, verP, verC, verB, verAt, Blk.ver, handsAre, forall_const, CHT, disj, Nat.reduceBEq, beq_self_eq_true, APT, srcOf, sealPs, sealCs, sealC, List.mem_singleton, forall_eq, ALT, UNa_1, List.length_map, encK_len, takeK, Nat.le_refl]
      refine callC S4 rfl rfl (by simp [closedA, closedP, closedC]) rfl ?_
      cases h4 : (okK b && (okK c && fits b c)) with
      | false => simp only [RUN, core, T.c, T.s, T.b, T.i, sBin, sInt, sUn, isShift, asInt, P1.cells, loadT, ptrC, storeT, putC, fillP, Nat.reduceAdd, reduceIte, Nat.reduceEqDiff, Nat.reduceLT, Nat.reduceLeDiff, reduceCtorEq, eq_self, FIT, lendCs_map, verC_map, FinC, resPs, resP, lendPl, lendCs, lendC, sealC, partsT, finHs, tupT, verT, verP, verC, verB, verAt, Blk.ver, handsAre, forall_const, CHT, disj, Nat.reduceBEq, beq_self_eq_true, APT, srcOf, sealPs, sealCs, sealC, List.mem_singleton, forall_eq, ALT, UNa_1, List.length_map, encK_len, takeK, Nat.le_refl]
      | true =>
        simp only [Bool.and_eq_true] at h3 h4
        obtain ⟨_, hc, f3⟩ := h3
        obtain ⟨_, _, f4⟩ := h4
        obtain ⟨k', j1, j2, j3⟩ := kj_fits ha hb hc (fits_true.1 f3) (fits_true.1 f4)
        cases jn_det hj k' j1
        rw [hk, hc, fits_true.2 j2] at I3
        simp only [RUN, core, T.c, T.s, T.b, T.i, sBin, sInt, sUn, isShift, asInt, P1.cells, loadT, ptrC, storeT, putC, fillP, Nat.reduceAdd, reduceIte, Nat.reduceEqDiff, Nat.reduceLT, Nat.reduceLeDiff, reduceCtorEq, eq_self, FIT, lendCs_map, verC_map, FinC, resPs, resP, lendPl, lendCs, lendC, sealC, partsT, finHs, tupT, verT, verP, verC, verB, verAt, Blk.ver, handsAre, forall_const, CHT, disj, Nat.reduceBEq, beq_self_eq_true, APT, srcOf, sealPs, sealCs, sealC, List.mem_singleton, forall_eq, ALT, UNa_1, List.length_map, encK_len, takeK, Nat.le_refl]
        refine callC I3 rfl rfl (by simp [closedA, closedP, closedC]) rfl ?_
        simp only [RUN, core, T.c, T.s, T.b, T.i, sBin, sInt, sUn, isShift, asInt, P1.cells, loadT, ptrC, storeT, putC, fillP, Nat.reduceAdd, reduceIte, Nat.reduceEqDiff, Nat.reduceLT, Nat.reduceLeDiff, reduceCtorEq, eq_self, FIT, lendCs_map, verC_map, FinC, resPs, resP, lendPl, lendCs, lendC, sealC, partsT, finHs, tupT, verT, verP, verC, verB, verAt, Blk.ver, handsAre, forall_const, CHT, disj, Nat.reduceBEq, beq_self_eq_true, APT, srcOf, sealPs, sealCs, sealC, List.mem_singleton, forall_eq, ALT, UNa_1, List.length_map, encK_len, takeK, Nat.le_refl]
  · have e0 := encK_0 0
    cases h1 : (okK a && (okK w && fits a w)) with
    | false =>
      rw [h1] at S1
      simp only [RUN, core, T.c, T.s, T.b, T.i, sBin, sInt, sUn, isShift, asInt, P1.cells, loadT, ptrC, storeT, putC, fillP, Nat.reduceAdd, reduceIte, Nat.reduceEqDiff, Nat.reduceLT, Nat.reduceLeDiff, reduceCtorEq, eq_self, FIT, lendCs_map, verC_map, FinC, resPs, resP, lendPl, lendCs, lendC, sealC, partsT, finHs, tupT, verT, verP, verC, verB, verAt, Blk.ver, handsAre, forall_const, CHT, disj, Nat.reduceBEq, beq_self_eq_true, APT, srcOf, sealPs, sealCs, sealC, List.mem_singleton, forall_eq, ALT, UNa_1, List.length_map, encK_len, takeK, Nat.le_refl]
      refine callC S1 rfl rfl (by simp [closedA, closedP, closedC]) rfl ?_
      simp only [RUN, core, T.c, T.s, T.b, T.i, sBin, sInt, sUn, isShift, asInt, P1.cells, loadT, ptrC, storeT, putC, fillP, Nat.reduceAdd, reduceIte, Nat.reduceEqDiff, Nat.reduceLT, Nat.reduceLeDiff, reduceCtorEq, eq_self, FIT, lendCs_map, verC_map, FinC, resPs, resP, lendPl, lendCs, lendC, sealC, partsT, finHs, tupT, verT, verP, verC, verB, verAt, Blk.ver, handsAre, forall_const, CHT, disj, Nat.reduceBEq, beq_self_eq_true, APT, srcOf, sealPs, sealCs, sealC, List.mem_singleton, forall_eq, ALT, UNa_1, List.length_map, encK_len, takeK, Nat.le_refl, e0, Int.reduceBEq]
    | true =>
      rw [h1] at S1
      simp only [RUN, core, T.c, T.s, T.b, T.i, sBin, sInt, sUn, isShift, asInt, P1.cells, loadT, ptrC, storeT, putC, fillP, Nat.reduceAdd, reduceIte, Nat.reduceEqDiff, Nat.reduceLT, Nat.reduceLeDiff, reduceCtorEq, eq_self, FIT, lendCs_map, verC_map, FinC, resPs, resP, lendPl, lendCs, lendC, sealC, partsT, finHs, tupT, verT, verP, verC, verB, verAt, Blk.ver, handsAre, forall_const, CHT, disj, Nat.reduceBEq, beq_self_eq_true, APT, srcOf, sealPs, sealCs, sealC, List.mem_singleton, forall_eq, ALT, UNa_1, List.length_map, encK_len, takeK, Nat.le_refl]
      refine callC S1 rfl rfl (by simp [closedA, closedP, closedC]) rfl ?_
      simp only [RUN, core, T.c, T.s, T.b, T.i, sBin, sInt, sUn, isShift, asInt, P1.cells, loadT, ptrC, storeT, putC, fillP, Nat.reduceAdd, reduceIte, Nat.reduceEqDiff, Nat.reduceLT, Nat.reduceLeDiff, reduceCtorEq, eq_self, FIT, lendCs_map, verC_map, FinC, resPs, resP, lendPl, lendCs, lendC, sealC, partsT, finHs, tupT, verT, verP, verC, verB, verAt, Blk.ver, handsAre, forall_const, CHT, disj, Nat.reduceBEq, beq_self_eq_true, APT, srcOf, sealPs, sealCs, sealC, List.mem_singleton, forall_eq, ALT, UNa_1, List.length_map, encK_len, takeK, Nat.le_refl]
      cases h2 : (okK b && (okK w && fits b w)) with
      | false =>
        rw [h2] at S2
        refine callC S2 rfl rfl (by simp [closedA, closedP, closedC]) rfl ?_
        simp only [RUN, core, T.c, T.s, T.b, T.i, sBin, sInt, sUn, isShift, asInt, P1.cells, loadT, ptrC, storeT, putC, fillP, Nat.reduceAdd, reduceIte, Nat.reduceEqDiff, Nat.reduceLT, Nat.reduceLeDiff, reduceCtorEq, eq_self, FIT, lendCs_map, verC_map, FinC, resPs, resP, lendPl, lendCs, lendC, sealC, partsT, finHs, tupT, verT, verP, verC, verB, verAt, Blk.ver, handsAre, forall_const, CHT, disj, Nat.reduceBEq, beq_self_eq_true, APT, srcOf, sealPs, sealCs, sealC, List.mem_singleton, forall_eq, ALT, UNa_1, List.length_map, encK_len, takeK, Nat.le_refl, e0, Int.reduceBEq]
      | true =>
        simp only [Bool.and_eq_true] at h1 h2
        obtain ⟨ha, hw, f1⟩ := h1
        obtain ⟨hb, _, f2⟩ := h2
        obtain ⟨k', j1, j2, j3⟩ := kj_fits ha hb hw (fits_true.1 f1) (fits_true.1 f2)
        rw [hno ha hb k' j1] at j3; cases j3
end Go.V

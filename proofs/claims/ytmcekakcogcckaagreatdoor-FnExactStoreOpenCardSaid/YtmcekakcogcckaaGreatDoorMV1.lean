/- The program's StoreOpen returns what the reference's returns, for every disk: no condition but the ones of the given statement. -/
import Derived.Test.YtmcekakcogcckaaGreatDoorMV0
import Derived.Lib.AppendStr
import Derived.Lib.ConvBytes
namespace Go.V
section
variable {P : Program} {a : Act} {o : Oper} {w : World} {L : Locs} {U : Nat → Prop} {t : Nat → T} {ver : Nat}

theorem TsRep.cons {imm : Imm} {H : HMap} {x : Value} {xs : List Value} {y : T} {ys : List T} (h : TsRep w imm H L U (x :: xs) (y :: ys)) : TRep w imm H L U x y ∧ TsRep w imm H L U xs ys :=
  ⟨h.2 0 x y rfl rfl, by have := h.1; simpa using this, fun k u z hu hz => h.2 (k + 1) u z (by simpa using hu) (by simpa using hz)⟩

theorem sealPs_ok {H0 : HMap} {st : Nat} : ∀ {ts : List T} {imm : Imm} {H : HMap} (_ : HOk w imm H L U) (_ : SameA H0 H) {xs : List Value} {es : List (List V)} {ws : List (Nat × Blk)} {ns : List Nat}
    (_ : sealPs H0 st ts = some (es, ws, ns)) (_ : TsRep w imm H L U xs ts), ∃ imm', Sealed w imm H L U H0 (updH H ws) imm' ∧ es.length = ts.length ∧ (∀ e ∈ es, e.length = st) ∧ ∀ (i : Nat) x e, xs[i]? = some x → es[i]? = some e → VsOf w imm' x.cells.toList e
  | [], imm, H, hH, hs, xs, es, ws, ns, h, hc => by
    simp [sealPs] at h
    obtain ⟨rfl, rfl, rfl⟩ := h
    exact ⟨imm, ⟨hH, Ext.refl _ _ _ _, hs, Step.refl _ _ _, Near.refl _ _ _⟩, rfl, fun e he => by simp at he, fun i x e _ he => by simp at he⟩
  | y :: ts, imm, H, hH, hs, xs, es, ws, ns, h, hc => by
    unfold sealPs at h
    split at h
    · cases ‹y :: ts = []›
    · rename_i p ts' heq
      cases heq
      split at h
      · rename_i v w1 n1 vs' w2 n2 h1 h2
        split at h
        · rename_i hlen
          simp only [Option.some.injEq, Prod.mk.injEq] at h
          obtain ⟨rfl, rfl, rfl⟩ := h
          cases xs with
          | nil => have := hc.1; simp at this
          | cons x xs =>
            obtain ⟨hx, hxs⟩ := hc.cons
            have hx : PRep w imm H L U x p := hx
            obtain ⟨imm1, S1, V1⟩ := sealCs_ok hH hs h1 hx.cells
            have hxs' : TsRep w imm1 (updH H w1) L U xs ts := ⟨hxs.1, fun k u z hu hz => (hxs.2 k u z hu hz).mono (fun b o h => ⟨(S1.step.keep b o h).1, rfl⟩) S1.ext⟩
            obtain ⟨imm2, S2, l2, a2, V2⟩ := sealPs_ok S1.hok S1.same h2 hxs'
            refine ⟨imm2, ?_, by simp [l2], ?_, ?_⟩
            · rw [updH_append]; exact S1.trans S2
            · intro e he
              rcases List.mem_cons.1 he with rfl | he
              · exact hlen
              · exact a2 e he
            · intro i u e hu he
              cases i with
              | zero =>
                simp at hu he; subst hu; subst he
                exact ⟨V1.1, fun k q r hq hr => (V1.2 k q r hq hr).mono fun b o h => ⟨(S2.step.keep b o h).1, rfl⟩⟩
              | succ i => exact V2 i u e (by simpa using hu) (by simpa using he)
        · cases h
      · cases h
    · cases h

/-- Parts, numbered from k on. -/
def numbered (k : Nat) : List Value → List (Nat × Value)
  | [] => []
  | x :: xs => (k, x) :: numbered (k + 1) xs

theorem cElems_ok {imm : Imm} {H : HMap} (hT : ∀ i, TRep w imm H L U (a.tmps.getD i undef) (t i)) : ∀ {ps : List (Nat × Operand)} {k : Nat} {qs : List Opd}, cElems k ps = some qs →
    (ps.map fun (i, x) => (i, a.eval x)) = numbered k (ps.map fun p => a.eval p.2) ∧ TsRep w imm H L U (ps.map fun p => a.eval p.2) (qs.map (ev t))
  | [], k, qs, h => by simp [cElems] at h; subst h; exact ⟨rfl, rfl, fun k x y hx => by simp at hx⟩
  | (i, x) :: ps, k, qs, h => by
    simp only [cElems] at h
    split at h
    · rename_i hik
      subst hik
      split at h
      · rename_i y qs' h1 h2
        cases h
        obtain ⟨h3, h4⟩ := cElems_ok hT h2
        refine ⟨by simp [numbered, h3], by simp [h4.1], fun q u z hu hz => ?_⟩
        cases q with
        | zero => simp at hu hz; subst hu; subst hz; exact cOpd_ok hT h1
        | succ q => exact h4.2 q u z (by simpa using hu) (by simpa using hz)
      · cases h
    · cases h

theorem foldl_set (off : Nat) : ∀ (l : List Value) (k : Nat) (arr : Array Value), off + k + l.length ≤ arr.size →
    (((l.zipIdx k).foldl (fun cs (x : Value × Nat) => cs.setIfInBounds (off + x.2) x.1) arr).toList) = arr.toList.take (off + k) ++ l ++ arr.toList.drop (off + k + l.length) := by
  intro l
  induction l with
  | nil => intro k arr _; simp
  | cons v l ih =>
    intro k arr hle
    simp only [List.length_cons] at hle
    rw [List.zipIdx_cons, List.foldl_cons, ih (k + 1) _ (by simp; omega)]
    simp only [Array.toList_setIfInBounds]
    have e := list_seg_step arr.toList (off + k) v l (by simp; omega)
    simp only [List.length_cons]
    rw [← e]
    congr 3

theorem fillE (st : Nat) : ∀ (xs : List Value) (k : Nat) (cur : Array Value), (∀ x ∈ xs, x.cells.size = st) → (k + xs.length) * st ≤ cur.size →
    ∃ cur' : Array Value, Instr.fill (fun i => some (i * st, st)) cur (numbered k xs) = some cur' ∧ cur'.size = cur.size ∧ (∀ p, p < k * st → cur'[p]? = cur[p]?) ∧
      ∀ (i : Nat) x, xs[i]? = some x → ∀ (j : Nat) u, x.cells.toList[j]? = some u → cur'[(k + i) * st + j]? = some u
  | [], k, cur, _, _ => ⟨cur, by simp [numbered, Instr.fill], rfl, fun _ _ => rfl, fun i x hx => by simp at hx⟩
  | x :: xs, k, cur, hl, hsz => by
    have hx : x.cells.size = st := hl x (by simp)
    have e1 : (k + (x :: xs).length) * st = (k + 1 + xs.length) * st := by simp only [List.length_cons]; congr 1; omega
    have e2 : (k + 1) * st ≤ cur.size := Nat.le_trans (Nat.mul_le_mul_right st (by simp only [List.length_cons]; omega)) hsz
    rw [Nat.succ_mul] at e2
    let cur1 : Array Value := x.cells.zipIdx.foldl (fun cs (y : Value × Nat) => cs.setIfInBounds (k * st + y.2) y.1) cur
    have hc1 : cur1.toList = cur.toList.take (k * st) ++ x.cells.toList ++ cur.toList.drop (k * st + x.cells.toList.length) := by
      have := foldl_set (k * st) x.cells.toList 0 cur (by simp; omega)
      simp only [Nat.add_zero] at this
      rw [← this]
      simp only [cur1]
      rw [← Array.foldl_toList, Array.toList_zipIdx]
    have hs1 : cur1.size = cur.size := by
      rw [← Array.length_toList, hc1]
      simp; omega
    obtain ⟨cur', h1, h2, h3, h4⟩ := fillE st xs (k + 1) cur1 (fun y hy => hl y (by simp [hy])) (by rw [hs1, ← e1]; exact hsz)
    have hA : ∀ p, p < k * st → cur1[p]? = cur[p]? := by
      intro p hp
      rw [← Array.getElem?_toList, hc1, List.append_assoc, List.getElem?_append_left (by simp; omega), List.getElem?_take_of_lt hp, Array.getElem?_toList]
    have hB : ∀ p, p < st → cur1[k * st + p]? = x.cells.toList[p]? := by
      intro p hp
      rw [← Array.getElem?_toList, hc1, List.append_assoc, List.getElem?_append_right (by simp; omega)]
      have : (cur.toList.take (k * st)).length = k * st := by simp; omega
      rw [this, List.getElem?_append_left (by simp; omega)]
      congr 1; omega
    refine ⟨cur', ?_, h2.trans hs1, fun p hp => ?_, fun i y hy j u hu => ?_⟩
    · simp only [numbered, Instr.fill, hx]
      rw [if_neg (by simp; omega)]
      exact h1
    · rw [h3 p (by rw [Nat.succ_mul]; omega)]; exact hA p hp
    · cases i with
      | zero =>
        simp at hy; subst hy
        have hj : j < st := by have := (List.getElem?_eq_some_iff.1 hu).1; simp at this; omega
        rw [Nat.add_zero, h3 (k * st + j) (by rw [Nat.succ_mul]; omega), hB j hj]
        exact hu
      | succ i =>
        have := h4 i y (by simpa using hy) j u hu
        rw [show k + (i + 1) = k + 1 + i from by omega]
        exact this

theorem movePs_ok {imm : Imm} {H : HMap} (hH : HOk w imm H L U) {st : Nat} {ty : TypeId} : ∀ {ts : List T} {xs : List Value} {es : List (List V)} {ns : List Nat} (_ : movePs H st ty ts = some (es, ns)) (_ : TsRep w imm H L U xs ts),
    es.length = ts.length ∧ (∀ e ∈ es, e.length = st) ∧ (∀ (k : Nat) x e, xs[k]? = some x → es[k]? = some e → x.cells.size = st) ∧ (∀ n ∈ ns, H n ≠ none) ∧ ∃ f : Nat → Nat → List Nat, (∀ i j n, n ∈ f i j → n ∈ ns) ∧ (ns.Nodup → ∀ i j i' j' n, n ∈ f i j → n ∈ f i' j' → i = i' ∧ j = j') ∧
      ∀ i j v, at2 es i j = some v → ∃ x u, xs[i]? = some x ∧ x.cells.toList[j]? = some u ∧ VTree w (tsub ty j) u v (OwnS imm L (f i j))
  | [], xs, es, ns, h, hr => by
    simp [movePs] at h
    obtain ⟨rfl, rfl⟩ := h
    exact ⟨rfl, fun e he => by simp at he, fun k x e _ he => by simp at he, fun n hn => by simp at hn, fun _ _ => [], fun i j n hn => by simp at hn, fun _ i j i' j' n hn => by simp at hn, fun i j v hv => by simp [at2] at hv⟩
  | .pt p :: ts, xs, es, ns, h, hr => by
    simp only [movePs] at h
    split at h
    · rename_i e n1 es' n2 h1 h2
      split at h
      · rename_i hel
        simp only [Option.some.injEq, Prod.mk.injEq] at h
        obtain ⟨rfl, rfl⟩ := h
        cases xs with
        | nil => have := hr.1; simp at this
        | cons x xs =>
          obtain ⟨hx, hxs⟩ := hr.cons
          have hxc := PRep.cells (show PRep w imm H L U x p from hx)
          obtain ⟨a1, a2, f, a3, a4, a5⟩ := moveCs_ok hH h1 hxc
          obtain ⟨b1, b2, b6, b7, f', b3, b4, b5⟩ := movePs_ok hH h2 hxs
          refine ⟨by simp [b1], fun e' he => ?_, fun k y e' hy he => ?_, fun n hn => ?_, fun i j => match i with | 0 => f j | i + 1 => f' i j, fun i j n hn => ?_, fun hnd i j i' j' n hn hn' => ?_, fun i j v hv => ?_⟩
          · rcases List.mem_cons.1 he with rfl | he
            · exact hel
            · exact b2 e' he
          · cases k with
            | zero => simp at hy; subst hy; have := hxc.1; rw [Array.length_toList] at this; omega
            | succ k => exact b6 k y e' (by simpa using hy) (by simpa using he)
          · rcases List.mem_append.1 hn with hn | hn
            · exact a2 n hn
            · exact b7 n hn
          · cases i with
            | zero => exact List.mem_append.2 (.inl (a3 j n hn))
            | succ i => exact List.mem_append.2 (.inr (b3 i j n hn))
          · have hnd' := List.nodup_append.1 hnd
            cases i with
            | zero => cases i' with
              | zero => exact ⟨rfl, a4 hnd'.1 j j' n hn hn'⟩
              | succ i' => exact absurd rfl (hnd'.2.2 n (a3 j n hn) n (b3 i' j' n hn'))
            | succ i => cases i' with
              | zero => exact absurd rfl (hnd'.2.2 n (a3 j' n hn') n (b3 i j n hn))
              | succ i' => obtain ⟨q1, q2⟩ := b4 hnd'.2.1 i j i' j' n hn hn'; exact ⟨by rw [q1], q2⟩
          · cases i with
            | zero =>
              have hv : e[j]? = some v := by simpa [at2] using hv
              obtain ⟨u, h3, h4⟩ := a5 j v hv
              rw [Nat.zero_add] at h4
              exact ⟨x, u, rfl, h3, h4⟩
            | succ i =>
              obtain ⟨y, u, h3, h4, h5⟩ := b5 i j v (by simpa [at2] using hv)
              exact ⟨y, u, by simpa using h3, h4, h5⟩
      · cases h
    · cases h
  | .junk :: ts, xs, es, ns, h, hr => by simp [movePs] at h
  | .undef :: ts, xs, es, ns, h, hr => by simp [movePs] at h
  | .tup _ :: ts, xs, es, ns, h, hr => by simp [movePs] at h
/-- A slice's literal is made. -/
theorem bsl_run {imm : Imm} {H : HMap} (ty e : TypeId) (n len : Nat) (ps : Array (Nat × Operand)) (qs : List Opd) (z : List C) (he : elemT P ty = some e) (hn : sizeT P e = some n) (hz : zeroCs P e = some z) (hq : cElems 0 ps.toList = some qs) (hlen : qs.length = len) (hbig : len * n ≤ 16777216)
    (hT : ∀ i, TRep w imm H L U (a.tmps.getD i undef) (t i)) (hxs : ∀ x ∈ ps.toList.map (fun p => a.eval p.2), x.cells.size = n) :
    (ps.toList.map fun p => a.eval p.2).length = len ∧ TsRep w imm H L U (ps.toList.map fun p => a.eval p.2) (qs.map (ev t)) ∧
    ∃ cur' : Array Value, (Instr.buildSlice ty len (ps.map fun (i, x) => (i, a.eval x))).run P w = .ok (.slice (some ⟨w.heap.size, 0, none⟩) len len) (w.alloc (.cells cur' e)) ∧ cur'.size = len * n ∧
      ∀ (i : Nat) x, (ps.toList.map fun p => a.eval p.2)[i]? = some x → ∀ (j : Nat) u, x.cells.toList[j]? = some u → cur'[i * n + j]? = some u := by
  obtain ⟨h1, h2⟩ := cElems_ok hT hq
  obtain ⟨i, zv, hi, hzv, hcs⟩ := zeroCs_ok hz
  obtain ⟨i', hi', hin⟩ := sizeT_ok hn
  rw [hi] at hi'; cases hi'
  have hxl : (ps.toList.map fun p => a.eval p.2).length = len := by have := h2.1; simp [hlen] at this; simpa using this
  refine ⟨hxl, h2, ?_⟩
  have hcur0 : ∀ zz : Array Value, ((Array.range (len * n)).map (fun k => zz[k % zz.size]!)).size = len * n := by intro zz; simp
  have hrunz : ∀ zz : Array Value, ∃ cur' : Array Value, Instr.fill (fun i => some (i * n, n)) ((Array.range (len * n)).map (fun k => zz[k % zz.size]!)) (numbered 0 (ps.toList.map fun p => a.eval p.2)) = some cur' ∧ cur'.size = len * n ∧
      ∀ (i : Nat) x, (ps.toList.map fun p => a.eval p.2)[i]? = some x → ∀ (j : Nat) u, x.cells.toList[j]? = some u → cur'[i * n + j]? = some u := by
    intro zz
    obtain ⟨cur', f1, f2, _, f4⟩ := fillE n _ 0 ((Array.range (len * n)).map (fun k => zz[k % zz.size]!)) hxs (by rw [hcur0, Nat.zero_add, hxl]; exact Nat.le_refl _)
    exact ⟨cur', f1, f2.trans (hcur0 zz), fun i x hx j u hu => by have := f4 i x hx j u hu; rwa [Nat.zero_add] at this⟩
  have hfill : (ps.map fun (i, x) => (i, a.eval x)).toList = numbered 0 (ps.toList.map fun p => a.eval p.2) := by rw [Array.toList_map]; exact h1
  have hnb : ¬ (16777216 < len * n) := by omega
  by_cases h0 : len * n = 0
  · obtain ⟨cur', f1, f2, f3⟩ := hrunz #[]
    refine ⟨cur', ?_, f2, f3⟩
    simp only [Instr.buildSlice, Sem.run_bind, run_underlying (elemT_ok he), Result.andThen_ok, sizeOf, typeInfo, run_program, hi, Sem.run_pure, hin]
    rw [if_neg (by simpa using hnb), if_pos h0]
    simp only [Sem.run_bind, Sem.run_pure, Result.andThen_ok, hfill, f1]
    simp [newRow]
  · obtain ⟨cur', f1, f2, f3⟩ := hrunz zv.cells
    refine ⟨cur', ?_, f2, f3⟩
    simp only [Instr.buildSlice, Sem.run_bind, run_underlying (elemT_ok he), Result.andThen_ok, sizeOf, typeInfo, run_program, hi, Sem.run_pure, hin]
    rw [if_neg (by simpa using hnb), if_neg h0]
    simp only [Sem.run_bind, Sem.run_pure, Result.andThen_ok, zeroValue, typeInfo, run_program, hi, hzv, hfill, f1]
    simp [newRow]

theorem ok_bsl {imm : Imm} {H : HMap} (ty e : TypeId) (n len : Nat) (ps : Array (Nat × Operand)) (qs : List Opd) (z : List C) (he : elemT P ty = some e) (hn : sizeT P e = some n) (hz : zeroCs P e = some z) (hq : cElems 0 ps.toList = some qs) (hlen : qs.length = len) (hpos : 0 < n) (hbig : len * n ≤ 16777216)
    (hH : HOk w imm H L U) (hT : ∀ i, TRep w imm H L U (a.tmps.getD i undef) (t i)) (hv : ¬ U ver) (ho : o.op = .buildSlice ty len ps) (d : Nat) {es : List (List V)} {ws : List (Nat × Blk)} {ns : List Nat} (hs : sealPs H n (qs.map (ev t)) = some (es, ws, ns)) :
    OpR P a o w imm H L U (updH H (ws ++ [(d, .arr ver true n e es)])) (with_ U ver) (.pt (.one (.own d ver es.length))) := by
  obtain ⟨_, h2⟩ := cElems_ok hT hq
  obtain ⟨imm1, S, l1, a1, V1⟩ := sealPs_ok hH (SameA.refl _) hs h2
  have hel : es.length = len := by rw [l1]; simp [hlen]
  have hxl : (ps.toList.map fun p => a.eval p.2).length = len := by have := h2.1; simp [hlen] at this; simpa using this
  have hxs : ∀ x ∈ ps.toList.map (fun p => a.eval p.2), x.cells.size = n := by
    intro x hx
    obtain ⟨k, hk, rfl⟩ := List.getElem_of_mem hx
    have hk' : k < es.length := by omega
    have h3 := V1 k _ es[k] (List.getElem?_eq_getElem hk) (List.getElem?_eq_getElem hk')
    have h4 := a1 es[k] (List.getElem_mem hk')
    have := h3.1
    rw [Array.length_toList] at this
    omega
  obtain ⟨_, _, cur', hrun, hsz, hcells⟩ := bsl_run ty e n len ps qs z he hn hz hq hlen hbig hT hxs
  have hnew := goes_arr (w' := w.alloc (.cells cur' e)) S.hok d ver hv true e cur' n es len len rfl rfl rfl rfl hpos a1 (by rw [hel, hsz]; exact Nat.le_refl _)
    (fun i el hi2 j y hy => by
      have hi3 : i < es.length := (List.getElem?_eq_some_iff.1 hi2).1
      have hk : i < (ps.toList.map fun p => a.eval p.2).length := by omega
      have h3 := V1 i _ el (List.getElem?_eq_getElem hk) hi2
      have hj : j < ((ps.toList.map fun p => a.eval p.2)[i]).cells.toList.length := by rw [h3.1]; exact (List.getElem?_eq_some_iff.1 hy).1
      exact ⟨_, hcells i _ (List.getElem?_eq_getElem hk) j _ (List.getElem?_eq_getElem hj), h3.2 j _ y (List.getElem?_eq_getElem hj) hy⟩)
    (by omega) (Nat.le_refl _) (by simp [maxLen]; have : len ≤ len * n := Nat.le_mul_of_pos_right _ hpos; omega) hsz
  obtain ⟨s1, s2⟩ := Step.trans S.step S.near hnew.step hnew.near
  refine ⟨.slice (some ⟨w.heap.size, 0, none⟩) len len, w.alloc (.cells cur' e), imm1, L.up d (some w.heap.size) noB, .inl ?_, ?_, ?_, ?_, s1, ?_⟩
  · simp only [execOp, ho, Sem.run_bind, hrun, Result.andThen_ok, Sem.run_pure]
  · rw [updH_append, hel]; exact hnew.val
  · rw [updH_append]; exact hnew.hok
  · rw [updH_append]; exact S.ext.trans hnew.ext
  · rw [updH_append]; exact s2

theorem updH_map_in {B : Blk} : ∀ {ns : List Nat} {H : HMap} {m : Nat}, m ∈ ns → updH H (ns.map fun m => (m, B)) m = some B
  | x :: ns, H, m, h => by
    simp only [List.map_cons, updH]
    by_cases hm : m ∈ ns
    · exact updH_map_in hm
    · have e : m = x := by rcases List.mem_cons.1 h with h | h; exact h; exact absurd h hm
      have : ∀ (ns : List Nat) (H : HMap), m ∉ ns → updH H (ns.map fun m => (m, B)) m = H m := by
        intro ns
        induction ns with
        | nil => intro H _; rfl
        | cons y ns ih => intro H hn; simp only [List.map_cons, updH]; rw [ih _ fun h => hn (by simp [h]), upd_ne _ _ fun e => hn (by simp [e])]
      rw [this ns _ hm, e, upd_same]
theorem updH_map_out {B : Blk} : ∀ {ns : List Nat} {H : HMap} {m : Nat}, m ∉ ns → updH H (ns.map fun m => (m, B)) m = H m
  | [], _, _, _ => rfl
  | x :: ns, H, m, h => by
    simp only [List.map_cons, updH]
    rw [updH_map_out fun h2 => h (by simp [h2]), upd_ne _ _ fun e => h (by simp [e])]

/-- A slice's literal that takes its parts' arrays over. -/
theorem ok_bslT {imm : Imm} {H : HMap} (ty e : TypeId) (n len : Nat) (ps : Array (Nat × Operand)) (qs : List Opd) (z : List C) (he : elemT P ty = some e) (hn : sizeT P e = some n) (hz : zeroCs P e = some z) (hq : cElems 0 ps.toList = some qs) (hlen : qs.length = len) (hpos : 0 < n) (hbig : len * n ≤ 16777216)
    (hH : HOk w imm H L U) (hT : ∀ i, TRep w imm H L U (a.tmps.getD i undef) (t i)) (hv : ¬ U ver) (ho : o.op = .buildSlice ty len ps) (d : Nat) {es : List (List V)} {ns : List Nat} (hs : movePs H n e (qs.map (ev t)) = some (es, ns)) (hnd : ns.Nodup) (hd : d ∉ ns) :
    OpR P a o w imm H L U (updH H (ns.map (fun m => (m, .arr ver true 1 e [])) ++ [(d, .tree ver true n e es none)])) (with_ U ver) (.pt (.one (.tr d ver es.length))) := by
  obtain ⟨_, h2⟩ := cElems_ok hT hq
  obtain ⟨l1, a1, a2, a3, f, f1, f2, f3⟩ := movePs_ok hH hs h2
  have hel : es.length = len := by rw [l1]; simp [hlen]
  have hxl : (ps.toList.map fun p => a.eval p.2).length = len := by have := h2.1; simp [hlen] at this; simpa using this
  have hxs : ∀ x ∈ ps.toList.map (fun p => a.eval p.2), x.cells.size = n := by
    intro x hx
    obtain ⟨k, hk, rfl⟩ := List.getElem_of_mem hx
    have hk' : k < es.length := by omega
    exact a2 k _ es[k] (List.getElem?_eq_getElem hk) (List.getElem?_eq_getElem hk')
  obtain ⟨_, _, cur', hrun, hsz, hcells⟩ := bsl_run ty e n len ps qs z he hn hz hq hlen hbig hT hxs
  let w' := w.alloc (.cells cur' e)
  let H' := updH H (ns.map (fun m => (m, Blk.arr ver true 1 e [])) ++ [(d, .tree ver true n e es none)])
  let L' : Locs := ⟨fun m => if m = d then some w.heap.size else if m ∈ ns then none else L m, fun m => if m = d then OwnS imm L ns else if m ∈ ns then noB else L.sub m⟩
  have hHd : H' d = some (.tree ver true n e es none) := by simp only [H', updH_append, updH, upd_same]
  have hHn : ∀ m ∈ ns, H' m = some (.arr ver true 1 e []) := fun m hm => by
    simp only [H', updH_append, updH]
    have hmd : m ≠ d := fun e2 => hd (by rw [← e2]; exact hm)
    rw [upd_ne _ _ hmd, updH_map_in hm]
  have hHo : ∀ m, m ≠ d → m ∉ ns → H' m = H m := fun m h1 h2 => by
    simp only [H', updH_append, updH]
    rw [upd_ne _ _ h1, updH_map_out h2]
  have hLd : L' d = some w.heap.size := by simp [L']
  have hSd : L'.sub d = OwnS imm L ns := by simp [L']
  have hLn : ∀ m ∈ ns, L' m = none := fun m hm => by simp [L', hm, show m ≠ d from fun e2 => hd (by rw [← e2]; exact hm)]
  have hSn : ∀ m ∈ ns, L'.sub m = noB := fun m hm => by simp [L', hm, show m ≠ d from fun e2 => hd (by rw [← e2]; exact hm)]
  have hold : ∀ b, b < w.heap.size → w'.heap[b]? = w.heap[b]? := fun b hb => heap_alloc_old w _ b hb
  have hk := keep_alloc hH (.cells cur' e)
  have hcase : ∀ m, ¬ (m ≠ d ∧ m ∉ ns) → m = d ∨ m ∈ ns := fun m h => by
    by_cases h1 : m = d
    · exact .inl h1
    · exact .inr (Classical.byContradiction fun h2 => h ⟨h1, h2⟩)
  have hOn : ∀ m b, m ∈ ns → ¬ L'.Own m b := fun m b hm h => by
    rcases h with h | h
    · rw [hLn m hm] at h; cases h
    · rw [hSn m hm] at h; exact h
  obtain ⟨k1, k2, k3, k4⟩ := upd_many (w' := w') (imm' := imm) (H' := H') (L' := L') (U' := with_ U ver) hH (fun m => m ≠ d ∧ m ∉ ns) rfl rfl rfl (by simp [w'])
    (fun m hm => ⟨hHo m hm.1 hm.2, by simp [L', hm.1, hm.2], by simp [L', hm.1, hm.2]⟩) (fun b hb _ => hold b hb) hk (fun b o h => .inl h)
    (fun m b hm hne hO => by
      rcases hcase m hm with rfl | hm
      · rcases hO with hO | hO
        · rw [hLd] at hO; cases hO; exact ⟨.inr (Nat.le_refl _), by simp [w']⟩
        · rw [hSd] at hO
          obtain ⟨m', h1, h2, _⟩ := hO
          exact ⟨.inl ⟨m', fun h => h.2 h1, a3 m' h1, h2⟩, by have := hH.lt (a3 m' h1) h2; simp [w']; omega⟩
      · exact absurd hO (hOn m b hm))
    (fun m m' g hm hm' _ _ hO hO' => by
      rcases hcase m hm with rfl | hm
      · rcases hcase m' hm' with rfl | hm'
        · rfl
        · exact absurd hO' (hOn m' g hm')
      · exact absurd hO (hOn m g hm))
    (fun m g hm _ hO e2 => by
      rcases hcase m hm with rfl | hm
      · rw [hLd] at e2; cases e2
        rw [hSd] at hO
        obtain ⟨m', h1, h2, _⟩ := hO
        exact absurd (hH.lt (a3 m' h1) h2) (Nat.lt_irrefl _)
      · exact absurd (.inr hO) (hOn m g hm))
    (fun v h => .inl h)
    (fun m B hm hB => by
      refine .inl fun hu => hv ?_
      rcases hcase m hm with rfl | hm
      · rw [hHd] at hB; cases hB; exact hu
      · rw [hHn m hm] at hB; cases hB; exact hu)
    (fun hE m B hm hB => by
      rcases hcase m hm with rfl | hm
      · rw [hHd] at hB; cases hB
        refine ⟨.inr rfl, hpos, a1, fun i cs h => (by cases h), fun b o hb ho => ?_, .inr ⟨w.heap.size, cur', fun i j => OwnS imm L (f i j), hLd, heap_alloc_new w _, by rw [hel, hsz]; exact Nat.le_refl _, fun i j b hb => ?_, fun i j i' j' b hb hb' => ?_, fun i j x hx _ => ?_, fun i cs h => (by cases h), fun o ho => ?_⟩⟩
        · rw [hSd] at hb
          obtain ⟨_, _, _, h3⟩ := hb
          exact absurd ho (h3 o)
        · rw [hSd]
          obtain ⟨m', h1, h2⟩ := hb
          exact ⟨m', f1 i j m' h1, h2⟩
        · obtain ⟨m1, h1, h2, _⟩ := hb
          obtain ⟨m2, h3, h4, _⟩ := hb'
          have e1 := hH.inj m1 m2 b (a3 m1 (f1 _ _ _ h1)) (a3 m2 (f1 _ _ _ h3)) h2 h4
          subst e1
          exact f2 hnd i j i' j' m1 h1 h3
        · obtain ⟨y, u, h1, h2, h3⟩ := f3 i j x hx
          refine ⟨u, hcells i y h1 j u h2, h3.frame (fun _ h => h) fun b hb => ?_⟩
          obtain ⟨m', h4, h5, _⟩ := hb
          exact hold b (hH.lt (a3 m' (f1 _ _ _ h4)) h5)
        · exact absurd (hH.imm _ _ ho) (Nat.lt_irrefl _)
      · rw [hHn m hm] at hB; cases hB
        exact ⟨.inr rfl, by omega, fun e he => by simp at he, .inl ⟨hLn m hm, rfl⟩⟩)
  refine ⟨.slice (some ⟨w.heap.size, 0, none⟩) len len, w', imm, L', .inl ?_, ?_, k1, k2, k3, k4⟩
  · simp only [execOp, ho, Sem.run_bind, hrun, Result.andThen_ok, Sem.run_pure]; rfl
  · refine ⟨.inr rfl, ⟨_, _, by rw [hel], by omega⟩, fun wr' st' ty' es' op' hB => ?_⟩
    change H' d = _ at hB
    rw [hHd] at hB; cases hB
    refine ⟨Nat.le_refl _, .inr ⟨w.heap.size, len, cur', hLd, by rw [hel], heap_alloc_new w _, by omega, ?_, hsz⟩⟩
    simp [maxLen]; have : len ≤ len * n := Nat.le_mul_of_pos_right _ hpos; omega
end
end Go.V
namespace Go.V
section
variable {P : Program} {a : Act} {o : Oper} {w : World} {L : Locs} {U : Nat → Prop} {t : Nat → T} {ver : Nat} {imm : Imm} {H : HMap}

theorem srcOf_ok (hH : HOk w imm H L U) {x : Value} {v : T} (h : TRep w imm H L U x v) {ys : List (List V)} {ns : List Nat} (hs : srcOf H v = some (ys, ns)) :
    ∃ ao c, x = .slice ao ys.length c ∧ (ys = [] ∨ ∃ b o' st, ao = some ⟨b, o', none⟩ ∧ (∀ e ∈ ys, e.length = st) ∧ ∀ i j y, at2 ys i j = some y → ∃ u, w.cell? ⟨b, o' + i * st + j, none⟩ = some u ∧ VRep w imm u y) := by
  unfold srcOf at hs
  split at hs
  · simp at hs; obtain ⟨rfl, rfl⟩ := hs
    obtain ⟨ad, rfl⟩ := (show ∃ ad, x = .slice ad 0 0 from h)
    exact ⟨ad, 0, rfl, .inl rfl⟩
  · simp at hs; obtain ⟨rfl, rfl⟩ := hs
    have h : VRep w imm x (.sl _) := h
    cases h with
    | nil ad cap => exact ⟨ad, cap, rfl, .inl rfl⟩
    | sl es st b o' cap vals hst hne hcap hl hc hr =>
      exact ⟨_, cap, rfl, .inr ⟨b, o', st, rfl, hl, fun i j y hy => ⟨_, (hc i j y hy).1, hr i j y hy⟩⟩⟩
  · rename_i id ver' n
    split at hs
    · rename_i v' wr st ty es hB
      split at hs
      · rename_i hv
        subst hv
        simp at hs; obtain ⟨rfl, rfl⟩ := hs
        obtain ⟨_, ⟨ad, k, hx, _⟩, h3⟩ := (show CRep w imm H L U x (.own id v' n) from h)
        obtain ⟨hn, hov⟩ := h3 _ _ _ _ hB
        have hlen : (es.take n).length = n := by simp; omega
        rw [hlen]
        refine ⟨ad, k, hx, ?_⟩
        rcases hov with ⟨a', e1, rfl⟩ | ⟨b, cap, cur, hb, e1, hh, _, _, _⟩
        · exact .inl (by simp)
        · rw [hx] at e1; cases e1
          obtain ⟨_, hst, hls, hq⟩ := hH.blk id _ hB
          rcases hq with ⟨hq, _⟩ | ⟨g, cur', hg, hh', hsz, hrep, _⟩
          · rw [hb] at hq; cases hq
          rw [hb] at hg; cases hg
          rw [hh] at hh'; cases hh'
          refine .inr ⟨b, 0, st, rfl, fun e he => hls e (List.mem_of_mem_take he), fun i j y hy => ?_⟩
          simp only [at2, List.getElem?_take] at hy
          split at hy
          · cases he : es[i]? with
            | none => simp [he] at hy
            | some e =>
              simp [he] at hy
              obtain ⟨u, h5, h6⟩ := hrep i e he j y hy
              exact ⟨u, by simp [World.cell?, hh, h5], h6⟩
          · simp at hy
      · cases hs
    · cases hs
  · rename_i id ver' l n
    split at hs
    · rename_i v' wr st ty es hB
      split at hs
      · rename_i hv
        obtain ⟨rfl, hln⟩ := hv
        simp at hs; obtain ⟨rfl, rfl⟩ := hs
        obtain ⟨_, ⟨ad, k, hx, _⟩, h3⟩ := (show CRep w imm H L U x (.ow id v' l n) from h)
        obtain ⟨_, hov⟩ := h3 _ _ _ _ hB
        have hlen : ((es.drop l).take n).length = n := by simp; omega
        rw [hlen]
        refine ⟨ad, k, hx, ?_⟩
        rcases hov with rfl | ⟨b, cap, hb, e1⟩
        · exact .inl (by simp)
        · rw [hx] at e1; cases e1
          obtain ⟨_, hst, hls, hq⟩ := hH.blk id _ hB
          rcases hq with ⟨hq, _⟩ | ⟨g, cur', hg, hh', hsz, hrep, _⟩
          · rw [hb] at hq; cases hq
          rw [hb] at hg; cases hg
          refine .inr ⟨b, l * st, st, rfl, fun e he => hls e (List.mem_of_mem_drop (List.mem_of_mem_take he)), fun i j y hy => ?_⟩
          simp only [at2, List.getElem?_take, List.getElem?_drop] at hy
          split at hy
          · cases he : es[l + i]? with
            | none => simp [he] at hy
            | some e =>
              simp [he] at hy
              obtain ⟨u, h5, h6⟩ := hrep (l + i) e he j y hy
              refine ⟨u, ?_, h6⟩
              have e1 : l * st + i * st + j = (l + i) * st + j := by rw [Nat.add_mul]
              rw [e1]
              simp [World.cell?, hh', h5]
          · simp at hy
      · cases hs
    · cases hs
  · rename_i ad n k
    split at hs
    · rename_i hn
      subst hn
      simp at hs; obtain ⟨rfl, rfl⟩ := hs
      exact ⟨ad, k, rep_s h, .inl rfl⟩
    · cases hs
  · cases hs

/-- The cells of the source, in one row. -/
theorem src_row {ys : List (List V)} {b o' st : Nat} (hl : ∀ e ∈ ys, e.length = st) (hst : 0 < st) (h : ∀ i j y, at2 ys i j = some y → ∃ u, w.cell? ⟨b, o' + i * st + j, none⟩ = some u ∧ VRep w imm u y) :
    ∃ news : List Value, news.length = ys.length * st ∧ (∀ j u, news[j]? = some u → w.cell? ((⟨b, o', none⟩ : Addr).add j) = some u) ∧ (∀ u ∈ news, u.oneCell' = true) ∧
      ∀ i j y, at2 ys i j = some y → ∃ u, news[i * st + j]? = some u ∧ VRep w imm u y := by
  let f : Nat → Value := fun k => (w.cell? ⟨b, o' + k, none⟩).getD undef
  have key : ∀ k, k < ys.length * st → ∃ y u, at2 ys (k / st) (k % st) = some y ∧ w.cell? ⟨b, o' + k, none⟩ = some u ∧ VRep w imm u y := by
    intro k hk
    have hi : k / st < ys.length := (Nat.div_lt_iff_lt_mul hst).2 hk
    have hj : k % st < (ys[k / st]).length := by rw [hl _ (List.getElem_mem hi)]; exact Nat.mod_lt _ hst
    have hy : at2 ys (k / st) (k % st) = some (ys[k / st][k % st]) := by simp [at2, hi, hj]
    obtain ⟨u, h1, h2⟩ := h _ _ _ hy
    have e : o' + k / st * st + k % st = o' + k := by have := Nat.div_add_mod k st; rw [Nat.mul_comm] at this; omega
    rw [e] at h1
    exact ⟨_, u, hy, h1, h2⟩
  refine ⟨(List.range (ys.length * st)).map f, by simp, fun j u hu => ?_, fun u hu => ?_, fun i j y hy => ?_⟩
  · rw [List.getElem?_map, Option.map_eq_some_iff] at hu
    obtain ⟨k, hk, rfl⟩ := hu
    have hk1 := List.getElem?_eq_some_iff.1 hk
    obtain ⟨hk2, hk3⟩ := hk1
    simp at hk2 hk3
    subst hk3
    obtain ⟨y, u, _, h1, _⟩ := key j hk2
    rw [add_eq]; simp [f, h1]
  · rw [List.mem_map] at hu
    obtain ⟨k, hk, rfl⟩ := hu
    obtain ⟨y, u, _, h1, h2⟩ := key k (by simpa using hk)
    simp [f, h1]
    exact oneCell_s h2
  · have hi : i < ys.length := by
      cases hi : ys[i]? with
      | none => simp [at2, hi] at hy
      | some e => exact (List.getElem?_eq_some_iff.1 hi).1
    have hj : j < st := by
      simp [at2, hi] at hy
      have := (List.getElem?_eq_some_iff.1 hy).1
      rwa [hl _ (List.getElem_mem hi)] at this
    have hk : i * st + j < ys.length * st := by have := Nat.mul_le_mul_right st hi; rw [Nat.succ_mul] at this; omega
    obtain ⟨u, h1, h2⟩ := h i j y hy
    refine ⟨u, ?_, h2⟩
    rw [Nat.add_assoc] at h1
    simp [hk, f, h1]

/-- What stands behind an append: the first elements, and the new ones. -/
theorem app_rep {es ys : List (List V)} {st n : Nat} {cur : Array Value} {news : List Value} (hn : n ≤ es.length) (hrep : ∀ i e, es[i]? = some e → VsRep w imm cur (i * st) e) (hl : ∀ e ∈ es, e.length = st)
    (hyl : ∀ e ∈ ys, e.length = st) (hnl : news.length = ys.length * st) (hnews : ∀ i j y, at2 ys i j = some y → ∃ u, news[i * st + j]? = some u ∧ VRep w imm u y) {A B : List Value} (hA : A.length = n * st) (hAc : ∀ p, p < n * st → A[p]? = cur[p]?) :
    ∀ i e, (es.take n ++ ys)[i]? = some e → VsRep w imm (A ++ news ++ B).toArray (i * st) e := by
  intro i e he j y hy
  have htl : (es.take n).length = n := by simp; omega
  rcases Nat.lt_or_ge i n with hi | hi
  · rw [List.getElem?_append_left (by omega), List.getElem?_take_of_lt hi] at he
    obtain ⟨u, h1, h2⟩ := hrep i e he j y hy
    have hj : j < st := by have := (List.getElem?_eq_some_iff.1 hy).1; rwa [hl e (List.mem_of_getElem? he)] at this
    have hlt : i * st + j < n * st := by have := Nat.mul_le_mul_right st hi; rw [Nat.succ_mul] at this; omega
    refine ⟨u, ?_, h2⟩
    simp only [List.getElem?_toArray]
    rw [List.append_assoc, List.getElem?_append_left (by omega), hAc _ hlt]
    exact h1
  · rw [List.getElem?_append_right (by omega), htl] at he
    have hj : j < st := by have := (List.getElem?_eq_some_iff.1 hy).1; rwa [hyl e (List.mem_of_getElem? he)] at this
    have hi2 : i - n < ys.length := (List.getElem?_eq_some_iff.1 he).1
    obtain ⟨u, h1, h2⟩ := hnews (i - n) j y (by simp [at2, he, hy])
    refine ⟨u, ?_, h2⟩
    have hlt : (i - n) * st + j < news.length := (List.getElem?_eq_some_iff.1 h1).1
    have e1 : i * st = n * st + (i - n) * st := by rw [← Nat.add_mul]; congr 1; omega
    simp only [List.getElem?_toArray]
    rw [List.append_assoc, List.getElem?_append_right (by omega), List.getElem?_append_left (by omega), hA, e1, show n * st + (i - n) * st + j - n * st = (i - n) * st + j from by omega]
    exact h1

theorem run_append_zero (ty e rt : TypeId) (i : TypeInfo) (hu : P.underlying ty = some (.slice e)) (hi : P.info? e = some i) (base : Option Addr) (n cap : Nat) (hn : n ≤ cap) (ao : Option Addr) (c : Nat) :
    (Builtin.append_ #[ty, ty] rt #[.slice base n cap, .slice ao 0 c]).run P w = .ok (.slice base n cap) w := by
  cases base <;> cases ao <;> simp [Builtin.append_, run_underlying hu, sizeOf, typeInfo, hi, Builtin.lenOf, Builtin.firstCells, loadCells, loadCellsFrom, storeCells, hn]

theorem exec_append (c : Call) (x y : Operand) (ty : TypeId) (hc : c.callee = .builtin .append) (hargs : c.args.toList = [x, y]) (hts : c.argTypes.toList = [ty, ty]) (ho : o.op = .call c) {v : Value} {w' : World}
    (h : (Builtin.append_ #[ty, ty] o.type #[a.eval x, a.eval y]).run P w = .ok v w') : (execOp a.eval o).run P w = .ok (.value v) w' := by
  have ea : c.args = #[x, y] := by rw [← Array.toArray_toList (xs := c.args), hargs]
  have et : c.argTypes = #[ty, ty] := by rw [← Array.toArray_toList (xs := c.argTypes), hts]
  simp [execOp, ho, resolve, hc, ea, et, invoke, builtin, h]

theorem grow_goes (hH : HOk w imm H L U) (d : Nat) (hv : ¬ U ver) (wr : Bool) (e : TypeId) (z : Value) (st n need old : Nat) (es ys : List (List V)) (cur : Array Value) (news : List Value) (hzs : z.cells.size = st) (hst : 0 < st) (hn : n ≤ es.length) (hneed : need = n + ys.length)
    (hrep : ∀ i e, es[i]? = some e → VsRep w imm cur (i * st) e) (hl : ∀ e ∈ es, e.length = st) (hyl : ∀ e ∈ ys, e.length = st) (hnl : news.length = ys.length * st) (hnews : ∀ i j y, at2 ys i j = some y → ∃ u, news[i * st + j]? = some u ∧ VRep w imm u y)
    (olds : List Value) (hol : olds.length = n * st) (hoc : ∀ p, p < n * st → olds[p]? = cur[p]?) (h63 : need ≤ 9223372036854775807) :
    Goes w imm H L U (upd H d (some (.arr ver wr st e (es.take n ++ ys)))) (with_ U ver) (.pt (.one (.own d ver need))) (.slice (some ⟨w.heap.size, 0, none⟩) need (grownCap w need old e))
      (w.drew.alloc (.cells (olds.toArray ++ news.toArray ++ Builtin.zeroCells z.cells (grownCap w need old e - need)) e)) imm (L.up d (some w.heap.size) noB) := by
  have hge := grownCap_ge w need old e
  have hlen : (es.take n ++ ys).length = need := by simp; omega
  have hsz : (olds.toArray ++ news.toArray ++ Builtin.zeroCells z.cells (grownCap w need old e - need)).size = grownCap w need old e * st := by
    simp only [Array.size_append, List.size_toArray, size_zeroCells, hzs, hol, hnl, ← Nat.add_mul]
    congr 1; omega
  refine goes_arr hH d ver hv wr e _ st (es.take n ++ ys) need (grownCap w need old e) rfl rfl rfl rfl hst ?_ ?_ ?_ (by omega) hge (grownCap_le_maxLen w need old e (by simp [maxLen]; omega)) hsz
  · intro x hx
    rcases List.mem_append.1 hx with h | h
    · exact hl x (List.mem_of_mem_take h)
    · exact hyl x h
  · rw [hsz, hlen]; exact Nat.mul_le_mul_right _ hge
  · have := app_rep (w := w) (imm := imm) hn hrep hl hyl hnl hnews (A := olds) (B := (Builtin.zeroCells z.cells (grownCap w need old e - need)).toList) hol hoc
    have e2 : (olds ++ news ++ (Builtin.zeroCells z.cells (grownCap w need old e - need)).toList).toArray = olds.toArray ++ news.toArray ++ Builtin.zeroCells z.cells (grownCap w need old e - need) := by
      simp
    rw [e2] at this
    exact this

theorem ok_app_nil (c : Call) (x y : Operand) (ty e : TypeId) (i : TypeInfo) (z : List C) (x' y' : Opd) (hc : c.callee = .builtin .append) (hargs : c.args.toList = [x, y]) (hts : c.argTypes.toList = [ty, ty]) (he : elemT P ty = some e) (hi : P.info? e = some i) (hz : zeroCs P e = some z) (hzl : z.length = i.size)
    (hst : 0 < i.size) (hx : cOpd x = some x') (hy : cOpd y = some y') (hH : HOk w imm H L U) (hT : ∀ i, TRep w imm H L U (a.tmps.getD i undef) (t i)) (hv : ¬ U ver) (ho : o.op = .call c) (d : Nat) {ys : List (List V)} {ns : List Nat} (hs : srcOf H (ev t y') = some (ys, ns)) (hyl : ∀ e ∈ ys, e.length = i.size)
    (hp : ev t x' = .pt (.one .nil0)) (hb : ys.length * i.bytes ≤ 140737488355328) (h63 : ys.length ≤ 9223372036854775807) :
    OpR P a o w imm H L U (upd H d (some (.arr ver true i.size e ys))) (with_ U ver) (.pt (.one (.own d ver ys.length))) := by
  have h1 := cOpd_ok hT hx
  rw [hp] at h1
  obtain ⟨ad, hxe⟩ := (show ∃ ad, a.eval x = .slice ad 0 0 from h1)
  obtain ⟨ao, cy, hye, hsrc⟩ := srcOf_ok hH (cOpd_ok hT hy) hs
  have hu := elemT_ok he
  by_cases h0 : ys = []
  · subst h0
    refine ⟨_, _, _, _, .inl (exec_append c x y ty hc hargs hts ho ?_), goes_arr_nil hH d ver hv true i.size e hst ad⟩
    rw [hxe, hye]; exact run_append_zero ty e o.type i hu hi ad 0 0 (Nat.le_refl _) ao cy
  · rcases hsrc with hsrc | ⟨b, o', st, hao, hl, hcell⟩
    · exact absurd hsrc h0
    have hss : st = i.size := by
      cases ys with
      | nil => exact absurd rfl h0
      | cons e1 ys => rw [← hl e1 (by simp), hyl e1 (by simp)]
    subst hss
    have hm : 0 < ys.length := List.length_pos_iff.2 h0
    obtain ⟨news, n1, n2, n3, n4⟩ := src_row hl hst hcell
    obtain ⟨i', zv, hi', hzv, hzc⟩ := zeroCs_ok hz
    rw [hi] at hi'; cases hi'
    have hzs : zv.cells.size = i.size := by have := constCs_len hzc; simp at this; omega
    have hg := grow_goes (w := w) (imm := imm) (ver := ver) hH d hv true e zv i.size 0 ys.length 0 [] ys #[] news hzs hst (Nat.zero_le _) (by omega) (by intro i e h; simp at h) (by intro e h; simp at h) hyl n1 n4 [] (by simp) (by intro p hp; simp at hp) h63
    simp only [List.take_nil, List.nil_append] at hg
    refine ⟨_, _, _, _, .inl (exec_append c x y ty hc hargs hts ho ?_), hg⟩
    rw [hxe, hye, hao]
    cases ad with
    | none =>
      have := run_append_nil (P := P) w ty o.type e i zv hu hi hzv ⟨b, o', none⟩ ys.length cy news n1 n2 (by omega) (by omega) (by omega)
      rw [this]; simp
    | some b0 =>
      have := run_append_grow (P := P) w ty o.type e i zv hu hi hzv b0 0 0 [] (by simp) (by intro j v h; simp at h) ⟨b, o', none⟩ ys.length cy news n1 n2 (by omega) (by omega) (growslice_fits (by omega) (by simpa using hb))
      simp only [Nat.zero_add] at this
      rw [this]

theorem ok_app_own (c : Call) (x y : Operand) (ty e : TypeId) (i : TypeInfo) (z : List C) (x' y' : Opd) (hc : c.callee = .builtin .append) (hargs : c.args.toList = [x, y]) (hts : c.argTypes.toList = [ty, ty]) (he : elemT P ty = some e) (hi : P.info? e = some i) (hz : zeroCs P e = some z) (hzl : z.length = i.size)
    (hst : 0 < i.size) (hx : cOpd x = some x') (hy : cOpd y = some y') (hH : HOk w imm H L U) (hT : ∀ i, TRep w imm H L U (a.tmps.getD i undef) (t i)) (hv : ¬ U ver) (ho : o.op = .call c) {ys : List (List V)} {ns : List Nat} (hs : srcOf H (ev t y') = some (ys, ns)) (hyl : ∀ e ∈ ys, e.length = i.size)
    {id v0 n : Nat} (hp : ev t x' = .pt (.one (.own id v0 n))) {wr : Bool} {es : List (List V)} (hB : H id = some (.arr v0 wr i.size e es)) (hn : n ≤ es.length) (hnw : n = es.length ∨ wr = true) (hb : (n + ys.length) * i.bytes ≤ 140737488355328) (h63 : n + ys.length ≤ 9223372036854775807) :
    OpR P a o w imm H L U (upd H id (some (.arr ver wr i.size e (es.take n ++ ys)))) (with_ U ver) (.pt (.one (.own id ver (n + ys.length)))) := by
  have h1 := cOpd_ok hT hx
  rw [hp] at h1
  obtain ⟨_, ⟨ad, k, hxe, hnk⟩, h3⟩ := (show CRep w imm H L U (a.eval x) (.own id v0 n) from h1)
  obtain ⟨_, hov⟩ := h3 _ _ _ _ hB
  obtain ⟨ao, cy, hye, hsrc⟩ := srcOf_ok hH (cOpd_ok hT hy) hs
  have hu := elemT_ok he
  by_cases h0 : ys = []
  · subst h0
    simp only [List.append_nil, List.length_nil, Nat.add_zero]
    refine ⟨_, _, _, _, .inl (exec_append c x y ty hc hargs hts ho ?_), goes_arr_same hH id v0 ver hv wr i.size e es _ hB n rfl hn hnw (a.eval x) hov⟩
    rw [hye, hxe]; exact run_append_zero ty e o.type i hu hi ad n k hnk ao cy
  · rcases hsrc with hsrc | ⟨b, o', st, hao, hl, hcell⟩
    · exact absurd hsrc h0
    have hss : st = i.size := by
      cases ys with
      | nil => exact absurd rfl h0
      | cons e1 ys => rw [← hl e1 (by simp), hyl e1 (by simp)]
    subst hss
    have hm : 0 < ys.length := List.length_pos_iff.2 h0
    obtain ⟨news, n1, n2, n3, n4⟩ := src_row hl hst hcell
    obtain ⟨i', zv, hi', hzv, hzc⟩ := zeroCs_ok hz
    rw [hi] at hi'; cases hi'
    have hzs : zv.cells.size = i.size := by have := constCs_len hzc; simp at this; omega
    obtain ⟨_, _, hls, hq⟩ := hH.blk id _ hB
    rcases hov with ⟨a', e1, e2⟩ | ⟨g, cap, cur, hg, e1, hh, hnc, hcm, hcs⟩
    · subst e2
      have hgo := grow_goes (w := w) (imm := imm) (ver := ver) hH id hv wr e zv i.size 0 ys.length 0 [] ys #[] news hzs hst (Nat.zero_le _) (by omega) (by intro i e h; simp at h) (by intro e h; simp at h) hyl n1 n4 [] (by simp) (by intro p hp; simp at hp) (by omega)
      simp only [List.take_nil, List.nil_append] at hgo
      simp only [List.take_zero, List.nil_append, Nat.zero_add]
      refine ⟨_, _, _, _, .inl (exec_append c x y ty hc hargs hts ho ?_), hgo⟩
      rw [e1, hye, hao]
      simp only [Nat.zero_add] at hb h63
      cases a' with
      | none =>
        have := run_append_nil (P := P) w ty o.type e i zv hu hi hzv ⟨b, o', none⟩ ys.length cy news n1 n2 (by omega) (by omega) (by omega)
        rw [this]; simp
      | some b0 =>
        have := run_append_grow (P := P) w ty o.type e i zv hu hi hzv b0 0 0 [] (by simp) (by intro j v h; simp at h) ⟨b, o', none⟩ ys.length cy news n1 n2 (by omega) (by omega) (growslice_fits (by omega) (by simpa using hb))
        simp only [Nat.zero_add] at this
        rw [this]
    · rcases hq with ⟨hq, _⟩ | ⟨g', cur', hg', hh', hsz, hrep, himm⟩
      · rw [hg] at hq; cases hq
      rw [hg] at hg'; cases hg'
      rw [hh] at hh'; cases hh'
      have hnsz : n * i.size ≤ cur.size := Nat.le_trans (Nat.mul_le_mul_right _ hn) hsz
      by_cases hroom : n + ys.length ≤ cap
      · have hfit : n * i.size + news.length ≤ cur.size := by rw [n1, hcs, ← Nat.add_mul]; exact Nat.mul_le_mul_right _ hroom
        have hr := run_append_room (P := P) w ty o.type e i hu hi g n cap cur hh ⟨b, o', none⟩ ys.length cy news n1 n2 n3 hroom hfit
        have hA : (cur.toList.take (n * i.size)).length = n * i.size := by simp; omega
        have hAc : ∀ p, p < n * i.size → (cur.toList.take (n * i.size))[p]? = cur[p]? := fun p hp => by rw [List.getElem?_take_of_lt hp, Array.getElem?_toList]
        have hlen : (es.take n ++ ys).length = n + ys.length := by simp; omega
        refine ⟨_, _, _, _, .inl (exec_append c x y ty hc hargs hts ho ?_), goes_arr_at (w' := w.setRow g (cur.toList.take (n * i.size) ++ news ++ cur.toList.drop (n * i.size + news.length)).toArray) hH id v0 ver hv wr i.size e es (es.take n ++ ys) hB rfl rfl rfl g hg cur _ hh (setRow_heap w g cur _ e (0, 0) hh) (by simp)
          (fun b hb => setRow_other w g b _ hb) ?_ ?_ ?_ ?_ ?_ (app_rep hn hrep hls hyl n1 n4 hA hAc) (n + ys.length) cap (by omega) hroom hcm hcs⟩
        · rw [e1, hye, hao]; exact hr
        · simp only [List.size_toArray, List.length_append, List.length_take, List.length_drop, Array.length_toList]; omega
        · intro p hp
          obtain ⟨hwr, hpl⟩ := himm p hp
          have hne : n = es.length := by rcases hnw with h | h; exact h; rw [hwr] at h; cases h
          simp only [List.getElem?_toArray]
          rw [List.append_assoc, List.getElem?_append_left (by rw [hA, hne]; exact hpl), hAc p (by rw [hne]; exact hpl)]
        · intro p hp
          obtain ⟨hwr, hpl⟩ := himm p hp
          have hne : n = es.length := by rcases hnw with h | h; exact h; rw [hwr] at h; cases h
          rw [hlen, Nat.add_mul, hne]; omega
        · intro el hel
          rcases List.mem_append.1 hel with h | h
          · exact hls el (List.mem_of_mem_take h)
          · exact hyl el h
        · rw [hlen, hcs]; exact Nat.mul_le_mul_right _ hroom
      · have hA : (cur.toList.take (n * i.size)).length = n * i.size := by simp; omega
        have hAc : ∀ p, p < n * i.size → (cur.toList.take (n * i.size))[p]? = cur[p]? := fun p hp => by rw [List.getElem?_take_of_lt hp, Array.getElem?_toList]
        have hgo := grow_goes (w := w) (imm := imm) (ver := ver) hH id hv wr e zv i.size n (n + ys.length) cap es ys cur news hzs hst hn rfl hrep hls hyl n1 n4 (cur.toList.take (n * i.size)) hA hAc h63
        have holds : ∀ (j : Nat) v, (cur.toList.take (n * i.size))[j]? = some v → w.cell? ((⟨g, 0, none⟩ : Addr).add j) = some v := by
          intro j v hv
          have hj : j < n * i.size := by have := (List.getElem?_eq_some_iff.1 hv).1; omega
          rw [hAc j hj] at hv
          rw [add_eq, Nat.zero_add, cell_of_row w g j cur e _ hh]; exact hv
        refine ⟨_, _, _, _, .inl (exec_append c x y ty hc hargs hts ho ?_), hgo⟩
        rw [e1, hye, hao]
        exact run_append_grow (P := P) w ty o.type e i zv hu hi hzv ⟨g, 0, none⟩ n cap _ hA holds ⟨b, o', none⟩ ys.length cy news n1 n2 (by omega) (by omega) (growslice_fits (by omega) hb)

theorem exec_copy (c : Call) (x y : Operand) (ty ty2 : TypeId) (hc : c.callee = .builtin .copy) (hargs : c.args.toList = [x, y]) (hts : c.argTypes.toList = [ty, ty2]) (ho : o.op = .call c) {v : Value} {w' : World}
    (h : (Builtin.copy_ #[ty, ty2] o.type #[a.eval x, a.eval y]).run P w = .ok v w') : (execOp a.eval o).run P w = .ok (.value v) w' := by
  have ea : c.args = #[x, y] := by rw [← Array.toArray_toList (xs := c.args), hargs]
  have et : c.argTypes = #[ty, ty2] := by rw [← Array.toArray_toList (xs := c.argTypes), hts]
  simp [execOp, ho, resolve, hc, ea, et, invoke, builtin, h]
theorem dst_ok {x : Value} {v : T} (h : TRep w imm H L U x v) {id vv l n : Nat} (hd : dstOf v = some (id, vv, l, n)) {wr : Bool} {ty : TypeId} {es : List (List V)} (hB : H id = some (.arr vv wr 1 ty es)) :
    ∃ ad k, x = .slice ad n k ∧ (n = 0 ∨ ∃ g, L id = some g ∧ ad = some ⟨g, l, none⟩) := by
  unfold dstOf at hd
  split at hd
  · cases hd
    obtain ⟨_, ⟨ad, k, hx, _⟩, h3⟩ := (show CRep w imm H L U x (.own id vv n) from h)
    obtain ⟨_, hov⟩ := h3 _ _ _ _ hB
    refine ⟨ad, k, hx, ?_⟩
    rcases hov with ⟨a', e1, rfl⟩ | ⟨b, cap, cur, hb, e1, _⟩
    · exact .inl rfl
    · rw [hx] at e1; cases e1
      exact .inr ⟨b, hb, rfl⟩
  · cases hd
    obtain ⟨_, ⟨ad, k, hx, _⟩, h3⟩ := (show CRep w imm H L U x (.ow id vv l n) from h)
    obtain ⟨_, hov⟩ := h3 _ _ _ _ hB
    refine ⟨ad, k, hx, ?_⟩
    rcases hov with rfl | ⟨g, k', hg, e1⟩
    · exact .inl rfl
    · rw [hx] at e1; cases e1
      exact .inr ⟨g, hg, by rw [Nat.mul_one]⟩
  · cases hd
theorem ok_cpy (c : Call) (x y : Operand) (ty ty2 e : TypeId) (x' y' : Opd) (hc : c.callee = .builtin .copy) (hargs : c.args.toList = [x, y]) (hts : c.argTypes.toList = [ty, ty2]) (he : elemT P ty = some e) (hi : sizeT P e = some 1)
    (hx : cOpd x = some x') (hy : cOpd y = some y') (hH : HOk w imm H L U) (hT : ∀ i, TRep w imm H L U (a.tmps.getD i undef) (t i)) (ho : o.op = .call c) {ys : List (List V)} {ns : List Nat} (hs : srcOf H (ev t y') = some (ys, ns)) (hyl : ∀ e ∈ ys, e.length = 1)
    {id v l n : Nat} (hd : dstOf (ev t x') = some (id, v, l, n)) {tya : TypeId} {es : List (List V)} (hB : H id = some (.arr v true 1 tya es)) (hln : l + n ≤ es.length) :
    OpR P a o w imm H L U (upd H id (some (.arr v true 1 tya (es.take l ++ ys.take n ++ es.drop (l + min ys.length n))))) (with_ U ver) (.i (min ys.length n : Nat)) := by
  have hu := elemT_ok he
  obtain ⟨ad, k, hxe, hdst⟩ := dst_ok (cOpd_ok hT hx) hd hB
  obtain ⟨ao, cy, hye, hsrc⟩ := srcOf_ok hH (cOpd_ok hT hy) hs
  have hz : (P.info? e).map (·.size) = some 1 := hi
  by_cases h0 : min ys.length n = 0
  · have hes : es.take l ++ ys.take n ++ es.drop (l + min ys.length n) = es := by
      have : ys.take n = [] := List.length_eq_zero_iff.1 (by rw [List.length_take]; omega)
      rw [this, h0]; simp
    have hHs : upd H id (some (.arr v true 1 tya (es.take l ++ ys.take n ++ es.drop (l + min ys.length n)))) = H := by
      rw [hes]; funext m; by_cases e : m = id <;> simp [upd, e, hB]
    rw [hHs, h0]
    refine opR_pure hH (exec_copy c x y ty ty2 hc hargs hts ho ?_) (.s _ rfl)
    rw [hxe, hye]
    exact run_copy_none w ty ty2 o.type e ad ao n k ys.length cy hu hz h0
  · have hn0 : n ≠ 0 := by omega
    have hy0 : ys ≠ [] := fun e => by subst e; simp at h0
    rcases hdst with hdst | ⟨g, hg, rfl⟩
    · exact absurd hdst hn0
    rcases hsrc with hsrc | ⟨b, o', st, rfl, hl, hcell⟩
    · exact absurd hsrc hy0
    have hss : st = 1 := by
      cases ys with
      | nil => exact absurd rfl hy0
      | cons e1 ys => rw [← hl e1 (by simp), hyl e1 (by simp)]
    subst hss
    obtain ⟨news, n1, n2, n3, n4⟩ := src_row hl Nat.one_pos hcell
    obtain ⟨_, _, hls, hq⟩ := hH.blk id _ hB
    rcases hq with ⟨hq, _⟩ | ⟨g', cur, hg', hh, hsz, hrep, _⟩
    · rw [hg] at hq; cases hq
    rw [hg] at hg'; cases hg'
    have hcl : (news.take n).length = min ys.length n := by rw [List.length_take, n1]; omega
    have hyt : (ys.take n).length = min ys.length n := by rw [List.length_take]; omega
    have hrun := run_copy_row (P := P) w ty ty2 o.type e g l n k ⟨b, o', none⟩ ys.length cy cur tya (news.take n) hu hz hh hcl (fun j u hj => n2 j u (by
      rw [List.getElem?_take] at hj
      split at hj
      · exact hj
      · cases hj)) (by rw [hcl]; omega) (fun u hu => n3 u (List.mem_of_mem_take hu))
    have hg2 := goes_storeA (U' := with_ U ver) (fun _ h => .inl h) hH id v 1 tya es (es.take l ++ ys.take n ++ es.drop (l + min ys.length n)) hB g hg cur hh (cur.toList.take l ++ news.take n ++ cur.toList.drop (l + (news.take n).length)).toArray (by
      simp only [List.size_toArray, List.length_append, List.length_take, List.length_drop, Array.length_toList]; omega) (by
      simp only [List.length_append, List.length_take, List.length_drop]; omega) (fun e' he' => by
      rcases List.mem_append.1 he' with h | h
      · rcases List.mem_append.1 h with h | h
        · exact hls e' (List.mem_of_mem_take h)
        · exact hyl e' (List.mem_of_mem_take h)
      · exact hls e' (List.mem_of_mem_drop h)) (fun i e' he' q u hq => by
      have hq0 : q = 0 := by
        have hlen : e'.length = 1 := by
          have hm := List.mem_of_getElem? he'
          rcases List.mem_append.1 hm with h | h
          · rcases List.mem_append.1 h with h | h
            · exact hls e' (List.mem_of_mem_take h)
            · exact hyl e' (List.mem_of_mem_take h)
          · exact hls e' (List.mem_of_mem_drop h)
        have := (List.getElem?_eq_some_iff.1 hq).1
        omega
      subst hq0
      have hA : (cur.toList.take l).length = l := by simp; omega
      have hE : (es.take l).length = l := by simp; omega
      simp only [Nat.mul_one, Nat.add_zero, List.getElem?_toArray]
      rw [List.append_assoc] at he' ⊢
      rcases Nat.lt_or_ge i l with h1 | h1
      · rw [List.getElem?_append_left (by omega), List.getElem?_take_of_lt h1] at he'
        rw [List.getElem?_append_left (by omega), List.getElem?_take_of_lt h1, Array.getElem?_toList]
        simpa using hrep i e' he' 0 u hq
      · rw [List.getElem?_append_right (by omega), hE] at he'
        rw [List.getElem?_append_right (by omega), hA]
        rcases Nat.lt_or_ge (i - l) (min ys.length n) with h2 | h2
        · rw [List.getElem?_append_left (by omega), List.getElem?_take_of_lt (by omega)] at he'
          rw [List.getElem?_append_left (by omega), List.getElem?_take_of_lt (by omega)]
          simpa using n4 (i - l) 0 u (by simp [at2, he', hq])
        · rw [List.getElem?_append_right (by omega), hyt, List.getElem?_drop, show l + min ys.length n + (i - l - min ys.length n) = i from by omega] at he'
          rw [List.getElem?_append_right (by omega), hcl, List.getElem?_drop, show l + min ys.length n + (i - l - min ys.length n) = i from by omega, Array.getElem?_toList]
          simpa using hrep i e' he' 0 u hq)
    refine ⟨_, _, _, _, .inl (exec_copy c x y ty ty2 hc hargs hts ho ?_), ⟨.s _ rfl, hg2.hok, hg2.ext, hg2.step, hg2.near⟩⟩
    rw [hxe, hye, hrun, hcl]
    rfl

theorem bytesOf_ok {b o' st : Nat} : ∀ {ys : List (List V)} {ns : List Int} {k : Nat}, bytesOf ys = some ns → (∀ e ∈ ys, e.length = st) → (∀ i j y, at2 ys i j = some y → ∃ u, w.cell? ⟨b, o' + (k + i) * st + j, none⟩ = some u ∧ VRep w imm u y) →
    ys.length = ns.length ∧ (∀ j v, (ns.map (Value.int .u8))[j]? = some v → w.cell? ⟨b, o' + (k + j), none⟩ = some v) ∧ (ys ≠ [] → st = 1)
  | [], ns, k, h, _, _ => by simp [bytesOf] at h; subst h; exact ⟨rfl, fun j v hv => by simp at hv, fun h => absurd rfl h⟩
  | e :: es, ns, k, h, hl, hc => by
    unfold bytesOf at h
    split at h
    · rename_i e1; cases e1
    · rename_i n es' e1
      cases e1
      simp only [Option.map_eq_some_iff] at h
      obtain ⟨ms, hms, rfl⟩ := h
      have hst : st = 1 := (hl [.s (.int .u8 n)] (by simp)).symm
      obtain ⟨i1, i2, _⟩ := bytesOf_ok (k := k + 1) hms (fun e he => hl e (by simp [he])) (fun i j y hy => by
        obtain ⟨u, h1, h2⟩ := hc (i + 1) j y (by simpa [at2] using hy)
        exact ⟨u, by rw [← h1]; congr 2; rw [show k + 1 + i = k + (i + 1) from by omega], h2⟩)
      refine ⟨by simp [i1], fun j v hv => ?_, fun _ => hst⟩
      cases j with
      | zero =>
        simp at hv; subst hv
        obtain ⟨u, h1, h2⟩ := hc 0 0 (.s (.int .u8 n)) (by simp [at2])
        cases h2
        rw [hst] at h1
        simpa using h1
      | succ j =>
        have := i2 j v (by simpa using hv)
        rw [show k + (j + 1) = k + 1 + j from by omega]; exact this
    · cases h
theorem ok_cnvBS (s d e : TypeId) (x : Operand) (x' : Opd) (hs : P.underlying s = some (.slice e)) (he : P.underlying e = some (.int .u8)) (hd : P.underlying d = some .string) (hx : cOpd x = some x') (hH : HOk w imm H L U) (hT : ∀ i, TRep w imm H L U (a.tmps.getD i undef) (t i)) (ho : o.op = .convert s d x)
    {ys : List (List V)} {ns : List Nat} {bs : List Int} (hp : srcOf H (ev t x') = some (ys, ns)) (hb : bytesOf ys = some bs) : OpR P a o w imm H L U H (with_ U ver) (.s (.string (pushB bs))) := by
  obtain ⟨ao, c, hxe, h2⟩ := srcOf_ok hH (cOpd_ok hT hx) hp
  refine opR_pure hH (x := .string (pushB bs)) ?_ (.s _ rfl)
  have hlen : ∀ {ys : List (List V)} {bs : List Int}, bytesOf ys = some bs → ys.length = bs.length := by
    intro ys
    induction ys with
    | nil => intro bs h; simp [bytesOf] at h; subst h; rfl
    | cons e es ih =>
      intro bs h
      unfold bytesOf at h
      split at h
      · rename_i e1; cases e1
      · rename_i n es' e1; cases e1
        simp only [Option.map_eq_some_iff] at h
        obtain ⟨ms, hms, rfl⟩ := h
        simp [ih hms]
      · cases h
  have key : (Conv.bytesToString (.slice ao ys.length c)).run P w = .ok (.string (pushB bs)) w := by
    cases ao with
    | none =>
      rcases h2 with rfl | ⟨b, o', st, h, _⟩
      · simp [bytesOf] at hb; subst hb
        show (pure (.string ByteArray.empty) : Sem Value).run P w = _
        rw [Sem.run_pure]; rfl
      · cases h
    | some ad =>
      rcases h2 with rfl | ⟨b, o', st, h, hl, hc⟩
      · simp [bytesOf] at hb; subst hb
        exact run_bytesToString w ad 0 c [] (by simpa using run_loadCells_list (P := P) w ad [] (fun j v hj => by simp at hj))
      · cases h
        obtain ⟨i1, i2, i3⟩ := bytesOf_ok (k := 0) hb hl (fun i j y hy => by simpa using hc i j y hy)
        refine run_bytesToString w _ _ c bs ?_
        have := run_loadCells_list (P := P) w ⟨b, o', none⟩ (bs.map (Value.int .u8)) (fun j v hj => by rw [add_eq]; simpa using i2 j v hj)
        rw [List.length_map, ← i1] at this
        exact this
  simp [execOp, ho, hxe, run_convert_bytes_string w s d e ao ys.length c hs he hd, key]
theorem ok_isnil (op : BinOp) (ty ty2 e : TypeId) (x : Operand) (x' : Opd) (hu : P.underlying ty = some (.slice e)) (hx : cOpd x = some x') (hH : HOk w imm H L U) (hT : ∀ i, TRep w imm H L U (a.tmps.getD i undef) (t i)) (ho : o.op = .binOp op ty x (.const (.slice none 0 0)) ty2) (neg : Bool) (hop : op = if neg then .neq else .eql) {q : Bool}
    (hp : (∃ e es, ev t x' = .pt (.one (.v (.sl (e :: es)))) ∧ q = neg) ∨ (∃ ad n c, ev t x' = .pt (.one (.v (.s (.slice ad n c)))) ∧ q = (ad.isNone != neg))) : OpR P a o w imm H L U H (with_ U ver) (.b q) := by
  have h1 := cOpd_ok hT hx
  obtain ⟨ad, n, c, hxe, hq⟩ : ∃ ad n c, a.eval x = .slice ad n c ∧ q = (ad.isNone != neg) := by
    rcases hp with ⟨e, es, hp, rfl⟩ | ⟨ad, n, c, hp, rfl⟩ <;> rw [hp] at h1
    · have h2 : VRep w imm (a.eval x) (.sl (e :: es)) := h1
      generalize a.eval x = y at h2
      cases h2
      exact ⟨_, _, _, rfl, by simp⟩
    · exact ⟨ad, n, c, rep_s h1, rfl⟩
  refine opR_pure hH (x := .bool q) ?_ (.s _ rfl)
  have hk : a.eval (.const (.slice none 0 0)) = .slice none 0 0 := rfl
  have heq : (Op.equal ty (.slice ad n c) (.slice none 0 0)).run P w = .ok ad.isNone w := by
    have h9 : ∀ d : Nat, (Op.equalIn (d + 1) ty (.slice ad n c) (.slice none 0 0)).run P w = .ok ad.isNone w := fun d => by
      cases ad <;> simp [Op.equalIn, run_underlying hu, Sem.run_pure]
    exact h9 9999
  cases neg <;> simp only [Bool.false_eq_true, if_false, if_true] at hop <;> subst hop <;> subst hq
  · simp only [execOp, ho, hxe, hk, eqGuard]
    simp [binOp, heq]
  · simp only [execOp, ho, hxe, hk, eqGuard]
    simp [binOp, heq]

theorem eBs_len (b : ByteArray) : (eBs b).length = b.size := by simp only [eBs, List.length_map, Array.length_toList]; rfl
theorem eBs_at {b : ByteArray} {i j : Nat} {x : V} (h : at2 (eBs b) i j = some x) : j = 0 ∧ i < b.size ∧ x = .s (.int .u8 (b.data.toList.getD i 0).toNat) := by
  simp only [at2, eBs, List.getElem?_map] at h
  cases hi : b.data.toList[i]? with
  | none => rw [hi] at h; simp at h
  | some c =>
    rw [hi] at h
    simp only [Option.map_some, Option.bind_some] at h
    have hl : i < b.size := by have := (List.getElem?_eq_some_iff.1 hi).1; rwa [Array.length_toList] at this
    cases j with
    | zero =>
      simp at h
      refine ⟨rfl, hl, ?_⟩
      rw [List.getD_eq_getElem?_getD, hi]; exact h.symm
    | succ j => simp at h
/-- A row that nobody writes, made of a text. -/
theorem ok_cnvSB (s d e : TypeId) (x : Operand) (x' : Opd) (hs : P.underlying s = some .string) (hd : P.underlying d = some (.slice e)) (he : P.underlying e = some (.int .u8)) (hx : cOpd x = some x') (hH : HOk w imm H L U) (hT : ∀ i, TRep w imm H L U (a.tmps.getD i undef) (t i)) (ho : o.op = .convert s d x)
    {b : ByteArray} (hp : ev t x' = .pt (.one (.v (.s (.string b))))) : OpR P a o w imm H L U H (with_ U ver) (.pt (.one (.v (.sl (eBs b))))) := by
  have h1 := cOpd_ok hT hx
  rw [hp] at h1
  have hxe : a.eval x = .string b := rep_s h1
  have hrun := Lib.run_convert_string_bytes (P := P) w s d e b hs hd he
  have hold : ∀ k, k < w.heap.size → (Lib.bytesWorld w e b).heap[k]? = w.heap[k]? := Lib.bytesWorld_at_old w e b
  have hk : ∀ c k, imm c k → (imm c k ∨ (c = w.heap.size ∧ k < b.size)) ∧ (Lib.bytesWorld w e b).cell? ⟨c, k, none⟩ = w.cell? ⟨c, k, none⟩ := fun c k h => ⟨.inl h, cell_of_heap (hold c (hH.imm c k h))⟩
  have hext : Ext w H L U (Lib.bytesWorld w e b) H L (with_ U ver) := by
    refine ⟨fun v h => .inl h, fun n v ty cs _ h => ⟨ty, cs, h, rfl⟩, fun n v wr st ty es _ h => ⟨wr, es, h, Nat.le_refl _, rfl⟩, fun n v wr st ty es g cur _ h hg hc => ⟨cur, ?_, rfl⟩, fun n v wr st ty es op _ h => ⟨wr, es, op, h, Nat.le_refl _, rfl⟩, fun n v wr st ty es op g cur _ h hg hc => ⟨cur, ?_, rfl⟩⟩
    all_goals
      rw [hold g (Array.getElem?_eq_some_iff.1 hc).1]; exact hc
  refine ⟨.slice (some ⟨w.heap.size, 0, none⟩) b.size (grownCap w b.size 0 e), Lib.bytesWorld w e b, fun c k => imm c k ∨ (c = w.heap.size ∧ k < b.size), L, .inl (by simp [execOp, ho, hxe, hrun]), ⟨?_, ⟨fun n B hB => ?_, hH.inj, fun n g h1 h2 => ⟨?_, (hH.sub n g h1 h2).2⟩, hH.glob.keep hk, fun c k h => ?_⟩, hext, ⟨rfl, rfl, rfl, ?_, fun c hc _ => hold c hc, hk, fun c k h => ?_⟩, Near.refl _ _ _⟩⟩
  · show VRep _ _ _ (.sl (eBs b))
    by_cases h0 : b.size = 0
    · have : eBs b = [] := List.length_eq_zero_iff.1 (by rw [eBs_len]; exact h0)
      rw [this, h0]
      exact .nil _ _
    · have := VRep.sl (w := Lib.bytesWorld w e b) (imm := fun c k => imm c k ∨ (c = w.heap.size ∧ k < b.size)) (eBs b) 1 w.heap.size 0 (grownCap w b.size 0 e) (fun i _ => .int .u8 (b.data.toList.getD i 0).toNat) (by decide) (fun h => h0 (by rw [← eBs_len, h]; rfl)) (by rw [eBs_len]; exact grownCap_ge w b.size 0 e)
        (fun el hel => by simp only [eBs, List.mem_map] at hel; obtain ⟨_, _, rfl⟩ := hel; rfl) (fun i j x hx => by
          obtain ⟨rfl, hi, _⟩ := eBs_at hx
          have := Lib.bytesWorld_cell w e b i hi
          simp only [Nat.zero_add, Nat.mul_one, Nat.add_zero]
          exact ⟨this, .inr ⟨trivial, hi⟩⟩) (fun i j x hx => by
          obtain ⟨rfl, hi, rfl⟩ := eBs_at hx
          exact .s _ rfl)
      rw [eBs_len] at this
      exact this
  · refine BOk.mono hk hext rfl rfl (fun g hg => hold g (hH.lt (by rw [hB]; simp) hg)) (fun g k hg h => ?_) (hH.blk n B hB)
    rcases h with h | ⟨h, _⟩
    · exact h
    · have := hH.lt (by rw [hB]; simp) hg
      omega
  · have := (hH.sub n g h1 h2).1
    rw [Lib.bytesWorld_size]; omega
  · rw [Lib.bytesWorld_size]
    rcases h with h | ⟨rfl, _⟩
    · have := hH.imm c k h; omega
    · omega
  · rw [Lib.bytesWorld_size]; omega
  · rcases h with h | ⟨rfl, _⟩
    · exact .inl h
    · exact .inr (.inl (Nat.le_refl _))
theorem exec_appendS (c : Call) (x y : Operand) (ty ty2 : TypeId) (hc : c.callee = .builtin .append) (hargs : c.args.toList = [x, y]) (hts : c.argTypes.toList = [ty, ty2]) (ho : o.op = .call c) {v : Value} {w' : World}
    (h : (Builtin.append_ #[ty, ty2] o.type #[a.eval x, a.eval y]).run P w = .ok v w') : (execOp a.eval o).run P w = .ok (.value v) w' := by
  have ea : c.args = #[x, y] := by rw [← Array.toArray_toList (xs := c.args), hargs]
  have et : c.argTypes = #[ty, ty2] := by rw [← Array.toArray_toList (xs := c.argTypes), hts]
  simp [execOp, ho, resolve, hc, ea, et, invoke, builtin, h]
theorem ok_appS (c : Call) (x y : Operand) (ty ty2 e : TypeId) (i : TypeInfo) (z : List C) (x' y' : Opd) (hc : c.callee = .builtin .append) (hargs : c.args.toList = [x, y]) (hts : c.argTypes.toList = [ty, ty2]) (h2 : P.underlying ty2 = some .string) (he : elemT P ty = some e) (hi : P.info? e = some i) (hz : zeroCs P e = some z) (hzl : z.length = 1) (hst : i.size = 1)
    (hx : cOpd x = some x') (hy : cOpd y = some y') (hH : HOk w imm H L U) (hT : ∀ i, TRep w imm H L U (a.tmps.getD i undef) (t i)) (hv : ¬ U ver) (ho : o.op = .call c) {b : ByteArray} (hs : ev t y' = .pt (.one (.v (.s (.string b)))))
    {id v0 n : Nat} (hp : ev t x' = .pt (.one (.own id v0 n))) {wr : Bool} {es : List (List V)} (hB : H id = some (.arr v0 wr 1 e es)) (h0 : 0 < n) (hn : n ≤ es.length) (hnw : n = es.length ∨ wr = true) (hb : (n + b.size) * i.bytes ≤ 140737488355328) (h63 : n + b.size ≤ 9223372036854775807) :
    OpR P a o w imm H L U (upd H id (some (.arr ver wr 1 e (es.take n ++ eBs b)))) (with_ U ver) (.pt (.one (.own id ver (n + b.size)))) := by
  have h1 := cOpd_ok hT hx
  rw [hp] at h1
  obtain ⟨_, ⟨ad, k, hxe, hnk⟩, h3⟩ := (show CRep w imm H L U (a.eval x) (.own id v0 n) from h1)
  obtain ⟨_, hov⟩ := h3 _ _ _ _ hB
  have hy1 := cOpd_ok hT hy
  rw [hs] at hy1
  have hye : a.eval y = .string b := rep_s hy1
  have hu := elemT_ok he
  obtain ⟨i', zv, hi', hzv, hzc⟩ := zeroCs_ok hz
  rw [hi] at hi'; cases hi'
  have hzs : zv.cells.size = 1 := by have := constCs_len hzc; simp at this; omega
  obtain ⟨_, _, hls, hq⟩ := hH.blk id _ hB
  rcases hov with ⟨a', e1, e2⟩ | ⟨g, cap, cur, hg, e1, hh, hnc, hcm, hcs⟩
  · omega
  rcases hq with ⟨hq, _⟩ | ⟨g', cur', hg', hh', hsz, hrep, himm⟩
  · rw [hg] at hq; cases hq
  rw [hg] at hg'; cases hg'
  rw [hh] at hh'; cases hh'
  have hnsz : n * 1 ≤ cur.size := Nat.le_trans (Nat.mul_le_mul_right _ hn) hsz
  have n1 : (Lib.strCells b).length = (eBs b).length * 1 := by rw [Lib.strCells_length, eBs_len, Nat.mul_one]
  have hyl : ∀ el ∈ eBs b, el.length = 1 := fun el hel => by simp only [eBs, List.mem_map] at hel; obtain ⟨_, _, rfl⟩ := hel; rfl
  have n4 : ∀ i j y, at2 (eBs b) i j = some y → ∃ u, (Lib.strCells b)[i * 1 + j]? = some u ∧ VRep w imm u y := fun i j y hxy => by
    obtain ⟨rfl, hi, rfl⟩ := eBs_at hxy
    refine ⟨_, ?_, .s _ rfl⟩
    simp only [Lib.strCells, Nat.mul_one, Nat.add_zero, List.getElem?_map]
    have hlt : i < b.data.toList.length := by rw [Array.length_toList]; exact hi
    rw [List.getD_eq_getElem?_getD, List.getElem?_eq_getElem hlt]; rfl
  have hA : (cur.toList.take (n * 1)).length = n * 1 := by simp; omega
  have hAc : ∀ p, p < n * 1 → (cur.toList.take (n * 1))[p]? = cur[p]? := fun p hp => by rw [List.getElem?_take_of_lt hp, Array.getElem?_toList]
  by_cases hroom : n + b.size ≤ cap
  · have hfit : n + b.size ≤ cur.size := by rw [hcs, Nat.mul_one]; exact hroom
    have hr := Lib.run_append_room_string (P := P) w ty ty2 o.type e i hu h2 hi hst g n cap cur hh b hroom hfit
    have hlen : (es.take n ++ eBs b).length = n + b.size := by rw [List.length_append, eBs_len, List.length_take]; omega
    refine ⟨_, _, _, _, .inl (exec_appendS c x y ty ty2 hc hargs hts ho (by rw [e1, hye]; exact hr)), goes_arr_at (w' := w.setRow g (cur.toList.take n ++ Lib.strCells b ++ cur.toList.drop (n + b.size)).toArray) hH id v0 ver hv wr 1 e es (es.take n ++ eBs b) hB rfl rfl rfl g hg cur _ hh (setRow_heap w g cur _ e (0, 0) hh) (by simp)
      (fun b hb => setRow_other w g b _ hb) ?_ ?_ ?_ ?_ ?_ ?_ (n + b.size) cap (by omega) hroom hcm hcs⟩
    · simp only [List.size_toArray, List.length_append, List.length_take, List.length_drop, Array.length_toList, Lib.strCells_length]; omega
    · intro p hp
      obtain ⟨hwr, hpl⟩ := himm p hp
      have hne : n = es.length := by rcases hnw with h | h; exact h; rw [hwr] at h; cases h
      simp only [List.getElem?_toArray]
      rw [List.append_assoc, List.getElem?_append_left (by simp; omega), List.getElem?_take_of_lt (by omega), Array.getElem?_toList]
    · intro p hp
      obtain ⟨hwr, hpl⟩ := himm p hp
      have hne : n = es.length := by rcases hnw with h | h; exact h; rw [hwr] at h; cases h
      rw [hlen]; omega
    · intro el hel
      rcases List.mem_append.1 hel with h | h
      · exact hls el (List.mem_of_mem_take h)
      · exact hyl el h
    · rw [hlen, hcs]; exact Nat.mul_le_mul_right _ hroom
    · have := app_rep (w := w) (imm := imm) hn hrep hls hyl n1 n4 (A := cur.toList.take (n * 1)) (B := cur.toList.drop (n + b.size)) hA hAc
      simpa only [Nat.mul_one] using this
  · have hgo := grow_goes (w := w) (imm := imm) (ver := ver) hH id hv wr e zv 1 n (n + b.size) cap es (eBs b) cur (Lib.strCells b) hzs (by decide) hn (by rw [eBs_len]) hrep hls hyl n1 n4 (cur.toList.take (n * 1)) hA hAc h63
    have holds : ∀ (j : Nat) v, (cur.toList.take (n * 1))[j]? = some v → w.cell? ((⟨g, 0, none⟩ : Addr).add j) = some v := by
      intro j v hv
      have hj : j < n * 1 := by have := (List.getElem?_eq_some_iff.1 hv).1; omega
      rw [hAc j hj] at hv
      rw [add_eq, Nat.zero_add, cell_of_row w g j cur e _ hh]; exact hv
    refine ⟨_, _, _, _, .inl (exec_appendS c x y ty ty2 hc hargs hts ho ?_), hgo⟩
    rw [e1, hye]
    exact Lib.run_append_grow_string (P := P) w ty ty2 o.type e i zv hu h2 hi hzv ⟨g, 0, none⟩ n cap _ (by rw [hst]; exact hA) holds b (by omega) (by omega) (growslice_fits (by omega) hb)

/-! Rows of trees are appended. -/
theorem join_goes (hH : HOk w imm H L U) (hv : ¬ U ver) (id d2 : Nat) (hne : id ≠ d2) {st : Nat} {ty : TypeId} (hst : 0 < st) {v2 st2 : Nat} {es2 : List (List V)} (h2 : H d2 = some (.tree v2 true st2 ty es2 none)) (X : Prop) (hX : X → ∃ v0 es0, H id = some (.tree v0 true st ty es0 none))
    (gr : Option Nat) (es' : List (List V)) (x : Value) {w' : World} (hos : w'.os = w.os) (htape : w'.tape = w.tape) (hout : w'.output = w.output) (hsize : w.heap.size ≤ w'.heap.size)
    (hframe : ∀ b, b < w.heap.size → gr ≠ some b → w'.heap[b]? = w.heap[b]?) (hgr : ∀ g, gr = some g → (g = w.heap.size ∧ g < w'.heap.size) ∨ (X ∧ L id = some g)) (hl : ∀ e ∈ es', e.length = st)
    (hval : ∃ a k, x = .slice a es'.length k ∧ es'.length ≤ k) (hov : OwnV w' gr st ty es'.length x)
    (hrow : (gr = none ∧ es' = []) ∨ ∃ (g : Nat) (new : Array Value) (part : Nat → Nat → Nat → Prop), gr = some g ∧ w'.heap[g]? = some (.cells new ty (0, 0)) ∧ es'.length * st ≤ new.size ∧ (∀ i j b, part i j b → (X ∧ L.sub id b) ∨ L.sub d2 b) ∧ (∀ i j i' j' b, part i j b → part i' j' b → i = i' ∧ j = j') ∧
      ∀ i j y, at2 es' i j = some y → ∃ u, new[i * st + j]? = some u ∧ VTree w (tsub ty j) u y (part i j)) :
    ∃ L', Goes w imm H L U (updH H [(d2, .arr ver true st ty []), (id, .tree ver true st ty es' none)]) (with_ U ver) (.pt (.one (.tr id ver es'.length))) x w' imm L' := by
  let L' : Locs := ⟨fun m => if m = id then gr else L m, fun m => if m = id then (fun b => (X ∧ L.sub id b) ∨ L.sub d2 b) else if m = d2 then noB else L.sub m⟩
  obtain ⟨_, _, _, _, hsi2, hq2⟩ := hH.blk d2 _ h2
  have h2n : H d2 ≠ none := by simp [h2]
  have hXn : X → H id ≠ none := fun h => by obtain ⟨_, _, h⟩ := hX h; simp [h]
  have hXi : X → ∀ b o, L.Own id b → ¬ imm b o := fun h b o hb ho => by
    obtain ⟨v0, es0, hB⟩ := hX h
    obtain ⟨_, _, _, _, hsi, hq⟩ := hH.blk id _ hB
    rcases hb with hb | hb
    · rcases hq with ⟨hq, _⟩ | ⟨g, cur, part, hg, _, _, _, _, _, _, hi⟩
      · rw [hb] at hq; cases hq
      · rw [hb] at hg; cases hg
        have := hi o ho; cases this
    · have := hsi b o hb ho; cases this
  have h2i : ∀ b o, L.Own d2 b → ¬ imm b o := fun b o hb ho => by
    rcases hb with hb | hb
    · rcases hq2 with ⟨hq, _⟩ | ⟨g, cur, part, hg, _, _, _, _, _, _, hi⟩
      · rw [hb] at hq; cases hq
      · rw [hb] at hg; cases hg
        have := hi o ho; cases this
    · have := hsi2 b o hb ho; cases this
  have hne2 : ∀ b, L.Own d2 b → gr ≠ some b := fun b hb e => by
    rcases hgr b e with ⟨h, _⟩ | ⟨h, h'⟩
    · have := hH.lt h2n hb; omega
    · exact hne (hH.inj id d2 b (hXn h) h2n (.inl h') hb)
  have hne1 : ∀ b, X → L.sub id b → gr ≠ some b := fun b hx hb e => by
    rcases hgr b e with ⟨h, _⟩ | ⟨_, h'⟩
    · have := hH.lt (hXn hx) (.inr hb); omega
    · exact (hH.sub id b (hXn hx) hb).2 h'
  have hk : ∀ b o, imm b o → imm b o ∧ w'.cell? ⟨b, o, none⟩ = w.cell? ⟨b, o, none⟩ := fun b o h => ⟨h, cell_of_heap (hframe b (hH.imm b o h) fun e => by
    rcases hgr b e with ⟨h1, _⟩ | ⟨h1, h2⟩
    · have := hH.imm b o h; omega
    · exact hXi h1 b o (.inl h2) h)⟩
  have hHid : (updH H [(d2, .arr ver true st ty []), (id, .tree ver true st ty es' none)]) id = some (.tree ver true st ty es' none) := by simp [updH]
  have hHd2 : (updH H [(d2, .arr ver true st ty []), (id, .tree ver true st ty es' none)]) d2 = some (.arr ver true st ty []) := by simp only [updH]; rw [upd_ne _ _ (Ne.symm hne), upd_same]
  have hLid : L' id = gr := by simp [L']
  have hSid : L'.sub id = fun b => (X ∧ L.sub id b) ∨ L.sub d2 b := by simp [L']
  have hLd2 : L' d2 = L d2 := by simp [L', Ne.symm hne]
  have hSd2 : L'.sub d2 = noB := by simp [L', Ne.symm hne]
  have hcase : ∀ m, ¬ (m ≠ id ∧ m ≠ d2) → m = id ∨ m = d2 := fun m h => by
    by_cases h1 : m = id
    · exact .inl h1
    · exact .inr (Classical.byContradiction fun h2 => h ⟨h1, h2⟩)
  have hsub2 : ∀ b, L.sub d2 b → L.Own d2 b := fun b h => .inr h
  obtain ⟨k1, k2, k3, k4⟩ := upd_many (w' := w') (imm' := imm) (H' := updH H [(d2, .arr ver true st ty []), (id, .tree ver true st ty es' none)]) (L' := L') (U' := with_ U ver) hH (fun m => m ≠ id ∧ m ≠ d2) hos htape hout hsize
    (fun m hm => ⟨by simp only [updH]; rw [upd_ne _ _ hm.1, upd_ne _ _ hm.2], by simp [L', hm.1], by simp [L', hm.1, hm.2]⟩)
    (fun b hb hnb => hframe b hb fun e => by
      rcases hgr b e with ⟨h1, _⟩ | ⟨h1, h2⟩
      · omega
      · exact hnb id (fun h => h.1 rfl) (hXn h1) (.inl h2)) hk (fun b o h => .inl h)
    (fun m b hm hne' hO => by
      rcases hcase m hm with rfl | rfl
      · rcases hO with hO | hO
        · rw [hLid] at hO
          rcases hgr b hO with ⟨h1, h3⟩ | ⟨h1, h3⟩
          · exact ⟨.inr (by omega), h3⟩
          · exact ⟨.inl ⟨m, fun h => h.1 rfl, hXn h1, .inl h3⟩, Nat.lt_of_lt_of_le (hH.lt (hXn h1) (.inl h3)) hsize⟩
        · rw [hSid] at hO
          rcases hO with ⟨h1, h3⟩ | h3
          · exact ⟨.inl ⟨m, fun h => h.1 rfl, hXn h1, .inr h3⟩, Nat.lt_of_lt_of_le (hH.lt (hXn h1) (.inr h3)) hsize⟩
          · exact ⟨.inl ⟨d2, fun h => h.2 rfl, h2n, .inr h3⟩, Nat.lt_of_lt_of_le (hH.lt h2n (.inr h3)) hsize⟩
      · rcases hO with hO | hO
        · rw [hLd2] at hO
          exact ⟨.inl ⟨m, fun h => h.2 rfl, h2n, .inl hO⟩, Nat.lt_of_lt_of_le (hH.lt h2n (.inl hO)) hsize⟩
        · rw [hSd2] at hO; exact hO.elim)
    (fun m m' g hm hm' _ _ hO hO' => by
      have mix : ∀ g, L'.Own id g → L'.Own d2 g → False := fun g hO hO' => by
        rcases hO' with hO' | hO'
        · rw [hLd2] at hO'
          rcases hO with hO | hO
          · rw [hLid] at hO; exact hne2 g (.inl hO') hO
          · rw [hSid] at hO
            rcases hO with ⟨h1, h3⟩ | h3
            · exact hne (hH.inj id d2 g (hXn h1) h2n (.inr h3) (.inl hO'))
            · exact (hH.sub d2 g h2n h3).2 hO'
        · rw [hSd2] at hO'; exact hO'
      rcases hcase m hm with rfl | rfl <;> rcases hcase m' hm' with rfl | rfl
      · rfl
      · exact (mix g hO hO').elim
      · exact (mix g hO' hO).elim
      · rfl)
    (fun m g hm _ hO e => by
      rcases hcase m hm with rfl | rfl
      · rw [hLid] at e
        rw [hSid] at hO
        rcases hO with ⟨h1, h3⟩ | h3
        · exact hne1 g h1 h3 e
        · exact hne2 g (.inr h3) e
      · rw [hSd2] at hO; exact hO)
    (fun v h => .inl h)
    (fun m B hm hB => by
      refine .inl fun hu => hv ?_
      rcases hcase m hm with rfl | rfl
      · rw [hHid] at hB; cases hB; exact hu
      · rw [hHd2] at hB; cases hB; exact hu)
    (fun hE m B hm hB => by
      rcases hcase m hm with rfl | rfl
      · rw [hHid] at hB; cases hB
        refine ⟨.inr rfl, hst, hl, fun i cs h => (by cases h), fun b o hb ho => ?_, ?_⟩
        · rw [hSid] at hb
          rcases hb with ⟨h1, h3⟩ | h3
          · exact absurd ho (hXi h1 b o (.inr h3))
          · exact absurd ho (h2i b o (.inr h3))
        · rcases hrow with ⟨e1, e2⟩ | ⟨g, new, part, e1, e2, e3, e4, e5, e6⟩
          · exact .inl ⟨hLid.trans e1, e2⟩
          · refine .inr ⟨g, new, part, hLid.trans e1, e2, e3, fun i j b hb => by rw [hSid]; exact e4 i j b hb, e5, fun i j y hy _ => ?_, fun i cs h => (by cases h), fun o ho => ?_⟩
            · obtain ⟨u, h1, h3⟩ := e6 i j y hy
              refine ⟨u, h1, h3.frame (fun _ h => h) fun b hb => ?_⟩
              rcases e4 i j b hb with ⟨h4, h5⟩ | h5
              · exact hframe b (hH.lt (hXn h4) (.inr h5)) (hne1 b h4 h5)
              · exact hframe b (hH.lt h2n (.inr h5)) (hne2 b (.inr h5))
            · rcases hgr g e1 with ⟨h1, _⟩ | ⟨h1, h3⟩
              · have := hH.imm g o ho; omega
              · exact absurd ho (hXi h1 g o (.inl h3))
      · rw [hHd2] at hB; cases hB
        refine ⟨.inr rfl, hst, fun e he => by simp at he, ?_⟩
        rcases hq2 with ⟨hq, _⟩ | ⟨g, cur, part, hg, hh, _⟩
        · exact .inl ⟨hLd2.trans hq, rfl⟩
        · refine .inr ⟨g, cur, hLd2.trans hg, ?_, by simp, fun i e h => by simp at h, fun o ho => absurd ho (h2i g o (.inl hg))⟩
          rw [hframe g (hH.lt h2n (.inl hg)) (hne2 g (.inl hg))]; exact hh)
  refine ⟨L', ⟨.inr rfl, hval, fun wr' st' ty' es3 op' hB => ?_⟩, k1, k2, k3, k4⟩
  rw [hHid] at hB; cases hB
  exact ⟨Nat.le_refl _, by rw [hLid]; exact hov⟩

theorem tr_src (hH : HOk w imm H L U) {x : Value} {v : T} (h : TRep w imm H L U x v) {d2 : Nat} {ty : TypeId} {ys : List (List V)} (hs : trOf H v = some (d2, ty, ys)) :
    ∃ v2 st2 es2 ao cy, H d2 = some (.tree v2 true st2 ty es2 none) ∧ x = .slice ao ys.length cy ∧ (ys = [] ∨ ∃ (b : Nat) (cur : Array Value) (part : Nat → Nat → Nat → Prop), ao = some ⟨b, 0, none⟩ ∧ w.heap[b]? = some (.cells cur ty (0, 0)) ∧ (∀ e ∈ ys, e.length = st2) ∧ (∀ i j b, part i j b → L.sub d2 b) ∧
      (∀ i j i' j' b, part i j b → part i' j' b → i = i' ∧ j = j') ∧ ∀ i j y, at2 ys i j = some y → ∃ u, cur[i * st2 + j]? = some u ∧ VTree w (tsub ty j) u y (part i j)) := by
  unfold trOf at hs
  split at hs
  · rename_i id ver n
    split at hs
    · rename_i ver' st ty' es hB
      split at hs
      · rename_i hc
        obtain ⟨rfl, hn⟩ := hc
        simp at hs
        obtain ⟨rfl, rfl, rfl⟩ := hs
        obtain ⟨_, ⟨ao, cy, hx, _⟩, h3⟩ := (show CRep w imm H L U x (.tr id ver' n) from h)
        obtain ⟨_, hov⟩ := h3 _ _ _ _ _ hB
        obtain ⟨_, hst, hle, _, _, hq⟩ := hH.blk id _ hB
        have hlen : (es.take n).length = n := by simp; omega
        refine ⟨ver', st, es, ao, cy, hB, by rw [hlen]; exact hx, ?_⟩
        rcases hov with ⟨a, _, rfl⟩ | ⟨b, cap, cur, hb, hx2, hh, hnc, hcm, hcs⟩
        · left; simp
        · rcases hq with ⟨hq, _⟩ | ⟨g, cur', part, hg, hh', hsz, hp, hd, hcells, _, hi⟩
          · rw [hb] at hq; cases hq
          · rw [hb] at hg; cases hg
            rw [hx] at hx2; cases hx2
            refine .inr ⟨b, cur', part, rfl, hh', fun e he => hle e (List.mem_of_mem_take he), hp, hd, fun i j y hy => ?_⟩
            simp only [at2, List.getElem?_take] at hy
            split at hy
            case isFalse => simp at hy
            exact hcells i j y hy (by simp)
      · cases hs
    · cases hs
  · cases hs

theorem app_repT {ty : TypeId} {es ys : List (List V)} {st n : Nat} {news : List Value} {A B : List Value} {pa pb : Nat → Nat → Nat → Prop} (hn : es.length = n) (hA : A.length = n * st)
    (ha : ∀ i j y, at2 es i j = some y → ∃ u, A[i * st + j]? = some u ∧ VTree w (tsub ty j) u y (pa i j)) (hb : ∀ i j y, at2 ys i j = some y → ∃ u, news[i * st + j]? = some u ∧ VTree w (tsub ty j) u y (pb i j)) :
    ∀ i j y, at2 (es ++ ys) i j = some y → ∃ u, (A ++ news ++ B).toArray[i * st + j]? = some u ∧ VTree w (tsub ty j) u y (if i < n then pa i j else pb (i - n) j) := by
  intro i j y hy
  rcases Nat.lt_or_ge i n with hi | hi
  · have h1 : at2 es i j = some y := by
      simp only [at2] at hy ⊢
      rwa [List.getElem?_append_left (by omega)] at hy
    obtain ⟨u, h2, h3⟩ := ha i j y h1
    refine ⟨u, ?_, by rw [if_pos hi]; exact h3⟩
    simp only [List.getElem?_toArray]
    rw [List.append_assoc, List.getElem?_append_left (List.getElem?_eq_some_iff.1 h2).1]
    exact h2
  · have h1 : at2 ys (i - n) j = some y := by
      simp only [at2] at hy ⊢
      rwa [List.getElem?_append_right (by omega), hn] at hy
    obtain ⟨u, h2, h3⟩ := hb (i - n) j y h1
    refine ⟨u, ?_, by rw [if_neg (by omega)]; exact h3⟩
    have e1 : i * st = n * st + (i - n) * st := by rw [← Nat.add_mul]; congr 1; omega
    have hlt := (List.getElem?_eq_some_iff.1 h2).1
    simp only [List.getElem?_toArray]
    rw [List.append_assoc, List.getElem?_append_right (by omega), List.getElem?_append_left (by omega), hA, e1, show n * st + (i - n) * st + j - n * st = (i - n) * st + j from by omega]
    exact h2

theorem part_join {Sa Sb : Nat → Prop} {pa pb : Nat → Nat → Nat → Prop} {n : Nat} (hs : ∀ b, Sa b → Sb b → False) (ha : ∀ i j b, pa i j b → Sa b) (hb : ∀ i j b, pb i j b → Sb b)
    (da : ∀ i j i' j' b, pa i j b → pa i' j' b → i = i' ∧ j = j') (db : ∀ i j i' j' b, pb i j b → pb i' j' b → i = i' ∧ j = j') :
    (∀ i j b, (if i < n then pa i j else pb (i - n) j) b → Sa b ∨ Sb b) ∧ ∀ i j i' j' b, (if i < n then pa i j else pb (i - n) j) b → (if i' < n then pa i' j' else pb (i' - n) j') b → i = i' ∧ j = j' := by
  refine ⟨fun i j b h => ?_, fun i j i' j' b h h' => ?_⟩
  · split at h
    · exact .inl (ha _ _ _ h)
    · exact .inr (hb _ _ _ h)
  · split at h <;> split at h'
    · exact da _ _ _ _ _ h h'
    · exact (hs b (ha _ _ _ h) (hb _ _ _ h')).elim
    · exact (hs b (ha _ _ _ h') (hb _ _ _ h)).elim
    · obtain ⟨h1, h2⟩ := db _ _ _ _ _ h h'
      exact ⟨by omega, h2⟩

theorem grow_goesT (hH : HOk w imm H L U) (hv : ¬ U ver) (id d2 : Nat) (hne : id ≠ d2) {st : Nat} {e : TypeId} (hst : 0 < st) {v2 st2 : Nat} {es2 : List (List V)} (h2 : H d2 = some (.tree v2 true st2 e es2 none)) (X : Prop) (hX : X → ∃ v0 es0, H id = some (.tree v0 true st e es0 none))
    (z : Value) (need old : Nat) (es ys : List (List V)) (news : List Value) (hzs : z.cells.size = st) (hneed : need = es.length + ys.length) (hl : ∀ e ∈ es, e.length = st) (hyl : ∀ e ∈ ys, e.length = st) (hnl : news.length = ys.length * st)
    (olds : List Value) (hol : olds.length = es.length * st) (pa pb : Nat → Nat → Nat → Prop) (hpa : ∀ i j b, pa i j b → X ∧ L.sub id b) (hpb : ∀ i j b, pb i j b → L.sub d2 b)
    (da : ∀ i j i' j' b, pa i j b → pa i' j' b → i = i' ∧ j = j') (db : ∀ i j i' j' b, pb i j b → pb i' j' b → i = i' ∧ j = j')
    (ha : ∀ i j y, at2 es i j = some y → ∃ u, olds[i * st + j]? = some u ∧ VTree w (tsub e j) u y (pa i j)) (hb : ∀ i j y, at2 ys i j = some y → ∃ u, news[i * st + j]? = some u ∧ VTree w (tsub e j) u y (pb i j)) (h63 : need ≤ 9223372036854775807) :
    ∃ L', Goes w imm H L U (updH H [(d2, .arr ver true st e []), (id, .tree ver true st e (es ++ ys) none)]) (with_ U ver) (.pt (.one (.tr id ver need))) (.slice (some ⟨w.heap.size, 0, none⟩) need (grownCap w need old e))
      (w.drew.alloc (.cells (olds.toArray ++ news.toArray ++ Builtin.zeroCells z.cells (grownCap w need old e - need)) e)) imm L' := by
  have hge := grownCap_ge w need old e
  have hlen : (es ++ ys).length = need := by simp; omega
  have hsz : (olds.toArray ++ news.toArray ++ Builtin.zeroCells z.cells (grownCap w need old e - need)).size = grownCap w need old e * st := by
    simp only [Array.size_append, List.size_toArray, size_zeroCells, hzs, hol, hnl, ← Nat.add_mul]
    congr 1; omega
  have h2n : H d2 ≠ none := by simp [h2]
  have hrow : (w.drew.alloc (.cells (olds.toArray ++ news.toArray ++ Builtin.zeroCells z.cells (grownCap w need old e - need)) e)).heap[w.heap.size]? = some (.cells (olds.toArray ++ news.toArray ++ Builtin.zeroCells z.cells (grownCap w need old e - need)) e (0, 0)) := heap_alloc_new w.drew _
  obtain ⟨j1, j2⟩ := part_join (n := es.length) (Sa := fun b => X ∧ L.sub id b) (Sb := L.sub d2) (fun b h1 h3 => hne (hH.inj id d2 b (by obtain ⟨_, _, h⟩ := hX h1.1; simp [h]) h2n (.inr h1.2) (.inr h3))) hpa hpb da db
  have := join_goes (w' := w.drew.alloc (.cells (olds.toArray ++ news.toArray ++ Builtin.zeroCells z.cells (grownCap w need old e - need)) e)) hH hv id d2 hne hst h2 X hX (some w.heap.size) (es ++ ys) (.slice (some ⟨w.heap.size, 0, none⟩) need (grownCap w need old e)) rfl rfl rfl (by show w.heap.size ≤ (w.heap.push _).size; simp)
    (fun b hb _ => heap_alloc_old w.drew _ b hb) (fun g hg => by cases hg; exact .inl ⟨rfl, by show w.heap.size < (w.heap.push _).size; simp⟩) (fun x hx => by rcases List.mem_append.1 hx with h | h; exact hl x h; exact hyl x h) ⟨_, _, by rw [hlen], by omega⟩
    (.inr ⟨w.heap.size, _, _, rfl, by rw [hlen], hrow, by omega, grownCap_le_maxLen w need old e (by simp [maxLen]; omega), hsz⟩)
    (.inr ⟨w.heap.size, _, fun i j => if i < es.length then pa i j else pb (i - es.length) j, rfl, hrow, by rw [hsz, hlen]; exact Nat.mul_le_mul_right _ hge, j1, j2, fun i j y hy => by
      have := app_repT (w := w) (B := (Builtin.zeroCells z.cells (grownCap w need old e - need)).toList) rfl hol ha hb i j y hy
      have e2 : (olds ++ news ++ (Builtin.zeroCells z.cells (grownCap w need old e - need)).toList).toArray = olds.toArray ++ news.toArray ++ Builtin.zeroCells z.cells (grownCap w need old e - need) := by
        simp
      rw [e2] at this
      exact this⟩)
  rw [hlen] at this
  exact this

/-- The cells of a tree's root, in one row. -/
theorem src_rowT {ys : List (List V)} {ty : TypeId} {b st : Nat} {cur : Array Value} {part : Nat → Nat → Nat → Prop} (hh : w.heap[b]? = some (.cells cur ty (0, 0))) (hl : ∀ e ∈ ys, e.length = st) (hst : 0 < st)
    (h : ∀ i j y, at2 ys i j = some y → ∃ u, cur[i * st + j]? = some u ∧ VTree w (tsub ty j) u y (part i j)) :
    ∃ news : List Value, news.length = ys.length * st ∧ (∀ j u, news[j]? = some u → w.cell? ((⟨b, 0, none⟩ : Addr).add j) = some u) ∧ (∀ u ∈ news, u.oneCell' = true) ∧
      ∀ i j y, at2 ys i j = some y → ∃ u, news[i * st + j]? = some u ∧ VTree w (tsub ty j) u y (part i j) := by
  obtain ⟨news, n1, n2, n3, n4⟩ := src_row (w := w) (imm := fun _ _ => True) (b := b) (o' := 0) hl hst fun i j y hy => by
    obtain ⟨u, h1, h2⟩ := h i j y hy
    exact ⟨u, by rw [Nat.zero_add, cell_of_row w b _ cur ty _ hh]; exact h1, h2.rep fun _ _ _ => trivial⟩
  refine ⟨news, n1, n2, n3, fun i j y hy => ?_⟩
  obtain ⟨u, h1, _⟩ := n4 i j y hy
  obtain ⟨u', h3, h4⟩ := h i j y hy
  have h5 := n2 _ _ h1
  rw [add_eq, Nat.zero_add, cell_of_row w b _ cur ty _ hh, h3] at h5
  cases h5
  exact ⟨_, h1, h4⟩

theorem ok_app_trnil (c : Call) (x y : Operand) (ty e : TypeId) (i : TypeInfo) (z : List C) (x' y' : Opd) (hc : c.callee = .builtin .append) (hargs : c.args.toList = [x, y]) (hts : c.argTypes.toList = [ty, ty]) (he : elemT P ty = some e) (hi : P.info? e = some i) (hz : zeroCs P e = some z) (hzl : z.length = i.size)
    (hst : 0 < i.size) (hx : cOpd x = some x') (hy : cOpd y = some y') (hH : HOk w imm H L U) (hT : ∀ i, TRep w imm H L U (a.tmps.getD i undef) (t i)) (hv : ¬ U ver) (ho : o.op = .call c) (d : Nat) {d2 : Nat} {ys : List (List V)} (hs : trOf H (ev t y') = some (d2, e, ys)) (hyl : ∀ e ∈ ys, e.length = i.size)
    (hp : ev t x' = .pt (.one .nil0)) (hb : ys.length * i.bytes ≤ 140737488355328) (h63 : ys.length ≤ 9223372036854775807) (hd : d ≠ d2) :
    OpR P a o w imm H L U (updH H [(d2, .arr ver true i.size e []), (d, .tree ver true i.size e ys none)]) (with_ U ver) (.pt (.one (.tr d ver ys.length))) := by
  have h1 := cOpd_ok hT hx
  rw [hp] at h1
  obtain ⟨ad, hxe⟩ := (show ∃ ad, a.eval x = .slice ad 0 0 from h1)
  obtain ⟨v2, st2, es2, ao, cy, hB2, hye, hsrc⟩ := tr_src hH (cOpd_ok hT hy) hs
  have hu := elemT_ok he
  by_cases h0 : ys = []
  · subst h0
    obtain ⟨L', hgo⟩ := join_goes (w' := w) hH hv d d2 hd hst hB2 False (fun h => h.elim) none [] (.slice ad 0 0) rfl rfl rfl (Nat.le_refl _) (fun _ _ _ => rfl) (fun g hg => by cases hg) (fun e he => by simp at he) ⟨_, _, rfl, Nat.le_refl _⟩ (.inl ⟨_, rfl, rfl⟩) (.inl ⟨rfl, rfl⟩)
    refine ⟨_, _, _, L', .inl (exec_append c x y ty hc hargs hts ho ?_), hgo⟩
    rw [hxe, hye]; exact run_append_zero ty e o.type i hu hi ad 0 0 (Nat.le_refl _) ao cy
  · rcases hsrc with hsrc | ⟨b, cur, part, hao, hh, hl, hp2, hd2, hcell⟩
    · exact absurd hsrc h0
    have hss : st2 = i.size := by
      cases ys with
      | nil => exact absurd rfl h0
      | cons e1 ys => rw [← hl e1 (by simp), hyl e1 (by simp)]
    subst hss
    have hm : 0 < ys.length := List.length_pos_iff.2 h0
    obtain ⟨news, n1, n2, n3, n4⟩ := src_rowT hh hl hst hcell
    obtain ⟨i', zv, hi', hzv, hzc⟩ := zeroCs_ok hz
    rw [hi] at hi'; cases hi'
    have hzs : zv.cells.size = i.size := by have := constCs_len hzc; simp at this; omega
    obtain ⟨L', hg⟩ := grow_goesT (w := w) (imm := imm) (ver := ver) hH hv d d2 hd hst hB2 False (fun h => h.elim) zv ys.length 0 [] ys news hzs (by simp) (by intro e h; simp at h) hyl n1 [] (by simp) (fun _ _ => noB) part (fun _ _ _ h => h.elim) hp2 (fun _ _ _ _ _ h => h.elim) hd2 (by intro i j y h; simp [at2] at h) n4 h63
    simp only [List.nil_append] at hg
    refine ⟨_, _, _, L', .inl (exec_append c x y ty hc hargs hts ho ?_), hg⟩
    rw [hxe, hye, hao]
    cases ad with
    | none =>
      have := run_append_nil (P := P) w ty o.type e i zv hu hi hzv ⟨b, 0, none⟩ ys.length cy news n1 n2 (by omega) (by omega) (by omega)
      rw [this]; simp
    | some b0 =>
      have := run_append_grow (P := P) w ty o.type e i zv hu hi hzv b0 0 0 [] (by simp) (by intro j v h; simp at h) ⟨b, 0, none⟩ ys.length cy news n1 n2 (by omega) (by omega) (growslice_fits (by omega) (by simpa using hb))
      simp only [Nat.zero_add] at this
      rw [this]

theorem ok_app_tr (c : Call) (x y : Operand) (ty e : TypeId) (i : TypeInfo) (z : List C) (x' y' : Opd) (hc : c.callee = .builtin .append) (hargs : c.args.toList = [x, y]) (hts : c.argTypes.toList = [ty, ty]) (he : elemT P ty = some e) (hi : P.info? e = some i) (hz : zeroCs P e = some z) (hzl : z.length = i.size)
    (hst : 0 < i.size) (hx : cOpd x = some x') (hy : cOpd y = some y') (hH : HOk w imm H L U) (hT : ∀ i, TRep w imm H L U (a.tmps.getD i undef) (t i)) (hv : ¬ U ver) (ho : o.op = .call c) {d2 : Nat} {ys : List (List V)} (hs : trOf H (ev t y') = some (d2, e, ys)) (hyl : ∀ e ∈ ys, e.length = i.size)
    {id v0 n : Nat} (hp : ev t x' = .pt (.one (.tr id v0 n))) {es : List (List V)} (hB : H id = some (.tree v0 true i.size e es none)) (hn : n ≤ es.length) (hb : (n + ys.length) * i.bytes ≤ 140737488355328) (h63 : n + ys.length ≤ 9223372036854775807) (hd : id ≠ d2) :
    OpR P a o w imm H L U (updH H [(d2, .arr ver true i.size e []), (id, .tree ver true i.size e (es.take n ++ ys) none)]) (with_ U ver) (.pt (.one (.tr id ver (n + ys.length)))) := by
  have h1 := cOpd_ok hT hx
  rw [hp] at h1
  obtain ⟨_, ⟨ad, k, hxe, hnk⟩, h3⟩ := (show CRep w imm H L U (a.eval x) (.tr id v0 n) from h1)
  obtain ⟨_, hov⟩ := h3 _ _ _ _ _ hB
  obtain ⟨v2, st2, es2, ao, cy, hB2, hye, hsrc⟩ := tr_src hH (cOpd_ok hT hy) hs
  have hu := elemT_ok he
  have htn : (es.take n).length = n := by simp; omega
  obtain ⟨_, _, hls, _, hsi, hq⟩ := hH.blk id _ hB
  have htl : ∀ e ∈ es.take n, e.length = i.size := fun e h => hls e (List.mem_of_mem_take h)
  have hat : ∀ i j y, at2 (es.take n) i j = some y → at2 es i j = some y := fun i j y hy => by
    simp only [at2, List.getElem?_take] at hy
    split at hy
    case isFalse => simp at hy
    exact hy
  have hXt : True → ∃ v0 es0, H id = some (.tree v0 true i.size e es0 none) := fun _ => ⟨_, _, hB⟩
  by_cases h0 : ys = []
  · subst h0
    simp only [List.append_nil, List.length_nil, Nat.add_zero]
    have hrow : (L id = none ∧ es.take n = []) ∨ ∃ (g : Nat) (new : Array Value) (part : Nat → Nat → Nat → Prop), L id = some g ∧ w.heap[g]? = some (.cells new e (0, 0)) ∧ (es.take n).length * i.size ≤ new.size ∧ (∀ i j b, part i j b → (True ∧ L.sub id b) ∨ L.sub d2 b) ∧ (∀ i j i' j' b, part i j b → part i' j' b → i = i' ∧ j = j') ∧
      ∀ i2 j y, at2 (es.take n) i2 j = some y → ∃ u, new[i2 * i.size + j]? = some u ∧ VTree w (tsub e j) u y (part i2 j) := by
      rcases hq with ⟨hq, h0⟩ | ⟨g, cur, part, hg, hh, hsz, hp3, hd3, hcells, _, _⟩
      · exact .inl ⟨hq, by rw [h0]; simp⟩
      · exact .inr ⟨g, cur, part, hg, hh, Nat.le_trans (Nat.mul_le_mul_right _ (by omega)) hsz, fun i j b h => .inl ⟨trivial, hp3 i j b h⟩, hd3, fun i2 j y hy => hcells i2 j y (hat i2 j y hy) (by simp)⟩
    have hgr : ∀ g, L id = some g → (g = w.heap.size ∧ g < w.heap.size) ∨ (True ∧ L id = some g) := fun g hg => .inr ⟨trivial, hg⟩
    obtain ⟨L', hgo⟩ := join_goes (w' := w) hH hv id d2 hd hst hB2 True hXt (L id) (es.take n) (a.eval x) rfl rfl rfl (Nat.le_refl _) (fun _ _ _ => rfl) hgr htl ⟨ad, k, by rw [htn]; exact hxe, by omega⟩ (by rw [htn]; exact hov) hrow
    rw [htn] at hgo
    refine ⟨_, _, _, L', .inl (exec_append c x y ty hc hargs hts ho ?_), hgo⟩
    rw [hye, hxe]; exact run_append_zero ty e o.type i hu hi ad n k hnk ao cy
  · rcases hsrc with hsrc | ⟨b, curb, partb, hao, hhb, hl, hp2, hd2, hcell⟩
    · exact absurd hsrc h0
    have hss : st2 = i.size := by
      cases ys with
      | nil => exact absurd rfl h0
      | cons e1 ys => rw [← hl e1 (by simp), hyl e1 (by simp)]
    subst hss
    have hm : 0 < ys.length := List.length_pos_iff.2 h0
    obtain ⟨news, n1, n2, n3, n4⟩ := src_rowT hhb hl hst hcell
    obtain ⟨i', zv, hi', hzv, hzc⟩ := zeroCs_ok hz
    rw [hi] at hi'; cases hi'
    have hzs : zv.cells.size = i.size := by have := constCs_len hzc; simp at this; omega
    rcases hov with ⟨a', e1, e2⟩ | ⟨g, cap, cur, hg, e1, hh, hnc, hcm, hcs⟩
    · subst e2
      obtain ⟨L', hgo⟩ := grow_goesT (w := w) (imm := imm) (ver := ver) hH hv id d2 hd hst hB2 False (fun h => h.elim) zv ys.length 0 [] ys news hzs (by simp) (by intro e h; simp at h) hyl n1 [] (by simp) (fun _ _ => noB) partb (fun _ _ _ h => h.elim) hp2 (fun _ _ _ _ _ h => h.elim) hd2 (by intro i j y h; simp [at2] at h) n4 (by omega)
      simp only [List.nil_append] at hgo
      simp only [List.take_zero, List.nil_append, Nat.zero_add]
      refine ⟨_, _, _, L', .inl (exec_append c x y ty hc hargs hts ho ?_), hgo⟩
      rw [e1, hye, hao]
      simp only [Nat.zero_add] at hb h63
      cases a' with
      | none =>
        have := run_append_nil (P := P) w ty o.type e i zv hu hi hzv ⟨b, 0, none⟩ ys.length cy news n1 n2 (by omega) (by omega) (by omega)
        rw [this]; simp
      | some b0 =>
        have := run_append_grow (P := P) w ty o.type e i zv hu hi hzv b0 0 0 [] (by simp) (by intro j v h; simp at h) ⟨b, 0, none⟩ ys.length cy news n1 n2 (by omega) (by omega) (growslice_fits (by omega) (by simpa using hb))
        simp only [Nat.zero_add] at this
        rw [this]
    · rcases hq with ⟨hq, _⟩ | ⟨g', cur', parta, hg', hh', hsz, hp3, hd3, hcells, _, himm⟩
      · rw [hg] at hq; cases hq
      rw [hg] at hg'; cases hg'
      rw [hh] at hh'; cases hh'
      have hnsz : n * i.size ≤ cur.size := Nat.le_trans (Nat.mul_le_mul_right _ hn) hsz
      have hA : (cur.toList.take (n * i.size)).length = n * i.size := by simp; omega
      have hAc : ∀ p, p < n * i.size → (cur.toList.take (n * i.size))[p]? = cur[p]? := fun p hp => by rw [List.getElem?_take_of_lt hp, Array.getElem?_toList]
      have ha : ∀ i2 j y, at2 (es.take n) i2 j = some y → ∃ u, (cur.toList.take (n * i.size))[i2 * i.size + j]? = some u ∧ VTree w (tsub e j) u y (parta i2 j) := fun i2 j y hy => by
        obtain ⟨u, h4, h5⟩ := hcells i2 j y (hat i2 j y hy) (by simp)
        refine ⟨u, ?_, h5⟩
        simp only [at2, Option.bind_eq_some_iff] at hy
        obtain ⟨e', he1, he2⟩ := hy
        have hi2 : i2 < n := by have := (List.getElem?_eq_some_iff.1 he1).1; omega
        have hj : j < i.size := by have := htl e' (List.mem_of_getElem? he1); rw [← this]; exact (List.getElem?_eq_some_iff.1 he2).1
        rw [hAc]
        · exact h4
        · have := Nat.mul_le_mul_right i.size hi2; rw [Nat.succ_mul] at this; omega
      by_cases hroom : n + ys.length ≤ cap
      · have hfit : n * i.size + news.length ≤ cur.size := by rw [n1, hcs, ← Nat.add_mul]; exact Nat.mul_le_mul_right _ hroom
        have hr := run_append_room (P := P) w ty o.type e i hu hi g n cap cur hh ⟨b, 0, none⟩ ys.length cy news n1 n2 n3 hroom hfit
        have hlen : (es.take n ++ ys).length = n + ys.length := by simp; omega
        obtain ⟨j1, j2⟩ := part_join (n := n) (Sa := fun b => True ∧ L.sub id b) (Sb := L.sub d2) (fun b h1 h3 => hd (hH.inj id d2 b (by simp [hB]) (by simp [hB2]) (.inr h1.2) (.inr h3))) (fun i j b h => ⟨trivial, hp3 i j b h⟩) hp2 hd3 hd2
        have hnews : (cur.toList.take (n * i.size) ++ news ++ cur.toList.drop (n * i.size + news.length)).toArray.size = cur.size := by
          simp only [List.size_toArray, List.length_append, List.length_take, List.length_drop, Array.length_toList]; omega
        have hrw := setRow_heap w g cur (cur.toList.take (n * i.size) ++ news ++ cur.toList.drop (n * i.size + news.length)).toArray e (0, 0) hh
        obtain ⟨L', hgo⟩ := join_goes (w' := w.setRow g (cur.toList.take (n * i.size) ++ news ++ cur.toList.drop (n * i.size + news.length)).toArray) hH hv id d2 hd hst hB2 True hXt (some g) (es.take n ++ ys) (.slice (some ⟨g, 0, none⟩) (n + ys.length) cap) rfl rfl rfl (by simp)
          (fun b hb hne => setRow_other w g b _ fun e => hne (by rw [e])) (fun g' hg' => by cases hg'; exact .inr ⟨trivial, hg⟩) (fun el hel => by rcases List.mem_append.1 hel with h | h; exact htl el h; exact hyl el h) ⟨_, _, by rw [hlen], by omega⟩
          (.inr ⟨g, cap, _, rfl, by rw [hlen], hrw, by omega, hcm, hnews.trans hcs⟩)
          (.inr ⟨g, _, fun i j => if i < n then parta i j else partb (i - n) j, rfl, hrw, by rw [hnews, hlen, hcs]; exact Nat.mul_le_mul_right _ hroom, j1, j2, app_repT htn hA ha n4⟩)
        rw [hlen] at hgo
        refine ⟨_, _, _, L', .inl (exec_append c x y ty hc hargs hts ho ?_), hgo⟩
        rw [e1, hye, hao]; exact hr
      · obtain ⟨L', hgo⟩ := grow_goesT (w := w) (imm := imm) (ver := ver) hH hv id d2 hd hst hB2 True hXt zv (n + ys.length) cap (es.take n) ys news hzs (by rw [htn]) htl hyl n1 (cur.toList.take (n * i.size)) (by rw [htn]; exact hA) parta partb (fun i j b h => ⟨trivial, hp3 i j b h⟩) hp2 hd3 hd2 ha n4 h63
        have holds : ∀ (j : Nat) v, (cur.toList.take (n * i.size))[j]? = some v → w.cell? ((⟨g, 0, none⟩ : Addr).add j) = some v := by
          intro j v hv
          have hj : j < n * i.size := by have := (List.getElem?_eq_some_iff.1 hv).1; omega
          rw [hAc j hj] at hv
          rw [add_eq, Nat.zero_add, cell_of_row w g j cur e _ hh]; exact hv
        refine ⟨_, _, _, L', .inl (exec_append c x y ty hc hargs hts ho ?_), hgo⟩
        rw [e1, hye, hao]
        exact run_append_grow (P := P) w ty o.type e i zv hu hi hzv ⟨g, 0, none⟩ n cap _ hA holds ⟨b, 0, none⟩ ys.length cy news n1 n2 (by omega) (by omega) (growslice_fits (by omega) hb)
end
end Go.V
namespace Go.V
section
variable {P : Program} {a : Act} {o : Oper} {w : World} {L : Locs} {U : Nat → Prop} {t : Nat → T} {ver : Nat} {imm : Imm} {H : HMap}

theorem core_sound {ao : AOp} {d : Nat} {e : Ef} (hc : compOp P o = some ao) (he : core ao d ver t H = some e) (hH : HOk w imm H L U) (hT : ∀ i, TRep w imm H L U (a.tmps.getD i undef) (t i)) (hv : ¬ U ver) :
    OpR P a o w imm H L U (updH H e.ws) (with_ U ver) e.val := by
  replace hc := compOp_of hc (fun h => by subst h; simp [core] at he)
  unfold compOp0 compOpG envOf at hc
  dsimp only at hc
  split at hc
  case h_1 x ho =>
    cases hx : cOpd x <;> simp [hx] at hc
    subst hc; simp [core] at he; subst he
    exact ok_mv x _ hx hH hT (.inl ho)
  case h_2 x ho =>
    cases hx : cOpd x <;> simp [hx] at hc
    subst hc; simp [core] at he; subst he
    exact ok_mv x _ hx hH hT (.inr ho)
  case h_3 c x y ho =>
    split at hc
    · rename_i c' x' y' h1 h2 h3
      cases hc
      simp only [core] at he
      split at he
      · rename_i b hb
        cases he
        exact ok_pick c x y c' x' y' h1 h2 h3 hH hT ho hb
      · cases he
    · cases hc
  case h_4 ty ho =>
    cases hz : zeroCs P ty <;> simp [hz] at hc
    subst hc; simp [core] at he; subst he
    exact ok_alloc ty _ hz hH hv ho d
  case h_5 ty x ho =>
    cases hx : cOpd x <;> simp [hx] at hc
    subst hc
    simp only [core] at he
    split at he
    · rename_i p hp
      cases he
      exact ok_box ty x _ hx hH hT hv ho d hp
    · cases he
  case h_6 ty ps ho =>
    split at hc
    · rename_i z pl h1 h2
      cases hq : cParts pl ps.toList <;> simp [hq] at hc
      subst hc
      simp only [core, Option.map_eq_some_iff] at he
      obtain ⟨cs, hf, rfl⟩ := he
      exact ok_build ty ps z pl _ h1 h2 hq hH hT ho hf
    · cases hc
  case h_7 ty len ps ho =>
    split at hc
    · rename_i el hel
      split at hc
      · rename_i n z qs h1 h2 h3
        split at hc
        · rename_i hcond
          cases hc
          simp only [core] at he
          split at he
          · split at he
            · rename_i es ns hs
              split at he
              · rename_i hnd
                cases he
                exact ok_bslT ty el n len ps qs z hel h1 h2 h3 hcond.1 hcond.2.1 hcond.2.2 hH hT hv ho d hs hnd.1 hnd.2
              · cases he
            · cases he
          · split at he
            · rename_i es ws ns hs
              cases he
              exact ok_bsl ty el n len ps qs z hel h1 h2 h3 hcond.1 hcond.2.1 hcond.2.2 hH hT hv ho d hs
            · cases he
        · cases hc
      · cases hc
    · cases hc
  case h_8 ty x ho =>
    split at hc
    · rename_i n ag x' h1 h2 h3
      cases hc
      simp only [core, Option.map_eq_some_iff] at he
      obtain ⟨⟨v, rn⟩, hl, rfl⟩ := he
      exact ok_ld ty x n ag x' h1 h2 h3 hH hT ho hl
    · cases hc
  case h_9 ty x v ho =>
    split at hc
    · rename_i n x' v' h1 h2 h3
      cases hc
      simp only [core] at he
      split at he
      · rename_i p hp
        simp only [Option.map_eq_some_iff] at he
        obtain ⟨⟨ws, wn⟩, hs, rfl⟩ := he
        exact ok_st ty x v n x' v' h1 h2 h3 hH hT ho hp hs
      · cases he
    · cases hc
  case h_10 x ho =>
    cases hx : cOpd x <;> simp [hx] at hc
    subst hc
    simp only [core] at he
    split at he
    case h_1 heq => cases he; exact ok_nckF x _ hx hH hT ho heq
    case h_2 heq => cases he; have := ok_nck (P := P) (ver := ver) x _ hx hH hT ho (by rw [heq]; rfl); rw [heq] at this; exact this
    case h_3 heq => cases he; have := ok_nck (P := P) (ver := ver) x _ hx hH hT ho (by rw [heq]; rfl); rw [heq] at this; exact this
    case h_4 heq => cases he; have := ok_nck (P := P) (ver := ver) x _ hx hH hT ho (by rw [heq]; rfl); rw [heq] at this; exact this
    case h_5 heq => cases he; have := ok_nck (P := P) (ver := ver) x _ hx hH hT ho (by rw [heq]; rfl); rw [heq] at this; exact this
    case h_6 => cases he
  case h_11 op ty x y ty2 ho =>
    split at hc
    · rename_i x' y' h1 h2
      split at hc
      · rename_i hu
        cases hc
        simp only [core] at he
        split at he
        · rename_i p q hp hq
          split at he
          · cases he; exact ok_binB _ ty ty2 x y x' y' hu h1 h2 hH hT ho hp hq (.inl ⟨rfl, rfl⟩)
          · cases he; exact ok_binB _ ty ty2 x y x' y' hu h1 h2 hH hT ho hp hq (.inr ⟨rfl, rfl⟩)
          · cases he
        · cases he
      · rename_i fs hu
        split at hc
        · rename_i ks hk hs hg
          cases hc
          simp only [core] at he
          split at he
          · rename_i cs ds hp hq
            simp only [Option.map_eq_some_iff] at he
            obtain ⟨r, hr, rfl⟩ := he
            exact ok_cmpA false _ ty ty2 x y x' y' hu hk hs hg h1 h2 hH hT ho rfl hp hq hr
          · cases he
        · rename_i ks hk hs hg
          cases hc
          simp only [core] at he
          split at he
          · rename_i cs ds hp hq
            simp only [Option.map_eq_some_iff] at he
            obtain ⟨r, hr, rfl⟩ := he
            exact ok_cmpA true _ ty ty2 x y x' y' hu hk hs hg h1 h2 hH hT ho rfl hp hq hr
          · cases he
        · cases hc
      all_goals
        first
          | cases hc; done
          | (split at hc
             · cases hc
               simp only [core] at he
               split at he
               · rename_i hp; cases he; exact ok_isnil .eql ty ty2 _ x x' (by assumption) h1 hH hT ho false rfl (.inl ⟨_, _, hp, rfl⟩)
               · rename_i hp; cases he; exact ok_isnil .eql ty ty2 _ x x' (by assumption) h1 hH hT ho false rfl (.inr ⟨_, _, _, hp, rfl⟩)
               · cases he
             · cases hc
               simp only [core] at he
               split at he
               · rename_i hp; cases he; exact ok_isnil .neq ty ty2 _ x x' (by assumption) h1 hH hT ho true rfl (.inl ⟨_, _, hp, rfl⟩)
               · rename_i hp; cases he; exact ok_isnil .neq ty ty2 _ x x' (by assumption) h1 hH hT ho true rfl (.inr ⟨_, _, _, hp, rfl⟩)
               · cases he
             · cases hc)
          | (cases hc
             simp only [core] at he
             split at he
             · rename_i p q hp hq
               simp only [Option.map_eq_some_iff] at he
               obtain ⟨v, hv2, rfl⟩ := he
               exact ok_bin op ty ty2 x y x' y' h1 h2 hH hT ho hp hq hv2
             · cases he)
    · cases hc
  case h_12 op ty x ho =>
    cases hx : cOpd x <;> simp [hx] at hc
    subst hc
    simp only [core] at he
    split at he
    · rename_i p hp
      simp only [Option.map_eq_some_iff] at he
      obtain ⟨v, hv2, rfl⟩ := he
      exact ok_un op ty x _ hx hH hT ho hp hv2
    · cases he
  case h_13 s dd x ho =>
    split at hc
    · rename_i ds k x' h1 h2 h3
      cases hc
      simp only [core, Option.map_eq_some_iff] at he
      obtain ⟨⟨k', n⟩, hp, rfl⟩ := he
      exact ok_cnvI s dd k x x' h1 h2 h3 hH hT ho hp
    · rename_i el x' h1 h2 h3
      split at hc
      · rename_i h4
        cases hc
        simp only [core] at he
        split at he
        · rename_i ys ns hs
          simp only [Option.map_eq_some_iff] at he
          obtain ⟨bs, hb, rfl⟩ := he
          exact ok_cnvBS s dd el x x' h1 h4 h2 h3 hH hT ho hs hb
        · cases he
      · cases hc
    · rename_i el x' h1 h2 h3
      split at hc
      · rename_i h4
        cases hc
        simp only [core] at he
        split at he
        · rename_i b hp
          cases he
          exact ok_cnvSB s dd el x x' h1 h2 h4 h3 hH hT ho hp
        · cases he
      · cases hc
    · cases hc
  case h_14 f first caps ho =>
    split at hc
    · rename_i hf
      cases hy : cOpds caps.toList <;> simp [hy] at hc
      subst hc
      simp only [core, Option.map_eq_some_iff] at he
      obtain ⟨cs, hcs, rfl⟩ := he
      exact ok_mkf f first caps hf _ hy hH hT ho hcs
    · cases hc
  case h_15 ty l c ho =>
    split at hc
    · rename_i el l' c' h1 h2 h3
      split at hc
      · rename_i i z hi hz
        split at hc
        · rename_i hzl
          cases hc
          simp only [core] at he
          split at he
          · rename_i kl m kc n hm hn
            split at he
            · rename_i hcond
              cases he
              exact ok_mks ty el l c l' c' i z h1 h2 h3 hi hz hzl hH hT hv ho d hm hn hcond.1 hcond.2.1 hcond.2.2.1 hcond.2.2.2.1 hcond.2.2.2.2.2
            · cases he
          · cases he
        · cases hc
      · cases hc
    · cases hc
  case h_16 ty x lo hi mx ho =>
    split at hc
    · split at hc
      · rename_i x' lo' hi' h1 h2 h3
        split at hc
        · rename_i hu
          cases hc
          simp only [core] at he
          split at he
          · rename_i s hp
            simp only [Option.map_eq_some_iff] at he
            obtain ⟨⟨l, h⟩, hb, rfl⟩ := he
            exact ok_slc_str ty x lo hi x' lo' hi' hu h1 h2 h3 hH hT ho hp hb
          · cases he
        · rename_i el hu
          split at hc
          · rename_i n hn
            split at hc
            · rename_i hpos
              cases hc
              simp only [core] at he
              split at he
              · rename_i es hp
                split at he
                · rename_i l h hb
                  split at he
                  · rename_i hst
                    cases he
                    exact ok_slc_view ty el n x lo hi x' lo' hi' hu hn h1 h2 h3 hH hT ho hp hb hst
                  · cases he
                · cases he
              · rename_i id vv m hp
                split at he
                · rename_i h hb
                  cases he
                  exact ok_slc_own ty el n x lo hi x' lo' hi' hu hn h1 h2 h3 hH hT ho hp hb
                · rename_i l h hb
                  split at he
                  · rename_i v' wr0 st' ty0 es0 hB0
                    split at he
                    · rename_i hcond
                      obtain ⟨rfl, rfl, hhe⟩ := hcond
                      cases he
                      exact ok_slc_ow ty el _ x lo hi x' lo' hi' hu hn h1 h2 h3 hH hT ho hp hb (Nat.succ_pos l) hB0 hhe
                    · cases he
                  · cases he
                · cases he
              · rename_i hp
                split at he
                · rename_i q hb
                  cases he
                  exact ok_slc_nil ty el n x lo hi x' lo' hi' hu hn h1 h2 h3 hH hT ho hp hb
                · cases he
              · cases he
            · cases hc
          · cases hc
        · cases hc
      · cases hc
    · split at hc
      · rename_i el h1
        split at hc
        · rename_i hsz
          cases hx : cOpd x <;> simp [hx] at hc
          subst hc
          simp only [core] at he
          split at he
          · rename_i es hp; cases he; exact ok_slc0 ty el x _ (elemT_ok h1) hsz hx hH hT ho (.inl ⟨_, hp⟩)
          · rename_i hp; cases he; exact ok_slc0 ty el x _ (elemT_ok h1) hsz hx hH hT ho (.inr (.inl ⟨_, _, _, hp⟩))
          · rename_i hp; cases he; exact ok_slc0 ty el x _ (elemT_ok h1) hsz hx hH hT ho (.inr (.inr hp))
          · cases he
        · cases hc
      · cases hc
    · cases hc
  case h_17 s x f ho =>
    split at hc
    · rename_i fs x' h1 h2
      split at hc
      · rename_i fd hf
        split at hc
        · rename_i n hn
          split at hc
          · rename_i hpos
            cases hc
            simp only [core] at he
            split at he
            · rename_i hp; cases he; exact ok_fa s fs f fd n x x' h1 hf hn hpos h2 hH hT ho (.inl ⟨_, _, _, hp, rfl⟩)
            · rename_i hp; cases he; exact ok_fa s fs f fd n x x' h1 hf hn hpos h2 hH hT ho (.inr (.inl ⟨_, _, _, _, hp, rfl⟩))
            · rename_i hp; cases he; exact ok_fa s fs f fd n x x' h1 hf hn hpos h2 hH hT ho (.inr (.inr (.inr ⟨_, _, _, _, hp, rfl⟩)))
            · rename_i hp; cases he; exact ok_fa s fs f fd n x x' h1 hf hn hpos h2 hH hT ho (.inr (.inr (.inl ⟨_, hp, rfl⟩)))
            · cases he
          · cases hc
        · cases hc
      · cases hc
    · cases hc
  case h_18 s x f ho =>
    split at hc
    · rename_i fs x' h1 h2
      split at hc
      · rename_i fd hf
        split at hc
        · rename_i n ag hn hag
          cases hc
          simp only [core] at he
          split at he
          · rename_i cs hp
            cases ag with
            | true =>
              simp only [if_true] at he
              split at he
              · rename_i hle; cases he; exact ok_fl s fs f fd n true x x' h1 hf hn hag h2 hH hT ho hp (.inl ⟨rfl, hle, rfl⟩)
              · cases he
            | false =>
              simp at he
              obtain ⟨c, hcc, rfl⟩ := he
              exact ok_fl s fs f fd n false x x' h1 hf hn hag h2 hH hT ho hp (.inr ⟨rfl, c, hcc, rfl⟩)
          · cases he
        · cases hc
      · cases hc
    · cases hc
  case h_19 ty x i ho =>
    split at hc
    · rename_i el x' i' h1 h2 h3
      cases hn : sizeT P el <;> simp [hn] at hc
      subst hc
      simp only [core] at he
      split at he
      · rename_i es k m hp hm
        split at he
        · rename_i h0
          split at he
          · rename_i e1 he1
            split at he
            · rename_i hel; cases he; exact ok_ia_view ty el _ x i x' i' (elemT_ok h1) hn h2 h3 hH hT ho hp hm h0 he1 hel
            · cases he
          · cases he
        · cases he
      · rename_i id vv q k m hp hm
        split at he
        · rename_i hcond
          split at he
          · rename_i v' wr st' ty' es hB
            split at he
            · rename_i hc2
              obtain ⟨rfl, rfl, hc3⟩ := hc2
              cases he
              exact ok_ia_own ty el _ x i x' i' (elemT_ok h1) hn h2 h3 hH hT ho hp hm hcond.1 hcond.2 hB
            · cases he
          · cases he
        · cases he
      · rename_i id vv q k m hp hm
        split at he
        · rename_i hcond
          split at he
          · rename_i v' wr st' ty' es op hB
            split at he
            · rename_i hc2
              obtain ⟨rfl, rfl, hc3⟩ := hc2
              cases he
              exact ok_ia_tr ty el _ x i x' i' (elemT_ok h1) hn h2 h3 hH hT ho hp hm hcond.1 hcond.2 hB
            · cases he
          · cases he
        · cases he
      · cases he
    · rename_i x' i' h1 h2 h3
      split at hc
      · rename_i n el harr
        cases hn : sizeT P el <;> simp [hn] at hc
        subst hc
        simp only [core] at he
        split at he
        · rename_i id vr jj k m hp hm
          split at he
          · rename_i hcond
            cases he
            exact ok_iap ty el n _ x i x' i' (arrT_ok harr) hn h2 h3 hH hT ho hp hm hcond.1 hcond.2
          · cases he
        · cases he
      · cases hc
    · cases hc
  case h_20 ty x i ho =>
    split at hc
    · rename_i x' i' h1 h2 h3
      cases hc
      simp only [core] at he
      split at he
      · rename_i s k m hp hm
        split at he
        · rename_i h0
          simp only [Option.map_eq_some_iff] at he
          obtain ⟨b, hb, rfl⟩ := he
          exact ok_ix ty x i x' i' h1 h2 h3 hH hT ho hp hm h0 hb
        · cases he
      · cases he
    · rename_i n el x' i' h1 h2 h3
      split at hc
      · rename_i sz ag h4 h5
        cases hc
        simp only [core] at he
        split at he
        · rename_i cs k m hp hm
          split at he
          · rename_i hcond
            cases ag with
            | true =>
              simp only [if_true] at he
              split at he
              · rename_i hle; cases he; exact ok_ixA ty el n sz true x i x' i' h1 h4 h5 h2 h3 hH hT ho hp hm hcond.1 hcond.2 (.inl ⟨rfl, hle, rfl⟩)
              · cases he
            | false =>
              simp only [Bool.false_eq_true, if_false, Option.map_eq_some_iff] at he
              obtain ⟨c, hcc, rfl⟩ := he
              exact ok_ixA ty el n sz false x i x' i' h1 h4 h5 h2 h3 hH hT ho hp hm hcond.1 hcond.2 (.inr ⟨rfl, c, hcc, rfl⟩)
          · cases he
        · cases he
      · cases hc
    · cases hc
  case h_21 x i ho =>
    cases hx : cOpd x <;> simp [hx] at hc
    subst hc
    simp only [core] at he
    split at he
    · rename_i ps hp
      simp only [Option.map_eq_some_iff] at he
      obtain ⟨p, hi, rfl⟩ := he
      exact ok_ext i x _ hx hH hT ho hp hi
    · cases he
  case h_22 c ho =>
    split at hc
    · rename_i hcal
      split at hc
      · rename_i x ty hargs hts
        split at hc
        · rename_i hu
          cases hx : cOpd x <;> simp [hx] at hc
          subst hc
          simp only [core] at he
          split at he
          · rename_i s hp; cases he; exact ok_len c x ty _ hcal hargs hts hx hH hT ho (.inl ⟨hu, s, hp, rfl⟩)
          · cases he
        · rename_i el hu
          cases hx : cOpd x <;> simp [hx] at hc
          subst hc
          simp only [core] at he
          split at he
          · rename_i es hp; cases he; exact ok_len c x ty _ hcal hargs hts hx hH hT ho (.inr ⟨⟨el, hu⟩, .inl ⟨es, hp, rfl⟩⟩)
          · rename_i hp; cases he; exact ok_len c x ty _ hcal hargs hts hx hH hT ho (.inr ⟨⟨el, hu⟩, .inr (.inl ⟨_, _, hp⟩)⟩)
          · rename_i hp; cases he; exact ok_len c x ty _ hcal hargs hts hx hH hT ho (.inr ⟨⟨el, hu⟩, .inr (.inr (.inr ⟨_, _, hp⟩))⟩)
          · rename_i hp; cases he; exact ok_len c x ty _ hcal hargs hts hx hH hT ho (.inr ⟨⟨el, hu⟩, .inr (.inr (.inl ⟨hp, rfl⟩))⟩)
          · cases he
        · cases hc
      · cases hc
    · rename_i hcal
      split at hc
      · rename_i x y ty ty' hargs hts
        split at hc
        · rename_i htt
          subst htt
          split at hc
          · rename_i el x' y' h1 h2 h3
            split at hc
            · rename_i i z hi hz
              split at hc
              · rename_i hcond
                cases hc
                simp only [core] at he
                split at he
                · rename_i d2 ty2 ys hs
                  split at he
                  · rename_i hyl
                    obtain ⟨rfl, hyl, _⟩ := hyl
                    split at he
                    · rename_i hp
                      split at he
                      · rename_i hb
                        cases he
                        exact ok_app_trnil c x y ty ty2 i z x' y' hcal hargs hts h1 hi hz hcond.1 hcond.2 h2 h3 hH hT hv ho d hs hyl hp hb.1 hb.2.1 hb.2.2
                      · cases he
                    · rename_i id vv n hp
                      split at he
                      · rename_i v' st' ty' es hB
                        split at he
                        · rename_i hb
                          obtain ⟨rfl, rfl, rfl, hn, hb, h63, hdd⟩ := hb
                          cases he
                          exact ok_app_tr c x y ty ty' i z x' y' hcal hargs hts h1 hi hz hcond.1 hcond.2 h2 h3 hH hT hv ho hs hyl hp hB hn hb h63 hdd
                        · cases he
                      · cases he
                    · cases he
                  · cases he
                split at he
                · cases he
                · rename_i ys ns hs
                  split at he
                  · rename_i hyl
                    split at he
                    · rename_i hp
                      split at he
                      · rename_i hb
                        cases he
                        exact ok_app_nil c x y ty el i z x' y' hcal hargs hts h1 hi hz hcond.1 hcond.2 h2 h3 hH hT hv ho d hs hyl.1 hp hb.1 hb.2
                      · cases he
                    · rename_i id vv n hp
                      split at he
                      · rename_i v' wr st' ty' es hB
                        split at he
                        · rename_i hb
                          obtain ⟨rfl, rfl, rfl, hn, hnw, hb, h63⟩ := hb
                          cases he
                          exact ok_app_own c x y ty ty' i z x' y' hcal hargs hts h1 hi hz hcond.1 hcond.2 h2 h3 hH hT hv ho hs hyl.1 hp hB hn hnw hb h63
                        · cases he
                      · cases he
                    · cases he
                  · cases he
              · cases hc
            · cases hc
          · cases hc
        · split at hc
          · rename_i el x' y' h1 h2 h3 h4
            split at hc
            · rename_i i z hi hz h5
              split at hc
              · rename_i hcond
                cases hc
                simp only [core] at he
                split at he
                · rename_i b id vv n hs hp
                  split at he
                  · rename_i v' wr st' tye es hB
                    split at he
                    · rename_i hb
                      obtain ⟨rfl, rfl, rfl, h0, hn, hnw, hb, h63⟩ := hb
                      cases he
                      exact ok_appS c x y ty ty' _ i z x' y' hcal hargs hts h1 h2 hi hz hcond.1 hcond.2 h3 h4 hH hT hv ho hs hp hB h0 hn hnw hb h63
                    · cases he
                  · cases he
                · cases he
              · cases hc
            · cases hc
          · cases hc
      · cases hc
    · rename_i hcal
      split at hc
      · rename_i x y ty ty2 hargs hts
        split at hc
        · rename_i el x' y' h1 h2 h3
          split at hc
          · rename_i hsz
            cases hc
            simp only [core] at he
            split at he
            · rename_i ys ns id v l n hs hd
              split at he
              · rename_i v' wr st' tya es hB
                split at he
                · rename_i hb
                  obtain ⟨rfl, rfl, rfl, hln, hyl⟩ := hb
                  cases he
                  exact ok_cpy c x y ty ty2 el x' y' hcal hargs hts h1 hsz h2 h3 hH hT ho hs hyl hd hB hln
                · cases he
              · cases he
            · cases he
          · cases hc
        · cases hc
      · cases hc
    · rename_i hcal
      split at hc
      · rename_i x y hargs
        split at hc
        · rename_i x' y' h2 h3
          cases hc
          simp only [core] at he
          split at he
          · rename_i k m k' n hm hn
            cases he
            exact ok_mmx c true x y x' y' hcal hargs h2 h3 hH hT ho hm hn
          · cases he
        · cases hc
      · rename_i x y z hargs
        split at hc
        · rename_i x' y' z' h2 h3 h4
          cases hc
          simp only [core] at he
          split at he
          · rename_i k m k' n k'' q hm hn hq
            cases he
            exact ok_mm3 c x y z x' y' z' hcal hargs h2 h3 h4 hH hT ho hm hn hq
          · cases he
        · cases hc
      · cases hc
    · rename_i hcal
      split at hc
      · rename_i x y hargs
        split at hc
        · rename_i x' y' h2 h3
          cases hc
          simp only [core] at he
          split at he
          · rename_i k m k' n hm hn
            cases he
            exact ok_mmx c false x y x' y' hcal hargs h2 h3 hH hT ho hm hn
          · cases he
        · cases hc
      · cases hc
    · split at hc
      · cases hc; simp [core] at he
      · cases hc
    · cases hc
  case h_23 => cases hc; simp [core] at he
end
end Go.V
namespace Go.V

def closedC : C → Bool
  | .v _ => true
  | _ => false
def scalarC : C → Bool
  | .v (.s _) => true
  | _ => false
def closedP : P1 → Bool
  | .one c => closedC c
  | .agg cs => cs.all closedC
def scalarP : P1 → Bool
  | .one c => scalarC c
  | .agg cs => cs.all scalarC
def closedT : T → Bool
  | .pt p => closedP p
  | .tup ps => ps.all closedP
  | _ => false
def scalarT : T → Bool
  | .pt p => scalarP p
  | .tup ps => ps.all scalarP
  | _ => false

section
variable {w w' : World} {imm imm' : Imm} {H H' : HMap} {L L' : Locs} {U U' : Nat → Prop}
theorem CRep.scalar {x : Value} {c : C} (h : CRep w imm H L U x c) (hc : scalarC c = true) : CRep w' imm' H' L' U' x c := by
  unfold scalarC at hc
  split at hc
  · have h1 := oneCell_s (show VRep w imm x (.s _) from h)
    have h2 := rep_s (H := H) (L := L) (U := U) h
    subst h2
    exact .s _ h1
  · cases hc
end

/-! What a callee gets of the caller's own: closed where its contract says so, handed on else. -/
def lendC (H : HMap) : C → C → Option (C × List (Nat × Blk) × List Nat)
  | .v _, c => (sealC H c).map fun (x, ws, ns) => (.v x, ws, ns)
  | _, c => some (c, [], [])
def lendCs (H : HMap) : List C → List C → Option (List C × List (Nat × Blk) × List Nat)
  | [], [] => some ([], [], [])
  | t :: ts, c :: cs => match lendC H t c, lendCs H ts cs with
    | some (x, w, n), some (xs, ws, ns) => some (x :: xs, w ++ ws, n ++ ns)
    | _, _ => none
  | _, _ => none
def lendT (H : HMap) : T → T → Option (T × List (Nat × Blk) × List Nat)
  | .pt (.one t), .pt (.one c) => (lendC H t c).map fun (x, ws, ns) => (.pt (.one x), ws, ns)
  | .pt (.agg ts), .pt (.agg cs) => (lendCs H ts cs).map fun (xs, ws, ns) => (.pt (.agg xs), ws, ns)
  | _, _ => none
def lendTs (H : HMap) : List T → List T → Option (List T × List (Nat × Blk) × List Nat)
  | [], [] => some ([], [], [])
  | t :: ts, x :: xs => match lendT H t x, lendTs H ts xs with
    | some (y, w, n), some (ys, ws, ns) => some (y :: ys, w ++ ws, n ++ ns)
    | _, _ => none
  | _, _ => none

/-- A block that a call gets or gives: its name in the callee's contract, its name at the caller, what it is before (if it is handed on) and behind, and whether the caller's references to it stay good. -/
structure Hand where
  c : Nat
  m : Nat
  b : Option Blk
  b' : Blk
  keep : Bool

def renN (hs : List Hand) (c : Nat) : Option Hand := hs.find? (·.c == c)
def inN (hs : List Hand) (c : Nat) : Option Nat := (renN hs c).bind fun h => h.b.map fun _ => h.m

/-! from the callee's names to the caller's: what goes in -/
def capsI (hs : List Hand) : List (Nat × Nat) → Option (List (Nat × Nat))
  | [] => some []
  | (c, v) :: ps => match inN hs c, capsI hs ps with
    | some m, some qs => some ((m, v) :: qs)
    | _, _ => none
def renI (hs : List Hand) : C → Option C
  | .own c v n => (inN hs c).map fun m => .own m v n
  | .ptr c v j => (inN hs c).map fun m => .ptr m v j
  | .aptr c v i j => (inN hs c).map fun m => .aptr m v i j
  | .tr c v n => (inN hs c).map fun m => .tr m v n
  | .tptr c v i j => (inN hs c).map fun m => .tptr m v i j
  | .fn f ps => (capsI hs ps).map (.fn f)
  | .v x => some (.v x)
  | .nil0 => some .nil0
  | .vptr xs => some (.vptr xs)
  | .ow _ _ _ _ => none
def renIs (hs : List Hand) : List C → Option (List C)
  | [] => some []
  | c :: cs => match renI hs c, renIs hs cs with
    | some x, some xs => some (x :: xs)
    | _, _ => none
def renIT (hs : List Hand) : T → Option T
  | .pt (.one c) => (renI hs c).map fun x => .pt (.one x)
  | .pt (.agg cs) => (renIs hs cs).map fun xs => .pt (.agg xs)
  | _ => none
def renITs (hs : List Hand) : List T → Option (List T)
  | [] => some []
  | c :: cs => match renIT hs c, renITs hs cs with
    | some x, some xs => some (x :: xs)
    | _, _ => none
def renIB (hs : List Hand) : Blk → Option Blk
  | .var ver ty cs => (renIs hs cs).map (.var ver ty)
  | .arr ver wr st ty es => some (.arr ver wr st ty es)
  | .tree ver wr st ty es none => some (.tree ver wr st ty es none)
  | .tree _ _ _ _ _ (some _) => none

/-! what comes out -/
def verOf (nv : Nat) (h : Hand) : Nat := if h.keep then (match h.b with | some b => b.ver | none => nv) else nv
def renO (hs : List Hand) (nv : Nat) : C → Option C
  | .own c _ n => (renN hs c).map fun h => .own h.m (verOf nv h) n
  | .ptr c _ j => (renN hs c).map fun h => .ptr h.m (verOf nv h) j
  | .aptr c _ i j => (renN hs c).map fun h => .aptr h.m (verOf nv h) i j
  | .tr c _ n => (renN hs c).map fun h => .tr h.m (verOf nv h) n
  | .tptr c _ i j => (renN hs c).map fun h => .tptr h.m (verOf nv h) i j
  | .fn f [] => some (.fn f [])
  | .fn _ _ => none
  | .v x => some (.v x)
  | .nil0 => some .nil0
  | .vptr xs => some (.vptr xs)
  | .ow _ _ _ _ => none
def renOs (hs : List Hand) (nv : Nat) : List C → Option (List C)
  | [] => some []
  | c :: cs => match renO hs nv c, renOs hs nv cs with
    | some x, some xs => some (x :: xs)
    | _, _ => none
def renOP (hs : List Hand) (nv : Nat) : P1 → Option P1
  | .one c => (renO hs nv c).map .one
  | .agg cs => (renOs hs nv cs).map .agg
def renOPs (hs : List Hand) (nv : Nat) : List P1 → Option (List P1)
  | [] => some []
  | c :: cs => match renOP hs nv c, renOPs hs nv cs with
    | some x, some xs => some (x :: xs)
    | _, _ => none
def renOT (hs : List Hand) (nv : Nat) : T → Option T
  | .pt p => (renOP hs nv p).map .pt
  | .tup ps => (renOPs hs nv ps).map .tup
  | _ => none
def renOB (hs : List Hand) (nv ver : Nat) : Blk → Option Blk
  | .var _ ty cs => (renOs hs nv cs).map (.var ver ty)
  | .arr _ wr st ty es => some (.arr ver wr st ty es)
  | .tree _ wr st ty es none => some (.tree ver wr st ty es none)
  | .tree _ _ _ _ _ (some _) => none
def renOBs (hs : List Hand) (nv : Nat) : List Hand → Option (List (Nat × Blk))
  | [] => some []
  | h :: t => match renOB hs nv (verOf nv h) h.b', renOBs hs nv t with
    | some B, some bs => some ((h.m, B) :: bs)
    | _, _ => none

/-! the marks of versions, as they are at the callee's end -/
def verC (ν : Nat → Nat) : C → C
  | .own c _ n => .own c (ν c) n
  | .ptr c _ j => .ptr c (ν c) j
  | .aptr c _ i j => .aptr c (ν c) i j
  | .tr c _ n => .tr c (ν c) n
  | .tptr c _ i j => .tptr c (ν c) i j
  | .fn f ps => .fn f ps
  | .v x => .v x
  | .nil0 => .nil0
  | .vptr xs => .vptr xs
  | .ow c v l n => .ow c v l n
def verP (ν : Nat → Nat) : P1 → P1
  | .one c => .one (verC ν c)
  | .agg cs => .agg (cs.map (verC ν))
def verT (ν : Nat → Nat) : T → T
  | .pt p => .pt (verP ν p)
  | .tup ps => .tup (ps.map (verP ν))
  | .undef => .undef
  | .junk => .junk
def verB (ν : Nat → Nat) (v : Nat) : Blk → Blk
  | .var _ ty cs => .var v ty (cs.map (verC ν))
  | .arr _ wr st ty es => .arr v wr st ty es
  | .tree _ wr st ty es op => .tree v wr st ty es op

def hinOf (hs : List Hand) : HMap := fun c => (renN hs c).bind fun h => h.b

/-- A function with a body of its own. -/
def isFn (P : Program) (f : FuncId) : Bool :=
  match P.funcs[f]? with
  | some fn => !(fn.name == "runtime.NumGoroutine") && fn.body.isSome
  | none => false

def capT (p : Nat × Nat) : T := .pt (.one (.ptr p.1 p.2 0))

/-- A contract of a function, as calls use it: with these arguments and these blocks it returns r, and leaves the blocks so. -/
def ACallsF (P : Program) (f : FuncId) (args : List T) (hs : List Hand) (r : T) : Prop :=
  isFn P f = true ∧ ACalls P f args (hinOf hs) fun r' h' => ∃ ν : Nat → Nat, r' = verT ν r ∧ ∀ c h, renN hs c = some h → h' c = some (verB ν (ν c) h.b') ∧ (h.keep = true → ∃ b, h.b = some b ∧ ν c = b.ver)

def handsIn (H : HMap) (hs0 : List Hand) : List Hand → Prop
  | [] => True
  | h :: hs => (match h.b with
    | none => True
    | some b => match renIB hs0 b with
      | some B => H h.m = some B
      | none => False) ∧ handsIn H hs0 hs

theorem handsIn_mem {H : HMap} {hs0 : List Hand} : ∀ {hs : List Hand}, handsIn H hs0 hs → ∀ h ∈ hs, ∀ b, h.b = some b → ∃ B, renIB hs0 b = some B ∧ H h.m = some B
  | [], _, _, h, _, _ => by cases h
  | x :: hs, hh, h, hm, b, hb => by
    rcases List.mem_cons.1 hm with rfl | hm
    · have := hh.1
      rw [hb] at this
      simp only at this
      split at this
      · rename_i B hB; exact ⟨B, hB, this⟩
      · exact this.elim
    · exact handsIn_mem hh.2 h hm b hb

theorem handsIn_congr {H H' : HMap} {hs0 : List Hand} : ∀ {hs : List Hand}, (∀ h ∈ hs, H' h.m = H h.m) → handsIn H hs0 hs → handsIn H' hs0 hs
  | [], _, _ => trivial
  | x :: hs, he, hh => by
    refine ⟨?_, handsIn_congr (fun h hm => he h (by simp [hm])) hh.2⟩
    have := hh.1
    cases hb : x.b with
    | none => trivial
    | some b =>
      rw [hb] at this
      simp only at this ⊢
      rw [he x (by simp)]
      exact this

/-! what holds no closed slice: scalars, and references -/
def flatC : C → Bool
  | .v (.s _) => true
  | .v (.sl _) => false
  | .vptr _ => false
  | _ => true
def flatP : P1 → Bool
  | .one c => flatC c
  | .agg cs => cs.all flatC
def flatT : T → Bool
  | .pt p => flatP p
  | .tup ps => ps.all flatP
  | _ => false
def flatV : V → Bool
  | .s _ => true
  | .sl _ => false
def flatB : Blk → Bool
  | .var _ _ cs => cs.all flatC
  | .arr _ _ _ _ es => es.all fun e => e.all flatV
  | .tree _ _ _ _ _ op => op.isNone
section
variable {w : World} {imm imm' : Imm} {H : HMap} {L : Locs} {U : Nat → Prop}
theorem CRep.flat {x : Value} {c : C} (h : CRep w imm H L U x c) (hc : flatC c = true) : CRep w imm' H L U x c := by
  cases c with
  | v y => cases y with
    | s z => exact CRep.scalar (show CRep w imm H L U x (.v (.s z)) from h) rfl
    | sl es => cases hc
  | vptr xs => cases hc
  | _ => exact h
theorem CsRep.flat {xs : List Value} {cs : List C} (h : CsRep w imm H L U xs cs) (hc : cs.all flatC = true) : CsRep w imm' H L U xs cs :=
  ⟨h.1, fun k x y hx hy => (h.2 k x y hx hy).flat (List.all_eq_true.1 hc y (List.mem_of_getElem? hy))⟩
theorem PRep.flat {x : Value} {p : P1} (h : PRep w imm H L U x p) (hc : flatP p = true) : PRep w imm' H L U x p := by
  cases p with
  | one c => exact CRep.flat (show CRep w imm H L U x c from h) hc
  | agg cs => obtain ⟨xs, hx, h⟩ := h; exact ⟨xs, hx, h.flat hc⟩
theorem TRep.flat {x : Value} {t : T} (h : TRep w imm H L U x t) (hc : flatT t = true) : TRep w imm' H L U x t := by
  cases t with
  | junk => trivial
  | undef => exact h
  | pt p => exact PRep.flat (show PRep w imm H L U x p from h) hc
  | tup ps => obtain ⟨xs, hx, hl, h⟩ := h; exact ⟨xs, hx, hl, fun k u y hu hy => (h k u y hu hy).flat (List.all_eq_true.1 hc y (List.mem_of_getElem? hy))⟩
theorem VsRep.flat {cur : Array Value} {o : Nat} {e : List V} (h : VsRep w imm cur o e) (hc : e.all flatV = true) : VsRep w imm' cur o e := fun k y hy => by
  obtain ⟨u, h1, h2⟩ := h k y hy
  have := List.all_eq_true.1 hc y (List.mem_of_getElem? hy)
  cases y with
  | s z => exact ⟨u, h1, CRep.scalar (H := fun _ => none) (L := ⟨fun _ => none, fun _ _ => False⟩) (U := fun _ => True) (H' := fun _ => none) (L' := ⟨fun _ => none, fun _ _ => False⟩) (U' := fun _ => True) (show CRep w imm (fun _ => none) ⟨fun _ => none, fun _ _ => False⟩ (fun _ => True) u (.v (.s z)) from h2) rfl⟩
  | sl es => cases this
end

/-- Whether a call keeps nothing of what it was lent. -/
def quiet (r : T) (hs : List Hand) : Bool := flatT r && hs.all fun h => h.b.isNone && flatB h.b'

/-- What a call does, as far as its caller sees it. -/
def CallEff0 (P : Program) (f : Opd) (args : List Opd) (nv : Nat) (σ : St) (e : Ef) : Prop :=
  ∃ fid caps as ws ns hs argsC r r' ob, ev σ.t f = .pt (.one (.fn fid caps)) ∧ lendTs σ.H argsC (args.map (ev σ.t) ++ caps.map capT) = some (as, ws, ns) ∧ renITs hs argsC = some as ∧ handsIn (updH σ.H ws) hs hs ∧ (hs.map (·.m)).Nodup ∧ (hs.map (·.c)).Nodup ∧
    ACallsF P fid argsC hs r ∧ renOT hs nv r = some r' ∧ renOBs hs nv hs = some ob ∧
    e = ⟨r', (if quiet r hs then [] else ws) ++ ob, ns ++ hs.map (·.m), (if quiet r hs then [] else ns) ++ hs.map (·.m)⟩

/-- What a call does; one that leaves all as it was writes nothing. -/
def CallEff (P : Program) (f : Opd) (args : List Opd) (nv : Nat) (σ : St) (e : Ef) : Prop :=
  CallEff0 P f args nv σ e ∨ ∃ e0, CallEff0 P f args nv σ e0 ∧ updH σ.H e0.ws = σ.H ∧ e = ⟨e0.val, [], e0.rn, []⟩

/-- Whether an operation is done. -/
def gd (g : Option (Nat × Bool)) (t : Nat → T) : Option Bool :=
  match g with
  | none => some true
  | some (s, want) => match t s with
    | .pt (.one (.v (.s (.bool b)))) => some (b == want)
    | .undef => some false
    | _ => none

def Eff (P : Program) (o : AOper) (σ : St) (e : Ef) : Prop :=
  match gd o.g σ.t with
  | some false => e = ⟨.undef, [], [], []⟩
  | some true => match o.op with
    | .call f args => CallEff P f args (σ.ctr + o.k) σ e
    | op => core op (o.d.getD 0) (σ.ctr + o.k) σ.t σ.H = some e
  | none => False
end Go.V
namespace Go.V
section
variable {P : Program} {a : Act} {o : Oper} {w w' : World} {L L' : Locs} {U : Nat → Prop} {t : Nat → T} {ver : Nat} {imm imm' : Imm} {H H' : HMap}

theorem HOk.frame (h : HOk w imm H L U) (hk : ∀ b o, imm b o → imm' b o ∧ w'.cell? ⟨b, o, none⟩ = w.cell? ⟨b, o, none⟩) (hsize : w.heap.size ≤ w'.heap.size) (hb : ∀ n g, H n ≠ none → L.Own n g → w'.heap[g]? = w.heap[g]?)
    (himm : ∀ n g o, H n ≠ none → L.Own n g → imm' g o → imm g o) (hlt : ∀ b o, imm' b o → b < w'.heap.size) : HOk w' imm' H L U ∧ Ext w H L U w' H L U := by
  have he : Ext w H L U w' H L U := ⟨fun _ h => h, fun _ _ ty cs _ h => ⟨ty, cs, h, rfl⟩, fun _ _ wr _ _ es _ h => ⟨wr, es, h, Nat.le_refl _, rfl⟩,
    fun n _ _ _ _ _ g cur _ hn hg hh => ⟨cur, by rw [hb n g (by simp [hn]) (.inl hg)]; exact hh, rfl⟩, fun _ _ wr _ _ es op _ h => ⟨wr, es, op, h, Nat.le_refl _, rfl⟩,
    fun n _ _ _ _ _ _ g cur _ hn hg hh => ⟨cur, by rw [hb n g (by simp [hn]) (.inl hg)]; exact hh, rfl⟩⟩
  exact ⟨⟨fun n B hn => (h.blk n B hn).mono hk he rfl rfl (fun g hg => hb n g (by simp [hn]) hg) fun g o hg => himm n g o (by simp [hn]) hg, h.inj, fun n g hn hg => ⟨Nat.lt_of_lt_of_le (h.sub n g hn hg).1 hsize, (h.sub n g hn hg).2⟩, h.glob.keep hk, hlt⟩, he⟩

theorem updH_ne : ∀ (ws : List (Nat × Blk)) (H : HMap) (n : Nat), (∀ p ∈ ws, p.1 ≠ n) → updH H ws n = H n
  | [], _, _, _ => rfl
  | (m, b) :: ws, H, n, h => by
    simp only [updH]
    rw [updH_ne ws _ n fun p hp => h p (by simp [hp]), upd_ne _ _ (Ne.symm (h (m, b) (by simp)))]


theorem lendC_ok {H0 : HMap} (hH : HOk w imm H L U) (hs : SameA H0 H) {x : Value} {tm v u : C} {ws : List (Nat × Blk)} {ns : List Nat} (h : lendC H0 tm v = some (u, ws, ns)) (hr : CRep w imm H L U x v) :
    ∃ imm', Sealed w imm H L U H0 (updH H ws) imm' ∧ CRep w imm' (updH H ws) L U x u := by
  have keep : (u, ws, ns) = (v, [], []) → ∃ imm', Sealed w imm H L U H0 (updH H ws) imm' ∧ CRep w imm' (updH H ws) L U x u := by
    intro e
    simp only [Prod.mk.injEq] at e
    obtain ⟨rfl, rfl, rfl⟩ := e
    exact ⟨imm, ⟨hH, Ext.refl _ _ _ _, hs, Step.refl _ _ _, Near.refl _ _ _⟩, hr⟩
  cases tm with
  | v y =>
    simp only [lendC, Option.map_eq_some_iff] at h
    obtain ⟨⟨y, ws', ns'⟩, h1, h2⟩ := h
    cases h2
    obtain ⟨imm', a1, a2, a3, a4, a5, a6⟩ := seal1 hH hs h1 hr
    exact ⟨imm', ⟨a1, a3, a4, a5, a6⟩, a2⟩
  | _ => simp only [lendC, Option.some.injEq] at h; exact keep h.symm

theorem lendCs_ok {H0 : HMap} : ∀ {tms cs : List C} {imm : Imm} {H : HMap} (_ : HOk w imm H L U) (_ : SameA H0 H) {xs : List Value} {us : List C} {ws : List (Nat × Blk)} {ns : List Nat} (_ : lendCs H0 tms cs = some (us, ws, ns)) (_ : CsRep w imm H L U xs cs),
    ∃ imm', Sealed w imm H L U H0 (updH H ws) imm' ∧ CsRep w imm' (updH H ws) L U xs us
  | [], [], imm, H, hH, hs, xs, us, ws, ns, h, hr => by
    simp [lendCs] at h
    obtain ⟨rfl, rfl, rfl⟩ := h
    exact ⟨imm, ⟨hH, Ext.refl _ _ _ _, hs, Step.refl _ _ _, Near.refl _ _ _⟩, hr⟩
  | [], _ :: _, _, _, _, _, _, _, _, _, h, _ => by simp [lendCs] at h
  | _ :: _, [], _, _, _, _, _, _, _, _, h, _ => by simp [lendCs] at h
  | tm :: tms, v :: cs, imm, H, hH, hs, xs, us, ws, ns, h, hr => by
    simp only [lendCs] at h
    split at h
    · rename_i y w1 n1 ys w2 n2 h1 h2
      simp only [Option.some.injEq, Prod.mk.injEq] at h
      obtain ⟨rfl, rfl, rfl⟩ := h
      cases xs with
      | nil => have := hr.1; simp at this
      | cons x xs =>
        have hx : CRep w imm H L U x v := hr.2 0 x v rfl rfl
        have hxs : CsRep w imm H L U xs cs := ⟨by have := hr.1; simpa using this, fun k a b ha hb => hr.2 (k + 1) a b (by simpa using ha) (by simpa using hb)⟩
        obtain ⟨imm1, S1, V1⟩ := lendC_ok hH hs h1 hx
        have hk1 : ∀ b o, imm b o → imm1 b o ∧ w.cell? ⟨b, o, none⟩ = w.cell? ⟨b, o, none⟩ := fun b o h => ⟨(S1.step.keep b o h).1, rfl⟩
        obtain ⟨imm2, S2, V2⟩ := lendCs_ok S1.hok S1.same h2 (hxs.mono hk1 S1.ext)
        have hk2 : ∀ b o, imm1 b o → imm2 b o ∧ w.cell? ⟨b, o, none⟩ = w.cell? ⟨b, o, none⟩ := fun b o h => ⟨(S2.step.keep b o h).1, rfl⟩
        refine ⟨imm2, ?_, ?_⟩
        · rw [updH_append]; exact S1.trans S2
        · rw [updH_append]
          refine ⟨by simp [V2.1], fun k u z hu hz => ?_⟩
          cases k with
          | zero => simp at hu hz; subst hu; subst hz; exact V1.mono hk2 S2.ext
          | succ k => exact V2.2 k u z (by simpa using hu) (by simpa using hz)
    · cases h

theorem lendT_ok {H0 : HMap} (hH : HOk w imm H L U) (hs : SameA H0 H) {x : Value} {tm v u : T} {ws : List (Nat × Blk)} {ns : List Nat} (h : lendT H0 tm v = some (u, ws, ns)) (hr : TRep w imm H L U x v) :
    ∃ imm', Sealed w imm H L U H0 (updH H ws) imm' ∧ TRep w imm' (updH H ws) L U x u := by
  unfold lendT at h
  split at h
  · simp only [Option.map_eq_some_iff] at h
    obtain ⟨⟨y, ws', ns'⟩, h1, h2⟩ := h
    cases h2
    exact lendC_ok hH hs h1 hr
  · simp only [Option.map_eq_some_iff] at h
    obtain ⟨⟨y, ws', ns'⟩, h1, h2⟩ := h
    cases h2
    obtain ⟨xs, hx, hcs⟩ := hr
    obtain ⟨imm', S, V⟩ := lendCs_ok hH hs h1 hcs
    exact ⟨imm', S, xs, hx, V⟩
  · cases h

theorem lendTs_ok {H0 : HMap} : ∀ {tms ts : List T} {imm : Imm} {H : HMap} (_ : HOk w imm H L U) (_ : SameA H0 H) {xs : List Value} {us : List T} {ws : List (Nat × Blk)} {ns : List Nat} (_ : lendTs H0 tms ts = some (us, ws, ns)) (_ : TsRep w imm H L U xs ts),
    ∃ imm', Sealed w imm H L U H0 (updH H ws) imm' ∧ TsRep w imm' (updH H ws) L U xs us
  | [], [], imm, H, hH, hs, xs, us, ws, ns, h, hr => by
    simp [lendTs] at h
    obtain ⟨rfl, rfl, rfl⟩ := h
    exact ⟨imm, ⟨hH, Ext.refl _ _ _ _, hs, Step.refl _ _ _, Near.refl _ _ _⟩, hr⟩
  | [], _ :: _, _, _, _, _, _, _, _, _, h, _ => by simp [lendTs] at h
  | _ :: _, [], _, _, _, _, _, _, _, _, h, _ => by simp [lendTs] at h
  | tm :: tms, v :: ts, imm, H, hH, hs, xs, us, ws, ns, h, hr => by
    simp only [lendTs] at h
    split at h
    · rename_i y w1 n1 ys w2 n2 h1 h2
      simp only [Option.some.injEq, Prod.mk.injEq] at h
      obtain ⟨rfl, rfl, rfl⟩ := h
      cases xs with
      | nil => have := hr.1; simp at this
      | cons x xs =>
        obtain ⟨hx, hxs⟩ := hr.cons
        obtain ⟨imm1, S1, V1⟩ := lendT_ok hH hs h1 hx
        have hk1 : ∀ b o, imm b o → imm1 b o ∧ w.cell? ⟨b, o, none⟩ = w.cell? ⟨b, o, none⟩ := fun b o h => ⟨(S1.step.keep b o h).1, rfl⟩
        have hxs' : TsRep w imm1 (updH H w1) L U xs ts := ⟨hxs.1, fun k u z hu hz => (hxs.2 k u z hu hz).mono hk1 S1.ext⟩
        obtain ⟨imm2, S2, V2⟩ := lendTs_ok S1.hok S1.same h2 hxs'
        have hk2 : ∀ b o, imm1 b o → imm2 b o ∧ w.cell? ⟨b, o, none⟩ = w.cell? ⟨b, o, none⟩ := fun b o h => ⟨(S2.step.keep b o h).1, rfl⟩
        refine ⟨imm2, ?_, ?_⟩
        · rw [updH_append]; exact S1.trans S2
        · rw [updH_append]
          refine ⟨by simp [V2.1], fun k u z hu hz => ?_⟩
          cases k with
          | zero => simp at hu hz; subst hu; subst hz; exact V1.mono hk2 S2.ext
          | succ k => exact V2.2 k u z (by simpa using hu) (by simpa using hz)
    · cases h

theorem renN_mem {hs : List Hand} {c : Nat} {h : Hand} (hr : renN hs c = some h) : h ∈ hs ∧ h.c = c := by
  unfold renN at hr
  exact ⟨List.mem_of_find?_eq_some hr, by have := List.find?_some hr; simpa using this⟩

theorem inN_some {hs : List Hand} {c m : Nat} (h : inN hs c = some m) : ∃ hd b, renN hs c = some hd ∧ hd.b = some b ∧ hd.m = m := by
  simp only [inN, Option.bind_eq_some_iff, Option.map_eq_some_iff] at h
  obtain ⟨hd, h1, b, h2, h3⟩ := h
  exact ⟨hd, b, h1, h2, h3⟩

theorem nodup_inj {α : Type} (f : α → Nat) : ∀ (l : List α), (l.map f).Nodup → ∀ x ∈ l, ∀ y ∈ l, f x = f y → x = y
  | [], _, x, hx, _, _, _ => by cases hx
  | a :: l, hn, x, hx, y, hy, e => by
    simp only [List.map_cons, List.nodup_cons] at hn
    rcases List.mem_cons.1 hx with h1 | h1 <;> rcases List.mem_cons.1 hy with h2 | h2
    · rw [h1, h2]
    · exact absurd (List.mem_map.2 ⟨y, h2, by rw [← e, h1]⟩) hn.1
    · exact absurd (List.mem_map.2 ⟨x, h1, by rw [e, h2]⟩) hn.1
    · exact nodup_inj f l hn.2 x h1 y h2 e


def locIn (hs : List Hand) (L : Locs) : Locs := ⟨fun c => (renN hs c).bind fun h => L h.m, fun c b => ∃ h, renN hs c = some h ∧ L.sub h.m b⟩
theorem locIn_own {hs : List Hand} {L : Locs} {c : Nat} {h : Hand} (hr : renN hs c = some h) (b : Nat) : (locIn hs L).Own c b ↔ L.Own h.m b := by simp [Locs.Own, locIn, hr]

/-- What is true of a cell at the caller is true of it at the callee. -/
theorem in_C {hs : List Hand} {H1 : HMap} {cc : Nat} (hcc : ∀ v, U v → v < cc) (hin : ∀ h ∈ hs, ∀ b, h.b = some b → ∃ B, renIB hs b = some B ∧ H1 h.m = some B) {x : Value} {c c1 : C} (hc : renI hs c = some c1) (hr : CRep w imm H1 L U x c1) :
    CRep w imm (hinOf hs) (locIn hs L) (· < cc) x c := by
  have hvar : ∀ {c m : Nat} {ver ty cs}, inN hs c = some m → hinOf hs c = some (.var ver ty cs) → ∃ cs', H1 m = some (.var ver ty cs') ∧ locIn hs L c = L m := by
    intro c m ver ty cs hm hB
    obtain ⟨hd, b, h1, h2, rfl⟩ := inN_some hm
    simp only [hinOf, h1, Option.bind_some, h2, Option.some.injEq] at hB
    subst hB
    obtain ⟨B, h3, h4⟩ := hin hd (renN_mem h1).1 _ h2
    simp only [renIB, Option.map_eq_some_iff] at h3
    obtain ⟨cs', _, rfl⟩ := h3
    exact ⟨cs', h4, by simp [locIn, h1]⟩
  have harr : ∀ {c m : Nat} {ver wr st ty es}, inN hs c = some m → hinOf hs c = some (.arr ver wr st ty es) → H1 m = some (.arr ver wr st ty es) ∧ locIn hs L c = L m := by
    intro c m ver wr st ty es hm hB
    obtain ⟨hd, b, h1, h2, rfl⟩ := inN_some hm
    simp only [hinOf, h1, Option.bind_some, h2, Option.some.injEq] at hB
    subst hB
    obtain ⟨B, h3, h4⟩ := hin hd (renN_mem h1).1 _ h2
    simp only [renIB, Option.some.injEq] at h3
    subst h3
    exact ⟨h4, by simp [locIn, h1]⟩
  have htree : ∀ {c m : Nat} {ver wr st ty es op}, inN hs c = some m → hinOf hs c = some (.tree ver wr st ty es op) → H1 m = some (.tree ver wr st ty es op) ∧ locIn hs L c = L m := by
    intro c m ver wr st ty es op hm hB
    obtain ⟨hd, b, h1, h2, rfl⟩ := inN_some hm
    simp only [hinOf, h1, Option.bind_some, h2, Option.some.injEq] at hB
    subst hB
    obtain ⟨B, h3, h4⟩ := hin hd (renN_mem h1).1 _ h2
    cases op with
    | some p => simp [renIB] at h3
    | none =>
      simp only [renIB, Option.some.injEq] at h3
      subst h3
      exact ⟨h4, by simp [locIn, h1]⟩
  cases c with
  | v y => simp only [renI, Option.some.injEq] at hc; subst hc; exact hr
  | nil0 => simp only [renI, Option.some.injEq] at hc; subst hc; exact hr
  | vptr xs => simp only [renI, Option.some.injEq] at hc; subst hc; exact hr
  | ow => simp [renI] at hc
  | own c v n =>
    simp only [renI, Option.map_eq_some_iff] at hc
    obtain ⟨m, hm, rfl⟩ := hc
    obtain ⟨v1, v2, v3⟩ := hr
    refine ⟨hcc _ v1, v2, fun wr st ty es hB => ?_⟩
    obtain ⟨e1, e2⟩ := harr hm hB
    rw [e2]
    exact v3 _ _ _ _ e1
  | ptr c v j =>
    simp only [renI, Option.map_eq_some_iff] at hc
    obtain ⟨m, hm, rfl⟩ := hc
    obtain ⟨v1, v2, v3⟩ := hr
    refine ⟨hcc _ v1, v2, fun ty cs hB => ?_⟩
    obtain ⟨cs', e1, e2⟩ := hvar hm hB
    rw [e2]
    exact v3 _ _ e1
  | aptr c v i j =>
    simp only [renI, Option.map_eq_some_iff] at hc
    obtain ⟨m, hm, rfl⟩ := hc
    obtain ⟨v1, v2, v3⟩ := hr
    refine ⟨hcc _ v1, v2, fun wr st ty es hB => ?_⟩
    obtain ⟨e1, e2⟩ := harr hm hB
    rw [e2]
    exact v3 _ _ _ _ e1
  | tr c v n =>
    simp only [renI, Option.map_eq_some_iff] at hc
    obtain ⟨m, hm, rfl⟩ := hc
    obtain ⟨v1, v2, v3⟩ := hr
    refine ⟨hcc _ v1, v2, fun wr st ty es op hB => ?_⟩
    obtain ⟨e1, e2⟩ := htree hm hB
    rw [e2]
    exact v3 _ _ _ _ _ e1
  | tptr c v i j =>
    simp only [renI, Option.map_eq_some_iff] at hc
    obtain ⟨m, hm, rfl⟩ := hc
    obtain ⟨v1, v2, v3⟩ := hr
    refine ⟨hcc _ v1, v2, fun wr st ty es op hB => ?_⟩
    obtain ⟨e1, e2⟩ := htree hm hB
    rw [e2]
    exact v3 _ _ _ _ _ e1
  | fn f ps =>
    simp only [renI, Option.map_eq_some_iff] at hc
    obtain ⟨qs, hq, rfl⟩ := hc
    have hcaps : ∀ (ps qs : List (Nat × Nat)), capsI hs ps = some qs → ps.length = qs.length ∧ ∀ (k : Nat) p, ps[k]? = some p → ∃ m, inN hs p.1 = some m ∧ qs[k]? = some (m, p.2) := by
      intro ps
      induction ps with
      | nil => intro qs h; simp [capsI] at h; subst h; exact ⟨rfl, fun k p h => by simp at h⟩
      | cons p ps ih =>
        intro qs h
        obtain ⟨c, v⟩ := p
        simp only [capsI] at h
        split at h
        · rename_i m qs' h1 h2
          cases h
          obtain ⟨i1, i2⟩ := ih _ h2
          refine ⟨by simp [i1], fun k p hp => ?_⟩
          cases k with
          | zero => simp at hp; subst hp; exact ⟨m, h1, rfl⟩
          | succ k => simpa using i2 k p (by simpa using hp)
        · cases h
    obtain ⟨us, q1, q2, q3⟩ := hr
    obtain ⟨e1, e2⟩ := hcaps _ _ hq
    refine ⟨us, q1, by rw [q2, e1], fun k p hp => ?_⟩
    obtain ⟨m, hm, hk⟩ := e2 k p hp
    obtain ⟨u, u1, u2, u3, u4⟩ := q3 k _ hk
    refine ⟨u, u1, hcc _ u2, u3, fun ty cs hB => ?_⟩
    obtain ⟨cs', e3, e4⟩ := hvar hm hB
    rw [e4]
    exact u4 _ _ e3

theorem renIs_at {hs : List Hand} : ∀ {cs ds : List C}, renIs hs cs = some ds → cs.length = ds.length ∧ ∀ (k : Nat) c, cs[k]? = some c → ∃ d, ds[k]? = some d ∧ renI hs c = some d
  | [], ds, h => by simp [renIs] at h; subst h; exact ⟨rfl, fun k c h => by simp at h⟩
  | c :: cs, ds, h => by
    simp only [renIs] at h
    split at h
    · rename_i x xs h1 h2
      cases h
      obtain ⟨i1, i2⟩ := renIs_at h2
      refine ⟨by simp [i1], fun k p hp => ?_⟩
      cases k with
      | zero => simp at hp; subst hp; exact ⟨x, rfl, h1⟩
      | succ k => simpa using i2 k p (by simpa using hp)
    · cases h

theorem in_Cs {hs : List Hand} {H1 : HMap} {cc : Nat} (hcc : ∀ v, U v → v < cc) (hin : ∀ h ∈ hs, ∀ b, h.b = some b → ∃ B, renIB hs b = some B ∧ H1 h.m = some B) {xs : List Value} {cs ds : List C} (hc : renIs hs cs = some ds) (hr : CsRep w imm H1 L U xs ds) :
    CsRep w imm (hinOf hs) (locIn hs L) (· < cc) xs cs := by
  obtain ⟨e1, e2⟩ := renIs_at hc
  refine ⟨by rw [hr.1, e1], fun k x y hx hy => ?_⟩
  obtain ⟨d, h1, h2⟩ := e2 k y hy
  exact in_C hcc hin h2 (hr.2 k x d hx h1)

theorem in_T {hs : List Hand} {H1 : HMap} {cc : Nat} (hcc : ∀ v, U v → v < cc) (hin : ∀ h ∈ hs, ∀ b, h.b = some b → ∃ B, renIB hs b = some B ∧ H1 h.m = some B) {x : Value} {t t1 : T} (hc : renIT hs t = some t1) (hr : TRep w imm H1 L U x t1) :
    TRep w imm (hinOf hs) (locIn hs L) (· < cc) x t := by
  unfold renIT at hc
  split at hc
  · simp only [Option.map_eq_some_iff] at hc
    obtain ⟨d, h1, rfl⟩ := hc
    exact in_C hcc hin h1 hr
  · simp only [Option.map_eq_some_iff] at hc
    obtain ⟨d, h1, rfl⟩ := hc
    obtain ⟨xs, hx, hcs⟩ := hr
    exact ⟨xs, hx, in_Cs hcc hin h1 hcs⟩
  · cases hc

theorem renITs_at {hs : List Hand} : ∀ {cs ds : List T}, renITs hs cs = some ds → cs.length = ds.length ∧ ∀ (k : Nat) c, cs[k]? = some c → ∃ d, ds[k]? = some d ∧ renIT hs c = some d
  | [], ds, h => by simp [renITs] at h; subst h; exact ⟨rfl, fun k c h => by simp at h⟩
  | c :: cs, ds, h => by
    simp only [renITs] at h
    split at h
    · rename_i x xs h1 h2
      cases h
      obtain ⟨i1, i2⟩ := renITs_at h2
      refine ⟨by simp [i1], fun k p hp => ?_⟩
      cases k with
      | zero => simp at hp; subst hp; exact ⟨x, rfl, h1⟩
      | succ k => simpa using i2 k p (by simpa using hp)
    · cases h

/-- What is true of a cell at the callee's end is true of it at the caller. -/
theorem out_C {hs : List Hand} {H2 h' : HMap} {L2 L' : Locs} {U' U2 : Nat → Prop} {nv : Nat} {ν : Nat → Nat} (hout : ∀ c h, renN hs c = some h → h' c = some (verB ν (ν c) h.b')) (hU2 : ∀ h ∈ hs, U2 (verOf nv h))
    (hH2 : ∀ c h, renN hs c = some h → ∃ B, renOB hs nv (verOf nv h) h.b' = some B ∧ H2 h.m = some B) (hL2 : ∀ c h, renN hs c = some h → L2 h.m = L' c) {x : Value} {c c1 : C} (hc : renO hs nv c = some c1) (hr : CRep w imm h' L' U' x (verC ν c)) :
    CRep w imm H2 L2 U2 x c1 := by
  have hvar : ∀ {c : Nat} {h : Hand} {ver ty cs}, renN hs c = some h → H2 h.m = some (.var ver ty cs) → ∃ cs', h' c = some (.var (ν c) ty cs') := by
    intro c h ver ty cs hh hB
    obtain ⟨B, h1, h2⟩ := hH2 c h hh
    rw [hB] at h2; cases h2
    have := hout c h hh
    cases hb : h.b' with
    | var v0 ty0 cs0 =>
      rw [hb] at this h1
      simp only [renOB, Option.map_eq_some_iff] at h1
      obtain ⟨_, _, h3⟩ := h1
      cases h3
      exact ⟨_, this⟩
    | arr v0 wr0 st0 ty0 es0 => rw [hb] at h1; simp [renOB] at h1
    | tree v0 wr0 st0 ty0 es0 op0 => rw [hb] at h1; cases op0 <;> simp [renOB] at h1
  have harr : ∀ {c : Nat} {h : Hand} {ver wr st ty es}, renN hs c = some h → H2 h.m = some (.arr ver wr st ty es) → h' c = some (.arr (ν c) wr st ty es) := by
    intro c h ver wr st ty es hh hB
    obtain ⟨B, h1, h2⟩ := hH2 c h hh
    rw [hB] at h2; cases h2
    have := hout c h hh
    cases hb : h.b' with
    | var v0 ty0 cs0 =>
      rw [hb] at h1
      simp only [renOB, Option.map_eq_some_iff] at h1
      obtain ⟨_, _, h3⟩ := h1
      cases h3
    | arr v0 wr0 st0 ty0 es0 =>
      rw [hb] at h1 this
      simp only [renOB, Option.some.injEq] at h1
      cases h1
      exact this
    | tree v0 wr0 st0 ty0 es0 op0 => rw [hb] at h1; cases op0 <;> simp [renOB] at h1
  have htree : ∀ {c : Nat} {h : Hand} {ver wr st ty es op}, renN hs c = some h → H2 h.m = some (.tree ver wr st ty es op) → h' c = some (.tree (ν c) wr st ty es op) := by
    intro c h ver wr st ty es op hh hB
    obtain ⟨B, h1, h2⟩ := hH2 c h hh
    rw [hB] at h2; cases h2
    have := hout c h hh
    cases hb : h.b' with
    | var v0 ty0 cs0 =>
      rw [hb] at h1
      simp only [renOB, Option.map_eq_some_iff] at h1
      obtain ⟨_, _, h3⟩ := h1
      cases h3
    | arr v0 wr0 st0 ty0 es0 => rw [hb] at h1; simp [renOB] at h1
    | tree v0 wr0 st0 ty0 es0 op0 =>
      rw [hb] at h1 this
      cases op0 with
      | some p => simp [renOB] at h1
      | none =>
        simp only [renOB, Option.some.injEq] at h1
        cases h1
        exact this
  cases c with
  | v y => simp only [renO, Option.some.injEq] at hc; subst hc; exact hr
  | nil0 => simp only [renO, Option.some.injEq] at hc; subst hc; exact hr
  | vptr xs => simp only [renO, Option.some.injEq] at hc; subst hc; exact hr
  | ow => simp [renO] at hc
  | fn f ps =>
    cases ps with
    | nil => simp only [renO, Option.some.injEq] at hc; subst hc; obtain ⟨qs, q1, q2, q3⟩ := hr; exact ⟨qs, q1, q2, fun k p hp => by simp at hp⟩
    | cons p ps => simp [renO] at hc
  | own c v n =>
    simp only [renO, Option.map_eq_some_iff] at hc
    obtain ⟨h, hh, rfl⟩ := hc
    obtain ⟨v1, v2, v3⟩ := hr
    refine ⟨hU2 h (renN_mem hh).1, v2, fun wr st ty es hB => ?_⟩
    rw [hL2 c h hh]
    exact v3 _ _ _ _ (harr hh hB)
  | ptr c v j =>
    simp only [renO, Option.map_eq_some_iff] at hc
    obtain ⟨h, hh, rfl⟩ := hc
    obtain ⟨v1, v2, v3⟩ := hr
    refine ⟨hU2 h (renN_mem hh).1, v2, fun ty cs hB => ?_⟩
    rw [hL2 c h hh]
    obtain ⟨cs', e⟩ := hvar hh hB
    exact v3 _ _ e
  | aptr c v i j =>
    simp only [renO, Option.map_eq_some_iff] at hc
    obtain ⟨h, hh, rfl⟩ := hc
    obtain ⟨v1, v2, v3⟩ := hr
    refine ⟨hU2 h (renN_mem hh).1, v2, fun wr st ty es hB => ?_⟩
    rw [hL2 c h hh]
    exact v3 _ _ _ _ (harr hh hB)
  | tr c v n =>
    simp only [renO, Option.map_eq_some_iff] at hc
    obtain ⟨h, hh, rfl⟩ := hc
    obtain ⟨v1, v2, v3⟩ := hr
    refine ⟨hU2 h (renN_mem hh).1, v2, fun wr st ty es op hB => ?_⟩
    rw [hL2 c h hh]
    exact v3 _ _ _ _ _ (htree hh hB)
  | tptr c v i j =>
    simp only [renO, Option.map_eq_some_iff] at hc
    obtain ⟨h, hh, rfl⟩ := hc
    obtain ⟨v1, v2, v3⟩ := hr
    refine ⟨hU2 h (renN_mem hh).1, v2, fun wr st ty es op hB => ?_⟩
    rw [hL2 c h hh]
    exact v3 _ _ _ _ _ (htree hh hB)

theorem renOs_at {hs : List Hand} {nv : Nat} : ∀ {cs ds : List C}, renOs hs nv cs = some ds → cs.length = ds.length ∧ ∀ (k : Nat) d, ds[k]? = some d → ∃ c, cs[k]? = some c ∧ renO hs nv c = some d
  | [], ds, h => by simp [renOs] at h; subst h; exact ⟨rfl, fun k c h => by simp at h⟩
  | c :: cs, ds, h => by
    simp only [renOs] at h
    split at h
    · rename_i x xs h1 h2
      cases h
      obtain ⟨i1, i2⟩ := renOs_at h2
      refine ⟨by simp [i1], fun k p hp => ?_⟩
      cases k with
      | zero => simp at hp; subst hp; exact ⟨c, rfl, h1⟩
      | succ k => simpa using i2 k p (by simpa using hp)
    · cases h

theorem renOPs_at {hs : List Hand} {nv : Nat} : ∀ {cs ds : List P1}, renOPs hs nv cs = some ds → cs.length = ds.length ∧ ∀ (k : Nat) d, ds[k]? = some d → ∃ c, cs[k]? = some c ∧ renOP hs nv c = some d
  | [], ds, h => by simp [renOPs] at h; subst h; exact ⟨rfl, fun k c h => by simp at h⟩
  | c :: cs, ds, h => by
    simp only [renOPs] at h
    split at h
    · rename_i x xs h1 h2
      cases h
      obtain ⟨i1, i2⟩ := renOPs_at h2
      refine ⟨by simp [i1], fun k p hp => ?_⟩
      cases k with
      | zero => simp at hp; subst hp; exact ⟨c, rfl, h1⟩
      | succ k => simpa using i2 k p (by simpa using hp)
    · cases h

theorem renOBs_ok {hs : List Hand} {nv : Nat} : ∀ {l : List Hand} {ob : List (Nat × Blk)}, renOBs hs nv l = some ob → (l.map (·.m)).Nodup → (∀ p ∈ ob, ∃ h ∈ l, h.m = p.1) ∧ ∀ (H : HMap), ∀ h ∈ l, ∃ B, renOB hs nv (verOf nv h) h.b' = some B ∧ updH H ob h.m = some B
  | [], ob, h, _ => by simp [renOBs] at h; subst h; exact ⟨fun p hp => (by cases hp), fun _ h hm => (by cases hm)⟩
  | x :: l, ob, h, hn => by
    simp only [renOBs] at h
    split at h
    · rename_i B bs h1 h2
      cases h
      simp only [List.map_cons, List.nodup_cons] at hn
      obtain ⟨i1, i2⟩ := renOBs_ok h2 hn.2
      refine ⟨fun p hp => ?_, fun H h hm => ?_⟩
      · rcases List.mem_cons.1 hp with rfl | hp
        · exact ⟨x, by simp, rfl⟩
        · obtain ⟨h, h3, h4⟩ := i1 p hp; exact ⟨h, by simp [h3], h4⟩
      · rcases List.mem_cons.1 hm with rfl | hm
        · refine ⟨B, h1, ?_⟩
          simp only [updH]
          rw [updH_ne _ _ _ fun p hp e => ?_, upd_same]
          obtain ⟨h', h3, h4⟩ := i1 p hp
          exact hn.1 (List.mem_map.2 ⟨h', h3, h4.trans e⟩)
        · exact i2 _ h hm
    · cases h

theorem find_m {hs : List Hand} (hn : (hs.map (·.m)).Nodup) {h : Hand} (hm : h ∈ hs) : hs.find? (·.m == h.m) = some h := by
  cases hf : hs.find? (·.m == h.m) with
  | none => have := List.find?_eq_none.1 hf h hm; simp at this
  | some h2 =>
    have h3 := List.mem_of_find?_eq_some hf
    have h4 := List.find?_some hf
    simp only [beq_iff_eq] at h4
    rw [nodup_inj (·.m) hs hn h2 h3 h hm h4]

theorem find_c {hs : List Hand} (hn : (hs.map (·.c)).Nodup) {h : Hand} (hm : h ∈ hs) : renN hs h.c = some h := by
  cases hf : renN hs h.c with
  | none => unfold renN at hf; have := List.find?_eq_none.1 hf h hm; simp at this
  | some h2 =>
    obtain ⟨h3, h4⟩ := renN_mem hf
    rw [nodup_inj (·.c) hs hn h2 h3 h hm h4]

theorem out_T {hs : List Hand} {H2 h' : HMap} {L2 L' : Locs} {U' U2 : Nat → Prop} {nv : Nat} {ν : Nat → Nat} (hout : ∀ c h, renN hs c = some h → h' c = some (verB ν (ν c) h.b')) (hU2 : ∀ h ∈ hs, U2 (verOf nv h))
    (hH2 : ∀ c h, renN hs c = some h → ∃ B, renOB hs nv (verOf nv h) h.b' = some B ∧ H2 h.m = some B) (hL2 : ∀ c h, renN hs c = some h → L2 h.m = L' c) {x : Value} {t t1 : T} (hc : renOT hs nv t = some t1) (hr : TRep w imm h' L' U' x (verT ν t)) :
    TRep w imm H2 L2 U2 x t1 := by
  have hCs : ∀ {xs : List Value} {cs ds : List C}, renOs hs nv cs = some ds → CsRep w imm h' L' U' xs (cs.map (verC ν)) → CsRep w imm H2 L2 U2 xs ds := by
    intro xs cs ds h1 h2
    obtain ⟨e1, e2⟩ := renOs_at h1
    refine ⟨by rw [h2.1]; simpa using e1, fun k x d hx hd => ?_⟩
    obtain ⟨c, hc, hcd⟩ := e2 k d hd
    exact out_C hout hU2 hH2 hL2 hcd (h2.2 k x (verC ν c) hx (by simp [hc]))
  have hP : ∀ {x : Value} {p q : P1}, renOP hs nv p = some q → PRep w imm h' L' U' x (verP ν p) → PRep w imm H2 L2 U2 x q := by
    intro x p q h1 h2
    cases p with
    | one c =>
      simp only [renOP, Option.map_eq_some_iff] at h1
      obtain ⟨d, h3, rfl⟩ := h1
      exact out_C hout hU2 hH2 hL2 h3 h2
    | agg cs =>
      simp only [renOP, Option.map_eq_some_iff] at h1
      obtain ⟨d, h3, rfl⟩ := h1
      obtain ⟨xs, hx, hcs⟩ := h2
      exact ⟨xs, hx, hCs h3 hcs⟩
  cases t with
  | pt p =>
    simp only [renOT, Option.map_eq_some_iff] at hc
    obtain ⟨q, h1, rfl⟩ := hc
    exact hP h1 hr
  | tup ps =>
    simp only [renOT, Option.map_eq_some_iff] at hc
    obtain ⟨qs, h1, rfl⟩ := hc
    obtain ⟨xs, hx, hl, hps⟩ := hr
    obtain ⟨e1, e2⟩ := renOPs_at h1
    refine ⟨xs, hx, by rw [hl]; simpa using e1, fun k u y hu hy => ?_⟩
    obtain ⟨c, hc, hcd⟩ := e2 k y hy
    exact hP hcd (hps k u (verP ν c) hu (by simp [hc]))
  | undef => simp [renOT] at hc
  | junk => simp [renOT] at hc

theorem updH_more : ∀ (ws : List (Nat × Blk)) {H H' : HMap}, (∀ n, H n ≠ none → H' n ≠ none) → ∀ {n}, updH H ws n ≠ none → updH H' ws n ≠ none
  | [], _, _, h, n => h n
  | (m, b) :: ws, H, H', h, n => updH_more ws (H := upd H m (some b)) (H' := upd H' m (some b)) (fun k hk => by
      by_cases e : k = m
      · subst e; simp [upd]
      · rw [upd_ne _ _ e] at hk ⊢; exact h k hk)
theorem updH_keep : ∀ (ws : List (Nat × Blk)) {H : HMap} {n : Nat}, H n ≠ none → updH H ws n ≠ none
  | [], _, _, h => h
  | (m, b) :: ws, H, n, h => updH_keep ws (H := upd H m (some b)) (by
      by_cases e : n = m
      · subst e; simp [upd]
      · rw [upd_ne _ _ e]; exact h)
theorem flatC_ver (ν : Nat → Nat) (c : C) : flatC (verC ν c) = flatC c := by cases c <;> rfl
theorem flatT_ver (ν : Nat → Nat) (r : T) : flatT (verT ν r) = flatT r := by
  have hP : ∀ p, flatP (verP ν p) = flatP p := by
    intro p
    cases p with
    | one c => exact flatC_ver ν c
    | agg cs => simp [verP, flatP, flatC_ver, Function.comp_def]
  cases r with
  | pt p => exact hP p
  | tup ps => simp [verT, flatT, hP, Function.comp_def]
  | undef => rfl
  | junk => rfl

theorem call_sound0 (c : Call) (f : Operand) (f' : Opd) (args' : List Opd) (hc : c.callee = .value f) (hf : cOpd f = some f') (hargs : cOpds c.args.toList = some args') (ho : o.op = .call c) {σ : St} {nv : Nat} {e : Ef} (he : CallEff0 P f' args' nv σ e)
    (hH : HOk w imm σ.H L U) (hU : ∃ cc, ∀ v, U v → v < cc) (hnv : ¬ U nv) (hT : ∀ i, TRep w imm σ.H L U (a.tmps.getD i undef) (σ.t i)) {next : Act → World → Prop} {Q : Exit → Act → World → Prop}
    (K : ∀ x w' imm' L', Goes w imm σ.H L U (updH σ.H e.ws) (with_ U nv) e.val x w' imm' L' → next (a.put o.dst x) w') : o.wp P a w next Q := by
  obtain ⟨fid, caps, as, ws, ns, hs, argsC, r, r2, ob, hfv, hlend, has, hin0, hok2, hok3, ⟨hfn, hcall⟩, hrr, hob, rfl⟩ := he
  obtain ⟨cc, hcc⟩ := hU
  have h1 := cOpd_ok hT hf
  rw [hfv] at h1
  obtain ⟨ps, hfe, hpl, hpr⟩ := (show CRep w imm σ.H L U (a.eval f) (.fn fid caps) from h1)
  have h2 := cOpds_ok hT hargs
  -- the arguments, with what was captured
  have hvals : TsRep w imm σ.H L U (c.args.toList.map a.eval ++ ps) (args'.map (ev σ.t) ++ caps.map capT) := by
    refine ⟨by have := h2.1; simp at this; simp [this, hpl], fun k x y hx hy => ?_⟩
    have hl := h2.1
    rcases Nat.lt_or_ge k (args'.map (ev σ.t)).length with hk | hk
    · rw [List.getElem?_append_left (by omega)] at hx hy
      exact h2.2 k x y hx hy
    · rw [List.getElem?_append_right (by omega)] at hx hy
      rw [hl] at hx
      rw [List.getElem?_map, Option.map_eq_some_iff] at hy
      obtain ⟨p, hp, rfl⟩ := hy
      obtain ⟨u, hu1, hu2⟩ := hpr _ p hp
      rw [hu1] at hx; cases hx
      exact hu2
  obtain ⟨imm1, S, hVs⟩ := lendTs_ok hH (SameA.refl _) hlend hvals
  have hin := handsIn_mem hin0
  let L1 : Locs := locIn hs L
  have hL1s : ∀ c h, renN hs c = some h → L1.sub c = L.sub h.m := fun c h hr => by funext b; simp [L1, locIn, hr]
  have hinv : ∀ c B, hinOf hs c = some B → ∃ h, renN hs c = some h ∧ h ∈ hs ∧ h.b = some B ∧ L1 c = L h.m ∧ updH σ.H ws h.m ≠ none := by
    intro c B hB
    simp only [hinOf, Option.bind_eq_some_iff] at hB
    obtain ⟨h, hr, hb⟩ := hB
    obtain ⟨B', h1, h2⟩ := hin h (renN_mem hr).1 _ hb
    exact ⟨h, hr, (renN_mem hr).1, hb, by simp [L1, locIn, hr], by simp [h2]⟩
  have hHin : HOk w imm1 (hinOf hs) L1 (· < cc) := by
    refine ⟨fun c B hB => ?_, fun c c' g hc hc' hg hg' => ?_, fun c g hc hg => ?_, S.hok.glob, S.hok.imm⟩
    · obtain ⟨h, hr, hm, hb, hL, _⟩ := hinv c B hB
      obtain ⟨B', h1, h2⟩ := hin h hm _ hb
      have hq := S.hok.blk h.m _ h2
      cases B with
      | var ver ty cs =>
        simp only [renIB, Option.map_eq_some_iff] at h1
        obtain ⟨ds, h3, rfl⟩ := h1
        obtain ⟨b1, g, cur, b2, b3, b4, b5⟩ := hq
        exact ⟨hcc _ b1, g, cur, by rw [hL]; exact b2, b3, in_Cs hcc hin h3 b4, b5⟩
      | arr ver wr st ty es =>
        simp only [renIB, Option.some.injEq] at h1
        subst h1
        obtain ⟨b1, b2, b3, b4⟩ := hq
        exact ⟨hcc _ b1, b2, b3, by rw [hL]; exact b4⟩
      | tree ver wr st ty es op =>
        cases op with
        | some p => simp [renIB] at h1
        | none =>
          simp only [renIB, Option.some.injEq] at h1
          subst h1
          obtain ⟨b1, b2, b3, b4, b5, b6⟩ := hq
          refine ⟨hcc _ b1, b2, b3, fun i cs h => (by cases h), by rw [hL1s c h hr]; exact b5, ?_⟩
          rw [hL1s c h hr, hL]
          rcases b6 with b6 | ⟨g, cur, part, q1, q2, q3, q4, q5, q6, _, q7⟩
          · exact .inl b6
          · exact .inr ⟨g, cur, part, q1, q2, q3, q4, q5, q6, fun i cs h => (by cases h), q7⟩
    · cases hB : hinOf hs c with
      | none => exact absurd hB hc
      | some B =>
        cases hB' : hinOf hs c' with
        | none => exact absurd hB' hc'
        | some B' =>
          obtain ⟨h, hr, hm, _, e1, e2⟩ := hinv c B hB
          obtain ⟨h', hr', hm', _, e1', e2'⟩ := hinv c' B' hB'
          rw [locIn_own hr] at hg
          rw [locIn_own hr'] at hg'
          have e3 : h.m = h'.m := S.hok.inj _ _ g e2 e2' hg hg'
          have e4 : h = h' := nodup_inj (·.m) hs hok2 h hm h' hm' e3
          rw [← (renN_mem hr).2, ← (renN_mem hr').2, e4]
    · cases hB : hinOf hs c with
      | none => exact absurd hB hc
      | some B =>
        obtain ⟨h, hr, hm, _, e1, e2⟩ := hinv c B hB
        rw [hL1s c h hr] at hg
        rw [e1]
        exact S.hok.sub h.m g e2 hg
  have hargsC : TsRep w imm1 (hinOf hs) L1 (· < cc) (c.args.toList.map a.eval ++ ps) argsC := by
    obtain ⟨e1, e2⟩ := renITs_at has
    refine ⟨by rw [hVs.1, e1], fun k x y hx hy => ?_⟩
    obtain ⟨d, h3, h4⟩ := e2 k y hy
    exact in_T hcc hin h4 (hVs.2 k x d hx h3)
  have hC := hcall w imm1 L1 cc _ hHin hargsC
  -- the call itself
  obtain ⟨fn, hfn1, hfn2, hfn3⟩ : ∃ fn, P.funcs[fid]? = some fn ∧ (fn.name == "runtime.NumGoroutine") = false ∧ fn.body.isNone = false := by
    unfold isFn at hfn
    split at hfn
    · rename_i fn hq
      simp at hfn
      exact ⟨fn, hq, by simpa using hfn.1, by cases hb : fn.body <;> simp_all⟩
    · cases hfn
  have hexec : (execOp a.eval o).run P w = .ok (.enter fid (c.args.toList.map a.eval ++ ps).toArray) w := by
    have e1 : (c.args.map a.eval) ++ ps.toArray = (c.args.toList.map a.eval ++ ps).toArray := by
      apply Array.toList_inj.1; simp
    rw [← e1]
    have e2 : (callFunc fid (c.args.map a.eval ++ ps.toArray)).run P w = .ok (.enter fid (c.args.map a.eval ++ ps.toArray)) w := by
      unfold callFunc
      simp only [Sem.run_bind, run_program, Result.andThen_ok, hfn1, hfn2, hfn3, Bool.false_eq_true, if_false, Sem.run_pure]
    simp only [execOp, ho, resolve, hc, hfe, Deferred.ofValue, Sem.run_bind, Sem.run_pure, Result.andThen_ok, invoke, Array.empty_append]
    exact e2
  unfold Oper.wp
  rw [hexec, Oper.upon_enter]
  refine hC.mono ?_
  rintro e2 w2 ⟨x, r', h', imm', L', c', rfl, ⟨ν, rfl, hout0⟩, hx, hHo, hStep, hNear, hExt⟩
  have hout : ∀ c h, renN hs c = some h → h' c = some (verB ν (ν c) h.b') := fun c h hr => (hout0 c h hr).1
  have hfoot : ∀ b, foot (hinOf hs) L1 b → ∃ h ∈ hs, L.Own h.m b ∧ updH σ.H ws h.m ≠ none := by
    rintro b ⟨c, hc1, hc2⟩
    cases hB : hinOf hs c with
    | none => exact absurd hB hc1
    | some B =>
      obtain ⟨h, hr, hm, _, e1, e2⟩ := hinv c B hB
      rw [locIn_own hr] at hc2
      exact ⟨h, hm, hc2, e2⟩
  let L2 : Locs := ⟨fun n => match hs.find? (·.m == n) with
    | some h => L' h.c
    | none => L n, fun n => match hs.find? (·.m == n) with
    | some h => L'.sub h.c
    | none => L.sub n⟩
  have hSext := S.ext
  have hSstep := S.step
  have hSnear := S.near
  have hSok := S.hok
  have hsub : ∀ n, updH σ.H ob n ≠ none → updH (updH σ.H ws) ob n ≠ none := fun n => updH_more ob fun n h => updH_keep ws h
  have hsame : ∀ h ∈ hs, updH σ.H ob h.m = updH (updH σ.H ws) ob h.m := fun h hm => by
    obtain ⟨B, b1, b2⟩ := (renOBs_ok hob hok2).2 σ.H h hm
    obtain ⟨B', b3, b4⟩ := (renOBs_ok hob hok2).2 (updH σ.H ws) h hm
    rw [b1] at b3; cases b3
    rw [b2, b4]
  have hnot0 : ∀ n, (∀ h ∈ hs, h.m ≠ n) → updH σ.H ob n = σ.H n := fun n hn => updH_ne _ _ _ fun p hp e => by
    obtain ⟨h, hm, hq⟩ := (renOBs_ok hob hok2).1 p hp
    exact hn h hm (hq.trans e)
  have hmore : ∀ n, σ.H n ≠ none → updH σ.H ws n ≠ none := fun n h => updH_keep ws h
  generalize hH1 : updH σ.H ws = H1 at *
  obtain ⟨hob1, hob2⟩ := renOBs_ok hob hok2
  have hat := hob2 H1
  have hnot : ∀ n, (∀ h ∈ hs, h.m ≠ n) → updH H1 ob n = H1 n := fun n hn => updH_ne _ _ _ fun p hp e => by
    obtain ⟨h, hm, hq⟩ := hob1 p hp
    exact hn h hm (hq.trans e)
  have hL2at : ∀ h ∈ hs, L2 h.m = L' h.c := fun h hm => by simp [L2, find_m hok2 hm]
  have hL2not : ∀ n, (∀ h ∈ hs, h.m ≠ n) → L2 n = L n := fun n hn => by
    have : hs.find? (·.m == n) = none := List.find?_eq_none.2 fun h hm => by simpa using hn h hm
    simp [L2, this]
  have hS2at : ∀ h ∈ hs, L2.sub h.m = L'.sub h.c := fun h hm => by simp [L2, find_m hok2 hm]
  have hS2not : ∀ n, (∀ h ∈ hs, h.m ≠ n) → L2.sub n = L.sub n := fun n hn => by
    have : hs.find? (·.m == n) = none := List.find?_eq_none.2 fun h hm => by simpa using hn h hm
    simp [L2, this]
  have hO2at : ∀ h ∈ hs, ∀ g, L2.Own h.m g ↔ L'.Own h.c g := fun h hm g => by simp only [Locs.Own, hL2at h hm, hS2at h hm]
  have hO2not : ∀ n, (∀ h ∈ hs, h.m ≠ n) → ∀ g, L2.Own n g ↔ L.Own n g := fun n hn g => by simp only [Locs.Own, hL2not n hn, hS2not n hn]
  have hcase : ∀ n, (∃ h ∈ hs, h.m = n) ∨ (∀ h ∈ hs, h.m ≠ n) := fun n => by
    by_cases hq : ∃ h ∈ hs, h.m = n
    · exact .inl hq
    · exact .inr fun h hm e => hq ⟨h, hm, e⟩
  have hframe : ∀ n g, (∀ h ∈ hs, h.m ≠ n) → H1 n ≠ none → L.Own n g → w2.heap[g]? = w.heap[g]? := by
    intro n g hn hn1 hg
    refine hStep.frame g (hSok.lt hn1 hg) fun hf => ?_
    obtain ⟨h, hm, hLm, hne⟩ := hfoot g hf
    exact hn h hm (hSok.inj _ _ g hne hn1 hLm hg)
  have himm : ∀ n g o, (∀ h ∈ hs, h.m ≠ n) → H1 n ≠ none → L.Own n g → imm' g o → imm1 g o := by
    intro n g o hn hn1 hg ho
    rcases hStep.grew g o ho with h | h | h
    · exact h
    · exact absurd (hSok.lt hn1 hg) (by omega)
    · obtain ⟨h, hm, hLm, hne⟩ := hfoot g h
      exact absurd (hSok.inj _ _ g hne hn1 hLm hg) (hn h hm)
  have hkeep : ∀ h ∈ hs, U (verOf nv h) → verOf nv h = ν h.c ∧ ν h.c < cc := by
    intro h hm hu
    have hr := find_c hok3 hm
    unfold verOf at hu ⊢
    cases hk : h.keep with
    | false => rw [hk] at hu; exact absurd hu hnv
    | true =>
      rw [hk] at hu
      obtain ⟨b, hb, hv⟩ := (hout0 h.c h hr).2 hk
      rw [hb] at hu ⊢
      exact ⟨hv.symm, by rw [hv]; exact hcc _ hu⟩
  have hvers : ∀ h ∈ hs, with_ U nv (verOf nv h) := by
    intro h hm
    unfold verOf
    cases hk : h.keep with
    | false => exact .inr rfl
    | true =>
      obtain ⟨b, hb, hv⟩ := (hout0 h.c h (find_c hok3 hm)).2 hk
      rw [hb]
      obtain ⟨B, h1, h2⟩ := hin h hm b hb
      have hq := hSok.blk h.m _ h2
      cases b with
      | var ver ty cs =>
        simp only [renIB, Option.map_eq_some_iff] at h1
        obtain ⟨ds, h3, rfl⟩ := h1
        exact .inl hq.1
      | arr ver wr st ty es =>
        simp only [renIB, Option.some.injEq] at h1
        subst h1
        exact .inl hq.1
      | tree ver wr st ty es op =>
        cases op with
        | some p => simp [renIB] at h1
        | none =>
          simp only [renIB, Option.some.injEq] at h1
          subst h1
          exact .inl hq.1
  have hH2 : ∀ c h, renN hs c = some h → ∃ B, renOB hs nv (verOf nv h) h.b' = some B ∧ updH H1 ob h.m = some B := fun c h hr => hat h (renN_mem hr).1
  have hL2c : ∀ c h, renN hs c = some h → L2 h.m = L' c := fun c h hr => by rw [hL2at h (renN_mem hr).1, (renN_mem hr).2]
  have hblkv : ∀ h ∈ hs, ∀ {ver ty cs}, updH H1 ob h.m = some (.var ver ty cs) → ver = verOf nv h ∧ ∃ cs0, renOs hs nv cs0 = some cs ∧ h' h.c = some (.var (ν h.c) ty (cs0.map (verC ν))) := by
    intro h hm ver ty cs hB
    obtain ⟨B, h1, h2⟩ := hat h hm
    rw [hB] at h2; cases h2
    have ho := hout h.c h (find_c hok3 hm)
    cases hb : h.b' with
    | var v0 ty0 cs0 =>
      rw [hb] at h1 ho
      simp only [renOB, Option.map_eq_some_iff] at h1
      obtain ⟨ds, h3, h4⟩ := h1
      cases h4
      exact ⟨rfl, cs0, h3, ho⟩
    | arr v0 wr0 st0 ty0 es0 => rw [hb] at h1; simp [renOB] at h1
    | tree v0 wr0 st0 ty0 es0 op0 => rw [hb] at h1; cases op0 <;> simp [renOB] at h1
  have hblka : ∀ h ∈ hs, ∀ {ver wr st ty es}, updH H1 ob h.m = some (.arr ver wr st ty es) → ver = verOf nv h ∧ h' h.c = some (.arr (ν h.c) wr st ty es) := by
    intro h hm ver wr st ty es hB
    obtain ⟨B, h1, h2⟩ := hat h hm
    rw [hB] at h2; cases h2
    have ho := hout h.c h (find_c hok3 hm)
    cases hb : h.b' with
    | var v0 ty0 cs0 =>
      rw [hb] at h1
      simp only [renOB, Option.map_eq_some_iff] at h1
      obtain ⟨_, _, h4⟩ := h1
      cases h4
    | arr v0 wr0 st0 ty0 es0 =>
      rw [hb] at h1 ho
      simp only [renOB, Option.some.injEq] at h1
      cases h1
      exact ⟨rfl, ho⟩
    | tree v0 wr0 st0 ty0 es0 op0 => rw [hb] at h1; cases op0 <;> simp [renOB] at h1
  have hblkt : ∀ h ∈ hs, ∀ {ver wr st ty es op}, updH H1 ob h.m = some (.tree ver wr st ty es op) → ver = verOf nv h ∧ op = none ∧ h' h.c = some (.tree (ν h.c) wr st ty es none) := by
    intro h hm ver wr st ty es op hB
    obtain ⟨B, h1, h2⟩ := hat h hm
    rw [hB] at h2; cases h2
    have ho := hout h.c h (find_c hok3 hm)
    cases hb : h.b' with
    | var v0 ty0 cs0 =>
      rw [hb] at h1
      simp only [renOB, Option.map_eq_some_iff] at h1
      obtain ⟨_, _, h4⟩ := h1
      cases h4
    | arr v0 wr0 st0 ty0 es0 => rw [hb] at h1; simp [renOB] at h1
    | tree v0 wr0 st0 ty0 es0 op0 =>
      rw [hb] at h1 ho
      cases op0 with
      | some p => simp [renOB] at h1
      | none =>
        simp only [renOB, Option.some.injEq] at h1
        cases h1
        exact ⟨rfl, rfl, ho⟩
  have hext : Ext w H1 L U w2 (updH H1 ob) L2 (with_ U nv) := by
    refine ⟨fun _ h => .inl h, fun n v ty cs hu hn => ?_, fun n v wr st ty es hu hn => ?_, fun n v wr st ty es g cur hu hn hg hh => ?_, fun n v wr st ty es op hu hn => ?_, fun n v wr st ty es op g cur hu hn hg hh => ?_⟩
    · rcases hcase n with ⟨h, hm, rfl⟩ | hq
      · obtain ⟨rfl, cs0, _, h4⟩ := hblkv h hm hn
        obtain ⟨e1, e2⟩ := hkeep h hm hu
        obtain ⟨ty', cs', h5, h6⟩ := hExt.var h.c (ν h.c) ty _ e2 h4
        obtain ⟨h9, hr9, hm9, hb9, hL9, _⟩ := hinv _ _ h5
        have : h9 = h := by
          have := find_c hok3 hm
          rw [hr9] at this; cases this; rfl
        subst this
        obtain ⟨B, h7, h8⟩ := hin h9 hm _ hb9
        simp only [renIB, Option.map_eq_some_iff] at h7
        obtain ⟨ds, h10, rfl⟩ := h7
        exact ⟨ty', ds, by rw [e1]; exact h8, by rw [hL2at h9 hm, h6, hL9]⟩
      · rw [hnot n hq] at hn; exact ⟨ty, cs, hn, hL2not n hq⟩
    · rcases hcase n with ⟨h, hm, rfl⟩ | hq
      · obtain ⟨rfl, h4⟩ := hblka h hm hn
        obtain ⟨e1, e2⟩ := hkeep h hm hu
        obtain ⟨wr', es', h5, h6, h7⟩ := hExt.arr h.c (ν h.c) wr st ty es e2 h4
        obtain ⟨h9, hr9, hm9, hb9, hL9, _⟩ := hinv _ _ h5
        have : h9 = h := by
          have := find_c hok3 hm
          rw [hr9] at this; cases this; rfl
        subst this
        obtain ⟨B, h10, h8⟩ := hin h9 hm _ hb9
        simp only [renIB, Option.some.injEq] at h10
        subst h10
        exact ⟨wr', es', by rw [e1]; exact h8, h6, by rw [hL2at h9 hm, h7, hL9]⟩
      · rw [hnot n hq] at hn; exact ⟨wr, es, hn, Nat.le_refl _, hL2not n hq⟩
    · rcases hcase n with ⟨h, hm, rfl⟩ | hq
      · obtain ⟨rfl, h4⟩ := hblka h hm hn
        obtain ⟨e1, e2⟩ := hkeep h hm hu
        rw [hL2at h hm] at hg
        exact hExt.cells h.c (ν h.c) wr st ty es g cur e2 h4 hg hh
      · rw [hnot n hq] at hn
        rw [hL2not n hq] at hg
        exact ⟨cur, by rw [hframe n g hq (by simp [hn]) (.inl hg)]; exact hh, rfl⟩
    · rcases hcase n with ⟨h, hm, rfl⟩ | hq
      · obtain ⟨rfl, rfl, h4⟩ := hblkt h hm hn
        obtain ⟨e1, e2⟩ := hkeep h hm hu
        obtain ⟨wr', es', op', h5, h6, h7⟩ := hExt.tree h.c (ν h.c) wr st ty es none e2 h4
        obtain ⟨h9, hr9, hm9, hb9, hL9, _⟩ := hinv _ _ h5
        have : h9 = h := by
          have := find_c hok3 hm
          rw [hr9] at this; cases this; rfl
        subst this
        obtain ⟨B, h10, h8⟩ := hin h9 hm _ hb9
        cases op' with
        | some p => simp [renIB] at h10
        | none =>
          simp only [renIB, Option.some.injEq] at h10
          subst h10
          exact ⟨wr', es', none, by rw [e1]; exact h8, h6, by rw [hL2at h9 hm, h7, hL9]⟩
      · rw [hnot n hq] at hn; exact ⟨wr, es, op, hn, Nat.le_refl _, hL2not n hq⟩
    · rcases hcase n with ⟨h, hm, rfl⟩ | hq
      · obtain ⟨rfl, rfl, h4⟩ := hblkt h hm hn
        obtain ⟨e1, e2⟩ := hkeep h hm hu
        rw [hL2at h hm] at hg
        exact hExt.tcells h.c (ν h.c) wr st ty es none g cur e2 h4 hg hh
      · rw [hnot n hq] at hn
        rw [hL2not n hq] at hg
        exact ⟨cur, by rw [hframe n g hq (by simp [hn]) (.inl hg)]; exact hh, rfl⟩
  have hnear3 : ∀ h ∈ hs, ∀ g, L'.Own h.c g → (∃ h2 ∈ hs, L.Own h2.m g ∧ H1 h2.m ≠ none) ∨ w.heap.size ≤ g := by
    intro h hm g hg
    rcases hNear h.c g (by rw [hout h.c h (find_c hok3 hm)]; simp) hg with hq | hq
    · exact .inl (hfoot g hq)
    · exact .inr hq
  have hok : HOk w2 imm' (updH H1 ob) L2 (with_ U nv) := by
    refine ⟨fun n B hB => ?_, fun n m g hn hm hg hg' => ?_, fun n g hn hg => ?_, hHo.glob, hHo.imm⟩
    · rcases hcase n with ⟨h, hm, rfl⟩ | hq
      · cases B with
        | var ver ty cs =>
          obtain ⟨rfl, cs0, h3, h4⟩ := hblkv h hm hB
          obtain ⟨_, g, cur, c2, c3, c4, c5⟩ := hHo.blk h.c _ h4
          refine ⟨hvers h hm, g, cur, by rw [hL2at h hm]; exact c2, c3, ?_, c5⟩
          obtain ⟨e1, e2⟩ := renOs_at h3
          refine ⟨by rw [c4.1]; simpa using e1, fun k x d hx hd => ?_⟩
          obtain ⟨c, hc, hcd⟩ := e2 k d hd
          exact out_C hout hvers hH2 hL2c hcd (c4.2 k x (verC ν c) hx (by simp [hc]))
        | arr ver wr st ty es =>
          obtain ⟨rfl, h4⟩ := hblka h hm hB
          obtain ⟨_, c2, c3, c4⟩ := hHo.blk h.c _ h4
          exact ⟨hvers h hm, c2, c3, by rw [hL2at h hm]; exact c4⟩
        | tree ver wr st ty es op =>
          obtain ⟨rfl, rfl, h4⟩ := hblkt h hm hB
          obtain ⟨_, c2, c3, _, c5, c6⟩ := hHo.blk h.c _ h4
          refine ⟨hvers h hm, c2, c3, fun i cs h => (by cases h), by rw [hS2at h hm]; exact c5, ?_⟩
          rw [hL2at h hm, hS2at h hm]
          rcases c6 with c6 | ⟨g, cur, part, q1, q2, q3, q4, q5, q6, _, q7⟩
          · exact .inl c6
          · exact .inr ⟨g, cur, part, q1, q2, q3, q4, q5, q6, fun i cs h => (by cases h), q7⟩
      · rw [hnot n hq] at hB
        exact (hSok.blk n B hB).mono hStep.keep hext (hL2not n hq) (hS2not n hq) (fun g hg => hframe n g hq (by simp [hB]) hg) fun g o hg ho => himm n g o hq (by simp [hB]) hg ho
    · have hmix : ∀ h ∈ hs, ∀ n, (∀ h ∈ hs, h.m ≠ n) → H1 n ≠ none → L.Own n g → L'.Own h.c g → False := by
        intro h hm n hq hn hg hg'
        rcases hnear3 h hm g hg' with ⟨h2, hm2, h3, h4⟩ | h3
        · exact hq h2 hm2 (hSok.inj _ _ g h4 hn h3 hg)
        · exact absurd (hSok.lt hn hg) (by omega)
      rcases hcase n with ⟨h, hm1, rfl⟩ | hq <;> rcases hcase m with ⟨h2, hm2, rfl⟩ | hq2
      · rw [hO2at h hm1] at hg
        rw [hO2at h2 hm2] at hg'
        have e1 := hHo.inj h.c h2.c g (by rw [hout h.c h (find_c hok3 hm1)]; simp) (by rw [hout h2.c h2 (find_c hok3 hm2)]; simp) hg hg'
        rw [nodup_inj (·.c) hs hok3 h hm1 h2 hm2 e1]
      · rw [hO2at h hm1] at hg
        rw [hO2not m hq2] at hg'
        rw [hnot m hq2] at hm
        exact (hmix h hm1 m hq2 hm hg' hg).elim
      · rw [hO2at h2 hm2] at hg'
        rw [hO2not n hq] at hg
        rw [hnot n hq] at hn
        exact (hmix h2 hm2 n hq hn hg hg').elim
      · rw [hO2not n hq] at hg
        rw [hO2not m hq2] at hg'
        rw [hnot n hq] at hn
        rw [hnot m hq2] at hm
        exact hSok.inj n m g hn hm hg hg'
    · rcases hcase n with ⟨h, hm, rfl⟩ | hq
      · rw [hS2at h hm] at hg
        rw [hL2at h hm]
        exact hHo.sub h.c g (by rw [hout h.c h (find_c hok3 hm)]; simp) hg
      · rw [hS2not n hq] at hg
        rw [hL2not n hq]
        rw [hnot n hq] at hn
        exact ⟨Nat.lt_of_lt_of_le (hSok.sub n g hn hg).1 hStep.size, (hSok.sub n g hn hg).2⟩
  have hstep2 : Step w imm1 (foot H1 L) w2 imm' := ⟨hStep.os, hStep.tape, hStep.output, hStep.size,
    fun b hb hf => hStep.frame b hb fun hf2 => (by obtain ⟨h, hm, hL, hne⟩ := hfoot b hf2; exact hf ⟨h.m, hne, hL⟩), hStep.keep,
    fun b o h => (by
      rcases hStep.grew b o h with h | h | h
      · exact .inl h
      · exact .inr (.inl h)
      · obtain ⟨h, hm, hL, hne⟩ := hfoot b h; exact .inr (.inr ⟨h.m, hne, hL⟩))⟩
  have hnear2 : Near w (foot H1 L) (updH H1 ob) L2 := fun n g hn hg => by
    rcases hcase n with ⟨h, hm, rfl⟩ | hq
    · rw [hO2at h hm] at hg
      rcases hnear3 h hm g hg with ⟨h2, hm2, h3, h4⟩ | h3
      · exact .inl ⟨h2.m, h4, h3⟩
      · exact .inr h3
    · rw [hO2not n hq] at hg
      rw [hnot n hq] at hn
      exact .inl ⟨n, hn, hg⟩
  obtain ⟨s1, s2⟩ := Step.trans hSstep hSnear hstep2 hnear2
  by_cases hsc : quiet r hs = true
  · simp only [hsc, if_true, List.nil_append] at K
    simp only [quiet, Bool.and_eq_true, List.all_eq_true] at hsc
    obtain ⟨hfr, hfh⟩ := hsc
    have hk : ∀ b o, imm b o → imm b o ∧ w2.cell? ⟨b, o, none⟩ = w.cell? ⟨b, o, none⟩ := fun b o h => ⟨h, (s1.keep b o h).2⟩
    have hx2 : TRep w2 imm h' L' (· < c') x (verT ν r) := hx.flat (by rw [flatT_ver]; exact hfr)
    have hH3 : ∀ c h, renN hs c = some h → ∃ B, renOB hs nv (verOf nv h) h.b' = some B ∧ updH σ.H ob h.m = some B := fun c h hr => by
      obtain ⟨B, b1, b2⟩ := hH2 c h hr
      exact ⟨B, b1, by rw [hsame h (renN_mem hr).1]; exact b2⟩
    have hext1 := hSext.trans hext
    have hext2 : Ext w σ.H L U w2 (updH σ.H ob) L2 (with_ U nv) := by
      refine ⟨fun _ h => .inl h, fun n v ty cs hu hn => ?_, fun n v wr st ty es hu hn => ?_, fun n v wr st ty es g cur hu hn hg hh => ?_, fun n v wr st ty es op hu hn => ?_, fun n v wr st ty es op g cur hu hn hg hh => ?_⟩
      · rcases hcase n with ⟨h, hm, rfl⟩ | hq
        · rw [hsame h hm] at hn; exact hext1.var _ _ _ _ hu hn
        · rw [hnot0 n hq] at hn; exact ⟨ty, cs, hn, hL2not n hq⟩
      · rcases hcase n with ⟨h, hm, rfl⟩ | hq
        · rw [hsame h hm] at hn; exact hext1.arr _ _ _ _ _ _ hu hn
        · rw [hnot0 n hq] at hn; exact ⟨wr, es, hn, Nat.le_refl _, hL2not n hq⟩
      · rcases hcase n with ⟨h, hm, rfl⟩ | hq
        · rw [hsame h hm] at hn; exact hext1.cells _ _ _ _ _ _ _ _ hu hn hg hh
        · rw [hnot0 n hq] at hn
          rw [hL2not n hq] at hg
          exact ⟨cur, by rw [hframe n g hq (hmore n (by simp [hn])) (.inl hg)]; exact hh, rfl⟩
      · rcases hcase n with ⟨h, hm, rfl⟩ | hq
        · rw [hsame h hm] at hn; exact hext1.tree _ _ _ _ _ _ _ hu hn
        · rw [hnot0 n hq] at hn; exact ⟨wr, es, op, hn, Nat.le_refl _, hL2not n hq⟩
      · rcases hcase n with ⟨h, hm, rfl⟩ | hq
        · rw [hsame h hm] at hn; exact hext1.tcells _ _ _ _ _ _ _ _ _ hu hn hg hh
        · rw [hnot0 n hq] at hn
          rw [hL2not n hq] at hg
          exact ⟨cur, by rw [hframe n g hq (hmore n (by simp [hn])) (.inl hg)]; exact hh, rfl⟩
    refine K x w2 imm L2 ⟨out_T hout hvers hH3 hL2c hrr hx2, ⟨fun n B hB => ?_, fun n m g hn hm hg hg' => hok.inj n m g (hsub n hn) (hsub m hm) hg hg', fun n g hn hg => hok.sub n g (hsub n hn) hg, hH.glob.keep hk, fun b o h => Nat.lt_of_lt_of_le (hH.imm b o h) s1.size⟩, hext2, ⟨s1.os, s1.tape, s1.output, s1.size, s1.frame, hk, fun b o h => .inl h⟩, fun n g hn hg => s2 n g (hsub n hn) hg⟩
    rcases hcase n with ⟨h, hm, rfl⟩ | hq
    · have hfb : flatB h.b' = true := (hfh h hm).2
      have hB0 := hB
      rw [hsame h hm] at hB0
      obtain ⟨B', b1, b2⟩ := hat h hm
      rw [hB0] at b2; cases b2
      have hblk := hok.blk _ _ hB0
      have hR : ∀ {y : Value} {q q1 : C}, renO hs nv q = some q1 → CRep w2 imm' h' L' (· < c') y (verC ν q) → flatC q = true → CRep w2 imm (updH σ.H ob) L2 (with_ U nv) y q1 := fun h1 h2 h3 =>
        out_C hout hvers hH3 hL2c h1 (h2.flat (by rw [flatC_ver]; exact h3))
      cases B with
      | var ver ty cs =>
        obtain ⟨rfl, cs0, h3, h4⟩ := hblkv h hm hB0
        obtain ⟨_, g, cur, c2, c3, c4, c5⟩ := hHo.blk h.c _ h4
        have hfb2 : cs0.all flatC = true := by
          cases hb : h.b' with
          | var v0 ty0 cs1 =>
            rw [hb] at b1 hfb
            simp only [renOB, Option.map_eq_some_iff] at b1
            obtain ⟨ds, h5, h6⟩ := b1
            have h7 := hout h.c h (find_c hok3 hm)
            rw [hb, h4] at h7
            simp only [verB, Option.some.injEq, Blk.var.injEq] at h7
            have h8 : cs0.all flatC = (cs0.map (verC ν)).all flatC := by rw [List.all_map]; congr 1; funext q; exact (flatC_ver ν q).symm
            have h9 : cs1.all flatC = (cs1.map (verC ν)).all flatC := by rw [List.all_map]; congr 1; funext q; exact (flatC_ver ν q).symm
            rw [h8, h7.2.2, ← h9]; exact hfb
          | arr v0 wr0 st0 ty0 es0 => rw [hb] at b1; simp [renOB] at b1
          | tree v0 wr0 st0 ty0 es0 op0 => rw [hb] at b1; cases op0 <;> simp [renOB] at b1
        refine ⟨hvers h hm, g, cur, by rw [hL2at h hm]; exact c2, c3, ?_, fun o ho => c5 o (s1.keep g o ho).1⟩
        obtain ⟨e1, e2⟩ := renOs_at h3
        refine ⟨by rw [c4.1]; simpa using e1, fun k x d hx hd => ?_⟩
        obtain ⟨q, hc, hcd⟩ := e2 k d hd
        exact hR hcd (c4.2 k x (verC ν q) hx (by simp [hc])) (List.all_eq_true.1 hfb2 q (List.mem_of_getElem? hc))
      | arr ver wr st ty es =>
        obtain ⟨rfl, h4⟩ := hblka h hm hB0
        have hfb2 : (es.all fun e => e.all flatV) = true := by
          have h7 := hout h.c h (find_c hok3 hm)
          cases hb : h.b' with
          | var v0 ty0 cs1 => rw [hb, h4] at h7; simp [verB] at h7
          | arr v0 wr0 st0 ty0 es0 =>
            rw [hb, h4] at h7
            rw [hb] at hfb
            simp only [verB, Option.some.injEq, Blk.arr.injEq] at h7
            rw [h7.2.2.2.2]; exact hfb
          | tree v0 wr0 st0 ty0 es0 op0 => rw [hb, h4] at h7; simp [verB] at h7
        obtain ⟨c1, c2, c3, c4⟩ := hblk
        refine ⟨c1, c2, c3, ?_⟩
        rcases c4 with c4 | ⟨g, cur, hg, hh, hle, hcs, hi⟩
        · exact .inl c4
        · exact .inr ⟨g, cur, hg, hh, hle, fun i e he => (hcs i e he).flat (List.all_eq_true.1 hfb2 e (List.mem_of_getElem? he)), fun o ho => hi o (s1.keep g o ho).1⟩
      | tree ver wr st ty es op =>
        obtain ⟨rfl, rfl, h4⟩ := hblkt h hm hB0
        obtain ⟨c1, c2, c3, c4, c5, c6⟩ := hblk
        refine ⟨c1, c2, c3, c4, fun b o hb ho => c5 b o hb (s1.keep b o ho).1, ?_⟩
        rcases c6 with c6 | ⟨g, cur, part, q1, q2, q3, q4, q5, q6, _, q7⟩
        · exact .inl c6
        · exact .inr ⟨g, cur, part, q1, q2, q3, q4, q5, q6, fun i cs h => (by cases h), fun o ho => q7 o (s1.keep g o ho).1⟩
    · rw [hnot0 n hq] at hB
      have hne : σ.H n ≠ none := by simp [hB]
      exact (hH.blk n B hB).mono hk hext2 (hL2not n hq) (hS2not n hq) (fun g hg => hframe n g hq (hmore n hne) hg) fun _ _ _ h => h
  · have hsc' : quiet r hs = false := by simpa using hsc
    simp only [hsc', Bool.false_eq_true, if_false] at K
    refine K x w2 imm' L2 ?_
    rw [updH_append, hH1]
    exact ⟨out_T hout hvers hH2 hL2c hrr hx, hok, hSext.trans hext, s1, s2⟩
theorem call_sound (c : Call) (f : Operand) (f' : Opd) (args' : List Opd) (hc : c.callee = .value f) (hf : cOpd f = some f') (hargs : cOpds c.args.toList = some args') (ho : o.op = .call c) {σ : St} {nv : Nat} {e : Ef} (he : CallEff P f' args' nv σ e)
    (hH : HOk w imm σ.H L U) (hU : ∃ cc, ∀ v, U v → v < cc) (hnv : ¬ U nv) (hT : ∀ i, TRep w imm σ.H L U (a.tmps.getD i undef) (σ.t i)) {next : Act → World → Prop} {Q : Exit → Act → World → Prop}
    (K : ∀ x w' imm' L', Goes w imm σ.H L U (updH σ.H e.ws) (with_ U nv) e.val x w' imm' L' → next (a.put o.dst x) w') : o.wp P a w next Q := by
  rcases he with he | ⟨e0, he, hu, rfl⟩
  · exact call_sound0 c f f' args' hc hf hargs ho he hH hU hnv hT K
  · refine call_sound0 c f f' args' hc hf hargs ho he hH hU hnv hT fun x w' imm' L' hgo => K x w' imm' L' ?_
    rw [hu] at hgo
    exact hgo
end
end Go.V

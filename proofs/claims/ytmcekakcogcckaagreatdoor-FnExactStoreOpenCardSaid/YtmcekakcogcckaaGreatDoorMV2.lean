/- The program's StoreOpen returns what the reference's returns, for every disk: no condition but the ones of the given statement. -/
import Derived.Test.YtmcekakcogcckaaGreatDoorMV1
import Derived.Orders
import Derived.IntWalk
import Derived.Sort.Row
import Derived.Sort.Grow
import Derived.Sort.EncStr
import Derived.Attr
namespace Go.V

def slotsD : Opd → List Nat
  | .t i => [i]
  | .k _ => []

def slotsO : Option Opd → List Nat
  | none => []
  | some x => slotsD x

def slotsA : AOp → List Nat
  | .mv x | .box _ x | .ld _ _ x | .nck x | .un _ x | .cnvI _ x | .slc0 x | .fa _ x | .fl _ _ _ x | .ext _ x | .len x | .lenS x | .cnvBS x | .cnvSB x | .isnil _ x => slotsD x
  | .pick c a b | .mm3 c a b => slotsD c ++ (slotsD a ++ slotsD b)
  | .alloc _ _ | .bad => []
  | .build _ ps => ps.flatMap fun p => slotsD p.2.2
  | .bsl _ _ xs => xs.flatMap slotsD
  | .st _ x v => slotsD x ++ slotsD v
  | .bin _ x y | .binB _ x y | .cmpA _ _ x y | .mmx _ x y | .iap _ _ x y | .ixA _ _ _ x y | .ia _ x y | .ix x y | .app _ _ _ x y | .appS _ _ x y | .cpy x y => slotsD x ++ slotsD y
  | .mkf _ xs => xs.flatMap slotsD
  | .mks _ _ _ _ l c => slotsD l ++ slotsD c
  | .slc _ x lo hi => slotsD x ++ (slotsO lo ++ slotsO hi)
  | .slcS x lo hi => slotsD x ++ (slotsO lo ++ slotsO hi)
  | .call f xs => slotsD f ++ xs.flatMap slotsD

def slotsG : Option (Nat × Bool) → List Nat
  | none => []
  | some (s, _) => [s]

def AOper.slots (o : AOper) : List Nat := slotsG o.g ++ slotsA o.op

section
variable {t t' : Nat → T} {H H' : HMap}

theorem ev_local {x : Opd} (h : ∀ s ∈ slotsD x, t' s = t s) : ev t' x = ev t x := by
  cases x with
  | t i => exact h i (by simp [slotsD])
  | k => rfl

theorem evs_local {xs : List Opd} (h : ∀ s ∈ xs.flatMap slotsD, t' s = t s) : xs.map (ev t') = xs.map (ev t) :=
  List.map_congr_left fun x hx => ev_local fun s hs => h s (List.mem_flatMap.2 ⟨x, hx, hs⟩)

theorem fillP_local : ∀ {ps : List (Nat × Nat × Opd)} {cs : List C}, (∀ s ∈ ps.flatMap (fun p => slotsD p.2.2), t' s = t s) → fillP t' cs ps = fillP t cs ps
  | [], _, _ => rfl
  | (off, size, x) :: ps, cs, h => by
    have h1 : ev t' x = ev t x := ev_local fun s hs => h s (by simp [hs])
    simp only [fillP, h1]
    have h2 : ∀ cs, fillP t' cs ps = fillP t cs ps := fun cs => fillP_local fun s hs => h s (by simp only [List.flatMap_cons, List.mem_append]; exact .inr hs)
    simp only [h2]

theorem lohi_local {n : Nat} {lo hi : Option Opd} (h : ∀ s ∈ slotsO lo ++ slotsO hi, t' s = t s) : lohi t' n lo hi = lohi t n lo hi := by
  cases lo <;> cases hi <;> simp [slotsO] at h <;> simp only [lohi]
  · rw [ev_local (x := _) (t := t) fun s hs => h s hs]
  · rw [ev_local (x := _) (t := t) fun s hs => h s hs]
  · rename_i a b
    rw [ev_local (x := a) (t := t) fun s hs => h s (.inl hs), ev_local (x := b) (t := t) fun s hs => h s (.inr hs)]

theorem sealC_local {c : C} {v : V} {ws : List (Nat × Blk)} {ns : List Nat} (h : sealC H c = some (v, ws, ns)) (hn : ∀ n ∈ ns, H' n = H n) : sealC H' c = some (v, ws, ns) := by
  cases c with
  | own id ver n =>
    have h0 := h
    simp only [sealC] at h
    split at h
    · rename_i hB
      split at h
      · simp only [Option.some.injEq, Prod.mk.injEq] at h
        obtain ⟨_, _, rfl⟩ := h
        simp only [sealC] at h0 ⊢
        rw [hn id (by simp)]; exact h0
      · cases h
    · cases h
  | ow id ver l n =>
    have h0 := h
    simp only [sealC] at h
    split at h
    · rename_i hB
      split at h
      · simp only [Option.some.injEq, Prod.mk.injEq] at h
        obtain ⟨_, _, rfl⟩ := h
        simp only [sealC] at h0 ⊢
        rw [hn id (by simp)]; exact h0
      · cases h
    · cases h
  | tr id ver n =>
    have h0 := h
    simp only [sealC] at h
    split at h
    · rename_i hB
      split at h
      · simp only [Option.some.injEq, Prod.mk.injEq] at h
        obtain ⟨_, _, rfl⟩ := h
        simp only [sealC] at h0 ⊢
        rw [hn id (by simp)]; exact h0
      · cases h
    · cases h
  | v => exact h
  | nil0 => exact h
  | _ => simp [sealC] at h

theorem sealCs_local : ∀ {cs : List C} {vs : List V} {ws : List (Nat × Blk)} {ns : List Nat}, sealCs H cs = some (vs, ws, ns) → (∀ n ∈ ns, H' n = H n) → sealCs H' cs = some (vs, ws, ns)
  | [], _, _, _, h, _ => h
  | c :: cs, vs, ws, ns, h, hn => by
    simp only [sealCs] at h
    split at h
    · rename_i h1 h2
      simp only [Option.some.injEq, Prod.mk.injEq] at h
      obtain ⟨rfl, rfl, rfl⟩ := h
      simp only [sealCs, sealC_local h1 fun n hm => hn n (List.mem_append_left _ hm), sealCs_local h2 fun n hm => hn n (List.mem_append_right _ hm)]
    · cases h

theorem sealPs_local {st : Nat} : ∀ {ts : List T} {es : List (List V)} {ws : List (Nat × Blk)} {ns : List Nat}, sealPs H st ts = some (es, ws, ns) → (∀ n ∈ ns, H' n = H n) → sealPs H' st ts = some (es, ws, ns)
  | [], _, _, _, h, _ => h
  | y :: ts, es, ws, ns, h, hn => by
    cases y with
    | pt p =>
      simp only [sealPs] at h
      split at h
      · rename_i h1 h2
        split at h
        · rename_i hl
          simp only [Option.some.injEq, Prod.mk.injEq] at h
          obtain ⟨rfl, rfl, rfl⟩ := h
          simp only [sealPs, sealCs_local h1 fun n hm => hn n (List.mem_append_left _ hm), sealPs_local h2 fun n hm => hn n (List.mem_append_right _ hm), hl, if_true]
        · cases h
      · cases h
    | _ => simp [sealPs] at h

theorem sealC_sub {c : C} {v : V} {ws : List (Nat × Blk)} {ns : List Nat} (h : sealC H c = some (v, ws, ns)) : ∀ p ∈ ws, p.1 ∈ ns := by
  cases c <;> simp [sealC] at h
  · obtain ⟨_, rfl, rfl⟩ := h; intro p hp; cases hp
  · split at h
    · split at h
      · simp only [Option.some.injEq, Prod.mk.injEq] at h
        obtain ⟨_, rfl, rfl⟩ := h; intro p hp; simp at hp; subst hp; simp
      · cases h
    · cases h
  · obtain ⟨_, rfl, rfl⟩ := h; intro p hp; cases hp
  · split at h
    · split at h
      · simp only [Option.some.injEq, Prod.mk.injEq] at h
        obtain ⟨_, rfl, rfl⟩ := h; intro p hp; simp at hp; subst hp; simp
      · cases h
    · cases h
  · split at h
    · split at h
      · simp only [Option.some.injEq, Prod.mk.injEq] at h
        obtain ⟨_, rfl, rfl⟩ := h; intro p hp; simp at hp; subst hp; simp
      · cases h
    · cases h

theorem moveC_local {k : Option (Nat × TypeId)} {c : C} {v : V} {ns : List Nat} (h : moveC H k c = some (v, ns)) (hn : ∀ n ∈ ns, H' n = H n) : moveC H' k c = some (v, ns) := by
  have h0 := h
  unfold moveC at h
  split at h
  · exact h0
  · exact h0
  · exact h0
  · rename_i id ver n
    split at h
    · split at h
      · simp only [Option.some.injEq, Prod.mk.injEq] at h
        obtain ⟨_, rfl⟩ := h
        simp only [moveC] at h0 ⊢
        rw [hn id (by simp)]; exact h0
      · cases h
    · cases h
  · rename_i id ver n
    split at h
    · split at h
      · simp only [Option.some.injEq, Prod.mk.injEq] at h
        obtain ⟨_, rfl⟩ := h
        simp only [moveC] at h0 ⊢
        rw [hn id (by simp)]; exact h0
      · cases h
    · cases h
  · cases h

theorem moveCs_local {ty : TypeId} : ∀ {cs : List C} {k : Nat} {vs : List V} {ns : List Nat}, moveCs H ty k cs = some (vs, ns) → (∀ n ∈ ns, H' n = H n) → moveCs H' ty k cs = some (vs, ns)
  | [], _, _, _, h, _ => h
  | c :: cs, k, vs, ns, h, hn => by
    simp only [moveCs] at h
    split at h
    · rename_i h1 h2
      simp only [Option.some.injEq, Prod.mk.injEq] at h
      obtain ⟨rfl, rfl⟩ := h
      simp only [moveCs, moveC_local h1 fun n hm => hn n (List.mem_append_left _ hm), moveCs_local h2 fun n hm => hn n (List.mem_append_right _ hm)]
    · cases h

theorem movePs_local {st : Nat} {ty : TypeId} : ∀ {ts : List T} {es : List (List V)} {ns : List Nat}, movePs H st ty ts = some (es, ns) → (∀ n ∈ ns, H' n = H n) → movePs H' st ty ts = some (es, ns)
  | [], _, _, h, _ => h
  | y :: ts, es, ns, h, hn => by
    cases y with
    | pt p =>
      simp only [movePs] at h
      split at h
      · rename_i h1 h2
        split at h
        · rename_i hl
          simp only [Option.some.injEq, Prod.mk.injEq] at h
          obtain ⟨rfl, rfl⟩ := h
          simp only [movePs, moveCs_local h1 fun n hm => hn n (List.mem_append_left _ hm), movePs_local h2 fun n hm => hn n (List.mem_append_right _ hm), hl, if_true]
        · cases h
      · cases h
    | _ => simp [movePs] at h

theorem trOf_local {x : T} {d2 : Nat} {ty : TypeId} {ys : List (List V)} (h : trOf H x = some (d2, ty, ys)) (hn : H' d2 = H d2) : trOf H' x = some (d2, ty, ys) := by
  have h0 := h
  unfold trOf at h
  split at h
  · rename_i id ver n
    have hid : id = d2 := by
      split at h
      · split at h
        · simp at h; exact h.1
        · cases h
      · cases h
    subst hid
    simp only [trOf] at h0 ⊢
    rw [hn]; exact h0
  · cases h

theorem trOf_none {x : T} {r : List (List V) × List Nat} (h : srcOf H x = some r) : trOf H' x = none := by
  unfold trOf
  split
  · simp [srcOf] at h
  · rfl

theorem sealCs_sub : ∀ {cs : List C} {vs : List V} {ws : List (Nat × Blk)} {ns : List Nat}, sealCs H cs = some (vs, ws, ns) → ∀ p ∈ ws, p.1 ∈ ns
  | [], _, _, _, h => by simp [sealCs] at h; obtain ⟨_, rfl, rfl⟩ := h; intro p hp; cases hp
  | c :: cs, _, _, _, h => by
    simp only [sealCs] at h
    split at h
    · rename_i h1 h2
      simp only [Option.some.injEq, Prod.mk.injEq] at h
      obtain ⟨_, rfl, rfl⟩ := h
      intro p hp
      rcases List.mem_append.1 hp with hp | hp
      · exact List.mem_append_left _ (sealC_sub h1 p hp)
      · exact List.mem_append_right _ (sealCs_sub h2 p hp)
    · cases h

theorem sealPs_sub {st : Nat} : ∀ {ts : List T} {es : List (List V)} {ws : List (Nat × Blk)} {ns : List Nat}, sealPs H st ts = some (es, ws, ns) → ∀ p ∈ ws, p.1 ∈ ns
  | [], _, _, _, h => by simp [sealPs] at h; obtain ⟨_, rfl, rfl⟩ := h; intro p hp; cases hp
  | y :: ts, _, _, _, h => by
    cases y with
    | pt q =>
      simp only [sealPs] at h
      split at h
      · rename_i h1 h2
        split at h
        · simp only [Option.some.injEq, Prod.mk.injEq] at h
          obtain ⟨_, rfl, rfl⟩ := h
          intro p hp
          rcases List.mem_append.1 hp with hp | hp
          · exact List.mem_append_left _ (sealCs_sub h1 p hp)
          · exact List.mem_append_right _ (sealPs_sub h2 p hp)
        · cases h
      · cases h
    | _ => simp [sealPs] at h

theorem ptrC_local {x : T} {cs : List C} {rn : List Nat} (h : ptrC H x = some (cs, rn)) (hn : ∀ n ∈ rn, H' n = H n) : ptrC H' x = some (cs, rn) := by
  have h0 := h
  unfold ptrC at h
  split at h
  · rename_i id ver j
    have hid : id ∈ rn := by
      split at h
      · split at h
        · simp at h; obtain ⟨_, rfl⟩ := h; simp
        · cases h
      · cases h
    simp only [ptrC] at h0 ⊢
    rw [hn id hid]; exact h0
  · rename_i id ver i j
    have hid : id ∈ rn := by
      split at h
      · split at h
        · simp only [Option.map_eq_some_iff, Prod.mk.injEq] at h; obtain ⟨_, _, _, rfl⟩ := h; simp
        · cases h
      · cases h
    simp only [ptrC] at h0 ⊢
    rw [hn id hid]; exact h0
  · exact h
  · rename_i id ver i j
    have hid : id ∈ rn := by
      split at h
      · split at h
        · simp at h; obtain ⟨_, rfl⟩ := h; simp
        · cases h
      · cases h
    simp only [ptrC] at h0 ⊢
    rw [hn id hid]; exact h0
  · cases h

theorem loadT_local {n : Nat} {ag : Bool} {x v : T} {rn : List Nat} (h : loadT H n ag x = some (v, rn)) (hn : ∀ n ∈ rn, H' n = H n) : loadT H' n ag x = some (v, rn) := by
  unfold loadT at h ⊢
  split at h
  · rename_i cs rn' hp
    have : rn' = rn := by
      cases ag
      · simp at h; obtain ⟨_, _, _, rfl⟩ := h; rfl
      · simp at h; exact h.2.2
    subst this
    rw [ptrC_local hp hn]; exact h
  · cases h

theorem srcOf_local {x : T} {ys : List (List V)} {ns : List Nat} (h : srcOf H x = some (ys, ns)) (hn : ∀ n ∈ ns, H' n = H n) : srcOf H' x = some (ys, ns) := by
  have h0 := h
  unfold srcOf at h
  split at h
  · exact h
  · exact h
  · rename_i id ver n
    have hid : id ∈ ns := by
      split at h
      · split at h
        · simp at h; obtain ⟨_, rfl⟩ := h; simp
        · cases h
      · cases h
    simp only [srcOf] at h0 ⊢
    rw [hn id hid]; exact h0
  · rename_i id ver l n
    have hid : id ∈ ns := by
      split at h
      · split at h
        · simp at h; obtain ⟨_, rfl⟩ := h; simp
        · cases h
      · cases h
    simp only [srcOf] at h0 ⊢
    rw [hn id hid]; exact h0
  · exact h
  · cases h

theorem storeT_local {n : Nat} {p : P1} {x : T} {ws : List (Nat × Blk)} {wn : List Nat} (h : storeT H n p x = some (ws, wn)) (hn : ∀ n ∈ wn, H' n = H n) : storeT H' n p x = some (ws, wn) := by
  have h0 := h
  unfold storeT at h
  split at h
  · rename_i id ver j
    have hid : id ∈ wn := by
      split at h
      · split at h
        · simp at h; obtain ⟨_, rfl⟩ := h; simp
        · cases h
      · cases h
    simp only [storeT] at h0 ⊢
    rw [hn id hid]; exact h0
  · rename_i id ver i j
    have hid : id ∈ wn := by
      split at h
      · split at h
        · split at h
          · split at h
            · simp at h; obtain ⟨_, rfl⟩ := h; simp
            · cases h
          · cases h
        · cases h
      · cases h
    simp only [storeT] at h0 ⊢
    rw [hn id hid]; exact h0
  · rename_i id ver i j
    have hid : id ∈ wn := by
      split at h
      · split at h
        · simp at h; obtain ⟨_, rfl⟩ := h; simp
        · cases h
      · cases h
    simp only [storeT] at h0 ⊢
    rw [hn id hid]; exact h0
  · cases h

theorem storeT_sub {n : Nat} {p : P1} {x : T} {ws : List (Nat × Blk)} {wn : List Nat} (h : storeT H n p x = some (ws, wn)) : ∀ q ∈ ws, q.1 ∈ wn := by
  unfold storeT at h
  split at h
  · split at h
    · split at h
      · simp at h; obtain ⟨rfl, rfl⟩ := h; intro q hq; simp at hq; subst hq; simp
      · cases h
    · cases h
  · split at h
    · split at h
      · split at h
        · split at h
          · simp at h; obtain ⟨rfl, rfl⟩ := h; intro q hq; simp at hq; subst hq; simp
          · cases h
        · cases h
      · cases h
    · cases h
  · split at h
    · split at h
      · simp at h; obtain ⟨rfl, rfl⟩ := h; intro q hq; simp at hq; subst hq; simp
      · cases h
    · cases h
  · cases h

theorem lendC_local {tm x u : C} {ws : List (Nat × Blk)} {ns : List Nat} (h : lendC H tm x = some (u, ws, ns)) (hn : ∀ n ∈ ns, H' n = H n) : lendC H' tm x = some (u, ws, ns) ∧ ∀ p ∈ ws, p.1 ∈ ns := by
  cases tm with
  | v y =>
    simp only [lendC, Option.map_eq_some_iff, Prod.mk.injEq] at h
    obtain ⟨⟨y, ws', ns'⟩, h3, rfl, rfl, rfl⟩ := h
    exact ⟨by simp [lendC, sealC_local h3 hn], sealC_sub h3⟩
  | _ =>
    simp only [lendC, Option.some.injEq, Prod.mk.injEq] at h ⊢
    obtain ⟨rfl, rfl, rfl⟩ := h
    exact ⟨⟨rfl, rfl, rfl⟩, fun p hp => by cases hp⟩

theorem lendCs_local : ∀ {tms xs us : List C} {ws : List (Nat × Blk)} {ns : List Nat}, lendCs H tms xs = some (us, ws, ns) → (∀ n ∈ ns, H' n = H n) → lendCs H' tms xs = some (us, ws, ns) ∧ ∀ p ∈ ws, p.1 ∈ ns
  | [], [], _, _, _, h, _ => by
    simp [lendCs] at h
    obtain ⟨rfl, rfl, rfl⟩ := h
    exact ⟨rfl, fun p hp => by cases hp⟩
  | [], _ :: _, _, _, _, h, _ => by simp [lendCs] at h
  | _ :: _, [], _, _, _, h, _ => by simp [lendCs] at h
  | tm :: tms, x :: xs, us, ws, ns, h, hn => by
    simp only [lendCs] at h
    split at h
    · rename_i h1 h2
      simp only [Option.some.injEq, Prod.mk.injEq] at h
      obtain ⟨rfl, rfl, rfl⟩ := h
      obtain ⟨a1, a2⟩ := lendC_local h1 fun n hm => hn n (List.mem_append_left _ hm)
      obtain ⟨b1, b2⟩ := lendCs_local h2 fun n hm => hn n (List.mem_append_right _ hm)
      refine ⟨by simp only [lendCs, a1, b1], fun p hp => ?_⟩
      rcases List.mem_append.1 hp with hp | hp
      · exact List.mem_append_left _ (a2 p hp)
      · exact List.mem_append_right _ (b2 p hp)
    · cases h

theorem lendT_local {tm x u : T} {ws : List (Nat × Blk)} {ns : List Nat} (h : lendT H tm x = some (u, ws, ns)) (hn : ∀ n ∈ ns, H' n = H n) : lendT H' tm x = some (u, ws, ns) ∧ ∀ p ∈ ws, p.1 ∈ ns := by
  unfold lendT at h
  split at h
  · simp only [Option.map_eq_some_iff, Prod.mk.injEq] at h
    obtain ⟨⟨y, ws', ns'⟩, h3, rfl, rfl, rfl⟩ := h
    obtain ⟨a1, a2⟩ := lendC_local h3 hn
    exact ⟨by simp [lendT, a1], a2⟩
  · simp only [Option.map_eq_some_iff, Prod.mk.injEq] at h
    obtain ⟨⟨y, ws', ns'⟩, h3, rfl, rfl, rfl⟩ := h
    obtain ⟨a1, a2⟩ := lendCs_local h3 hn
    exact ⟨by simp [lendT, a1], a2⟩
  · cases h

theorem lendTs_local : ∀ {tms xs us : List T} {ws : List (Nat × Blk)} {ns : List Nat}, lendTs H tms xs = some (us, ws, ns) → (∀ n ∈ ns, H' n = H n) → lendTs H' tms xs = some (us, ws, ns) ∧ ∀ p ∈ ws, p.1 ∈ ns
  | [], [], _, _, _, h, _ => by
    simp [lendTs] at h
    obtain ⟨rfl, rfl, rfl⟩ := h
    exact ⟨rfl, fun p hp => by cases hp⟩
  | [], _ :: _, _, _, _, h, _ => by simp [lendTs] at h
  | _ :: _, [], _, _, _, h, _ => by simp [lendTs] at h
  | tm :: tms, x :: xs, us, ws, ns, h, hn => by
    simp only [lendTs] at h
    split at h
    · rename_i h1 h2
      simp only [Option.some.injEq, Prod.mk.injEq] at h
      obtain ⟨rfl, rfl, rfl⟩ := h
      obtain ⟨a1, a2⟩ := lendT_local h1 fun n hm => hn n (List.mem_append_left _ hm)
      obtain ⟨b1, b2⟩ := lendTs_local h2 fun n hm => hn n (List.mem_append_right _ hm)
      refine ⟨by simp only [lendTs, a1, b1], fun p hp => ?_⟩
      rcases List.mem_append.1 hp with hp | hp
      · exact List.mem_append_left _ (a2 p hp)
      · exact List.mem_append_right _ (b2 p hp)
    · cases h
end
end Go.V
namespace Go.V
section
variable {t t' : Nat → T} {H H' : HMap}

theorem core_local {op : AOp} {d ver : Nat} {e : Ef} (h : core op d ver t H = some e) (hs : ∀ s ∈ slotsA op, t' s = t s) (hn : ∀ n ∈ e.rn, H' n = H n) :
    core op d ver t' H' = some e ∧ (∀ p ∈ e.ws, p.1 ∈ e.wn) ∧ ∀ n ∈ e.wn, n ∈ e.rn := by
  have e1 : ∀ x : Opd, (∀ s ∈ slotsD x, s ∈ slotsA op) → ev t' x = ev t x := fun x hx => ev_local fun s hm => hs s (hx s hm)
  have pure_ok : ∀ v : T, e = Ef.pure v → (∀ p ∈ e.ws, p.1 ∈ e.wn) ∧ ∀ n ∈ e.wn, n ∈ e.rn := by
    rintro v rfl; exact ⟨(fun p hp => (by cases hp)), (fun n hn => (by cases hn))⟩
  cases op with
  | mv x =>
    have h1 := e1 x (fun s h => h)
    simp only [core, h1] at h ⊢
    exact ⟨h, pure_ok _ (by simpa using h.symm)⟩
  | pick c x y =>
    have h1 := e1 c (fun s h => by simp [slotsA, h])
    have h2 := e1 x (fun s h => by simp [slotsA, h])
    have h3 := e1 y (fun s h => by simp [slotsA, h])
    simp only [core, h1, h2, h3] at h ⊢
    refine ⟨h, ?_⟩
    split at h
    · exact pure_ok _ (by simpa using h.symm)
    · cases h
  | alloc ty cs =>
    simp only [core] at h ⊢
    refine ⟨h, ?_⟩
    cases h; exact ⟨fun p hp => by simpa using congrArg Prod.fst (by simpa using hp), fun n hn => hn⟩
  | box ty x =>
    have h1 := e1 x (fun s h => h)
    simp only [core, h1] at h ⊢
    refine ⟨h, ?_⟩
    split at h
    · cases h; exact ⟨fun p hp => by simpa using congrArg Prod.fst (by simpa using hp), fun n hn => hn⟩
    · cases h
  | build z ps =>
    have h1 : fillP t' z ps = fillP t z ps := fillP_local hs
    simp only [core, h1] at h ⊢
    refine ⟨h, ?_⟩
    simp only [Option.map_eq_some_iff] at h
    obtain ⟨cs, _, rfl⟩ := h
    exact pure_ok _ rfl
  | bsl st ty xs =>
    have h1 : xs.map (ev t') = xs.map (ev t) := evs_local hs
    simp only [core, h1] at h ⊢
    by_cases htr : hasTr (xs.map (ev t)) = true
    · rw [if_pos htr] at h ⊢
      split at h
      · rename_i es ns hp
        split at h
        · rename_i hnd
          cases h
          refine ⟨by rw [movePs_local hp fun n hm => hn n (by simp [hm])]; exact if_pos hnd, fun p hp2 => ?_, fun n hn => hn⟩
          rcases List.mem_append.1 hp2 with h2 | h2
          · obtain ⟨m, h3, rfl⟩ := List.mem_map.1 h2
            exact List.mem_cons_of_mem _ h3
          · simp at h2; subst h2; simp
        · cases h
      · cases h
    · rw [if_neg htr] at h ⊢
      split at h
      · rename_i es ws ns hp
        cases h
        refine ⟨by rw [sealPs_local hp fun n hm => hn n (by simp [hm])], fun p hp2 => ?_, fun n hn => hn⟩
        rcases List.mem_append.1 hp2 with h2 | h2
        · exact List.mem_cons_of_mem _ (sealPs_sub hp p h2)
        · simp at h2; subst h2; simp
      · cases h
  | ld n ag x =>
    have h1 := e1 x (fun s h => h)
    simp only [core, h1, Option.map_eq_some_iff] at h ⊢
    obtain ⟨⟨v, rn⟩, h2, rfl⟩ := h
    exact ⟨⟨(v, rn), loadT_local h2 hn, rfl⟩, (fun p hp => (by cases hp)), (fun n hn => (by cases hn))⟩
  | st n x v =>
    have h1 := e1 x (fun s h => by simp [slotsA, h])
    have h2 := e1 v (fun s h => by simp [slotsA, h])
    simp only [core, h1, h2] at h ⊢
    split at h
    · rename_i p hp
      simp only [Option.map_eq_some_iff] at h ⊢
      obtain ⟨⟨ws, wn⟩, h3, rfl⟩ := h
      exact ⟨⟨(ws, wn), storeT_local h3 hn, rfl⟩, storeT_sub h3, fun n hn => hn⟩
    · cases h
  | nck x =>
    have h1 := e1 x (fun s h => h)
    simp only [core, h1] at h ⊢
    refine ⟨h, ?_⟩
    split at h <;> first | exact pure_ok _ (by simpa using h.symm) | cases h
  | bin op x y =>
    have h1 := e1 x (fun s h => by simp [slotsA, h])
    have h2 := e1 y (fun s h => by simp [slotsA, h])
    simp only [core, h1, h2] at h ⊢
    refine ⟨h, ?_⟩
    split at h
    · simp only [Option.map_eq_some_iff] at h
      obtain ⟨v, _, rfl⟩ := h
      exact pure_ok _ rfl
    · cases h
  | cmpA neg ks x y =>
    have h1 := e1 x (fun s h => by simp [slotsA, h])
    have h2 := e1 y (fun s h => by simp [slotsA, h])
    simp only [core, h1, h2] at h ⊢
    refine ⟨h, ?_⟩
    split at h
    · simp only [Option.map_eq_some_iff] at h
      obtain ⟨r, _, rfl⟩ := h
      exact pure_ok _ rfl
    · cases h
  | binB op x y =>
    have h1 := e1 x (fun s h => by simp [slotsA, h])
    have h2 := e1 y (fun s h => by simp [slotsA, h])
    simp only [core, h1, h2] at h ⊢
    refine ⟨h, ?_⟩
    split at h
    · split at h <;> first | exact pure_ok _ (by simpa using h.symm) | cases h
    · cases h
  | un op x =>
    have h1 := e1 x (fun s h => h)
    simp only [core, h1] at h ⊢
    refine ⟨h, ?_⟩
    split at h
    · simp only [Option.map_eq_some_iff] at h
      obtain ⟨v, _, rfl⟩ := h
      exact pure_ok _ rfl
    · cases h
  | cnvI k x =>
    have h1 := e1 x (fun s h => h)
    simp only [core, h1] at h ⊢
    refine ⟨h, ?_⟩
    simp only [Option.map_eq_some_iff] at h
    obtain ⟨v, _, rfl⟩ := h
    exact pure_ok _ rfl
  | mkf f xs =>
    have h1 : xs.map (ev t') = xs.map (ev t) := evs_local hs
    simp only [core, h1] at h ⊢
    refine ⟨h, ?_⟩
    simp only [Option.map_eq_some_iff] at h
    obtain ⟨v, _, rfl⟩ := h
    exact pure_ok _ rfl
  | mks st ty bytes z l c =>
    have h1 := e1 l (fun s h => by simp [slotsA, h])
    have h2 := e1 c (fun s h => by simp [slotsA, h])
    simp only [core, h1, h2] at h ⊢
    refine ⟨h, ?_⟩
    split at h
    · split at h
      · cases h; exact ⟨fun p hp => by simpa using congrArg Prod.fst (by simpa using hp), fun n hn => hn⟩
      · cases h
    · cases h
  | slc st x lo hi =>
    have h1 := e1 x (fun s h => by simp [slotsA, h])
    have h2 : ∀ n, lohi t' n lo hi = lohi t n lo hi := fun n => lohi_local fun s hm => hs s (by simp only [slotsA, List.mem_append] at hm ⊢; exact .inr hm)
    simp only [core, h1, h2] at h ⊢
    split at h
    · refine ⟨h, ?_⟩
      split at h
      · split at h
        · exact pure_ok _ (by simpa using h.symm)
        · cases h
      · cases h
    · rename_i id v n hx
      split at h
      · rename_i hb; exact ⟨h, pure_ok _ (by simpa using h.symm)⟩
      · rename_i l k hb
        split at h
        · rename_i v' wr st' ty es hB
          split at h
          · rename_i hcond
            cases h
            rw [hn id (by simp), hB]
            exact ⟨if_pos hcond, by simp, by simp⟩
          · cases h
        · cases h
      · cases h
    · refine ⟨h, ?_⟩
      split at h
      · exact pure_ok _ (by simpa using h.symm)
      · cases h
    · cases h
  | slc0 x =>
    have h1 := e1 x (fun s h => h)
    simp only [core, h1] at h ⊢
    refine ⟨h, ?_⟩
    split at h <;> first | exact pure_ok _ (by simpa using h.symm) | cases h
  | slcS x lo hi =>
    have h1 := e1 x (fun s h => by simp [slotsA, h])
    have h2 : ∀ n, lohi t' n lo hi = lohi t n lo hi := fun n => lohi_local fun s hm => hs s (by simp only [slotsA, List.mem_append] at hm ⊢; exact .inr hm)
    simp only [core, h1, h2] at h ⊢
    refine ⟨h, ?_⟩
    split at h
    · simp only [Option.map_eq_some_iff] at h
      obtain ⟨v, _, rfl⟩ := h
      exact pure_ok _ rfl
    · cases h
  | fa off x =>
    have h1 := e1 x (fun s h => h)
    simp only [core, h1] at h ⊢
    refine ⟨h, ?_⟩
    split at h <;> first | exact pure_ok _ (by simpa using h.symm) | cases h
  | fl off n ag x =>
    have h1 := e1 x (fun s h => h)
    simp only [core, h1] at h ⊢
    refine ⟨h, ?_⟩
    split at h
    · split at h
      · split at h
        · exact pure_ok _ (by simpa using h.symm)
        · cases h
      · simp only [Option.map_eq_some_iff] at h
        obtain ⟨v, _, rfl⟩ := h
        exact pure_ok _ rfl
    · cases h
  | ia st x i =>
    have h1 := e1 x (fun s h => by simp [slotsA, h])
    have h2 := e1 i (fun s h => by simp [slotsA, h])
    simp only [core, h1, h2] at h ⊢
    split at h
    · refine ⟨h, ?_⟩
      split at h
      · split at h
        · split at h
          · exact pure_ok _ (by simpa using h.symm)
          · cases h
        · cases h
      · cases h
    · rename_i id v m _ n _ _
      have h0 := h
      split at h
      · split at h
        · rename_i hB
          split at h
          · cases h
            rw [hn id (by simp)]
            exact ⟨h0, (fun p hp => (by cases hp)), (fun n hn => (by cases hn))⟩
          · cases h
        · cases h
      · cases h
    · rename_i id v m _ n _ _
      have h0 := h
      split at h
      · split at h
        · rename_i hB
          split at h
          · cases h
            rw [hn id (by simp)]
            exact ⟨h0, (fun p hp => (by cases hp)), (fun n hn => (by cases hn))⟩
          · cases h
        · cases h
      · cases h
    · cases h
  | ix x i =>
    have h1 := e1 x (fun s h => by simp [slotsA, h])
    have h2 := e1 i (fun s h => by simp [slotsA, h])
    simp only [core, h1, h2] at h ⊢
    refine ⟨h, ?_⟩
    split at h
    · split at h
      · simp only [Option.map_eq_some_iff] at h
        obtain ⟨v, _, rfl⟩ := h
        exact pure_ok _ rfl
      · cases h
    · cases h
  | ext i x =>
    have h1 := e1 x (fun s h => h)
    simp only [core, h1] at h ⊢
    refine ⟨h, ?_⟩
    split at h
    · simp only [Option.map_eq_some_iff] at h
      obtain ⟨v, _, rfl⟩ := h
      exact pure_ok _ rfl
    · cases h
  | len x =>
    have h1 := e1 x (fun s h => h)
    simp only [core, h1] at h ⊢
    refine ⟨h, ?_⟩
    split at h <;> first | exact pure_ok _ (by simpa using h.symm) | cases h
  | lenS x =>
    have h1 := e1 x (fun s h => h)
    simp only [core, h1] at h ⊢
    refine ⟨h, ?_⟩
    split at h <;> first | exact pure_ok _ (by simpa using h.symm) | cases h
  | mmx mx x y =>
    have h1 := e1 x (fun s h => by simp [slotsA, h])
    have h2 := e1 y (fun s h => by simp [slotsA, h])
    simp only [core, h1, h2] at h ⊢
    refine ⟨h, ?_⟩
    split at h <;> first | exact pure_ok _ (by simpa using h.symm) | cases h
  | mm3 x y z =>
    have h1 := e1 x (fun s h => by simp [slotsA, h])
    have h2 := e1 y (fun s h => by simp [slotsA, h])
    have h3 := e1 z (fun s h => by simp [slotsA, h])
    simp only [core, h1, h2, h3] at h ⊢
    refine ⟨h, ?_⟩
    split at h <;> first | exact pure_ok _ (by simpa using h.symm) | cases h
  | iap n st x y =>
    have h1 := e1 x (fun s h => by simp [slotsA, h])
    have h2 := e1 y (fun s h => by simp [slotsA, h])
    simp only [core, h1, h2] at h ⊢
    refine ⟨h, ?_⟩
    split at h
    · split at h <;> first | exact pure_ok _ (by simpa using h.symm) | cases h
    · cases h
  | ixA n st ag x y =>
    have h1 := e1 x (fun s h => by simp [slotsA, h])
    have h2 := e1 y (fun s h => by simp [slotsA, h])
    simp only [core, h1, h2] at h ⊢
    refine ⟨h, ?_⟩
    split at h
    · split at h
      · split at h
        · split at h <;> first | exact pure_ok _ (by simpa using h.symm) | cases h
        · simp only [Option.map_eq_some_iff] at h
          obtain ⟨v, _, rfl⟩ := h
          exact pure_ok _ rfl
      · cases h
    · cases h
  | cpy x y =>
    have h1 := e1 x (fun s h => by simp [slotsA, h])
    have h2 := e1 y (fun s h => by simp [slotsA, h])
    simp only [core, h1, h2] at h ⊢
    cases hsrc : srcOf H (ev t y) with
    | none => simp [hsrc] at h
    | some q =>
      obtain ⟨ys, ns⟩ := q
      cases hd : dstOf (ev t x) with
      | none => simp [hsrc, hd] at h
      | some q =>
        obtain ⟨id, v, l, n⟩ := q
        simp only [hsrc, hd] at h
        split at h
        · rename_i v' wr st' ty es hB
          split at h
          · rename_i hb
            cases h
            rw [srcOf_local hsrc fun n hm => hn n (by simp [hm])]
            exact ⟨by show (match H' id with | some (.arr v' wr st' ty es) => _ | _ => _) = _; rw [hn id (by simp), hB]; exact if_pos hb, fun p hp => by simpa using congrArg Prod.fst (by simpa using hp), fun n hn => by simp at hn; simp [hn]⟩
          · cases h
        · cases h
  | cnvBS x =>
    have h1 := e1 x (fun s h => h)
    simp only [core, h1] at h ⊢
    cases hsrc : srcOf H (ev t x) with
    | none => simp [hsrc] at h
    | some q =>
      obtain ⟨ys, ns⟩ := q
      simp only [hsrc, Option.map_eq_some_iff] at h
      obtain ⟨bs, hbs, rfl⟩ := h
      rw [srcOf_local hsrc fun n hm => hn n hm]
      exact ⟨by simp only [hbs, Option.map_some], (fun p hp => (by cases hp)), (fun n hn => (by cases hn))⟩
  | isnil neg x =>
    have h1 := e1 x (fun s h => h)
    simp only [core, h1] at h ⊢
    refine ⟨h, ?_⟩
    split at h <;> first | exact pure_ok _ (by simpa using h.symm) | cases h
  | cnvSB x =>
    have h1 := e1 x (fun s h => h)
    simp only [core, h1] at h ⊢
    refine ⟨h, ?_⟩
    split at h <;> first | exact pure_ok _ (by simpa using h.symm) | cases h
  | appS ty bytes x y =>
    have h1 := e1 x (fun s h => by simp [slotsA, h])
    have h2 := e1 y (fun s h => by simp [slotsA, h])
    simp only [core, h1, h2] at h ⊢
    split at h
    · rename_i s id v n hy hx
      split at h
      · rename_i v' wr st' ty' es hB
        split at h
        · rename_i hb
          cases h
          exact ⟨by show (match H' id with | some (.arr v' wr st' ty' es) => _ | _ => _) = _; rw [hn id (by simp), hB]; exact if_pos hb, fun p hp => by simpa using congrArg Prod.fst (by simpa using hp), fun n hn => by simp at hn; simp [hn]⟩
        · cases h
      · cases h
    · cases h
  | bad => simp [core] at h
  | app st ty bytes x y =>
    have h1 := e1 x (fun s h => by simp [slotsA, h])
    have h2 := e1 y (fun s h => by simp [slotsA, h])
    simp only [core, h1, h2] at h ⊢
    cases htr : trOf H (ev t y) with
    | some q =>
     obtain ⟨d2, ty2, ys⟩ := q
     simp only [htr] at h
     split at h
     · rename_i hyl
       split at h
       · split at h
         · rename_i hb
           cases h
           rw [trOf_local htr (hn d2 (by simp))]
           exact ⟨by show (if _ then (if _ then _ else _) else _) = _; rw [if_pos hyl, if_pos hb], fun p hp => by simp at hp; rcases hp with rfl | rfl <;> simp, fun n hn => hn⟩
         · cases h
       · rename_i id v n hx
         split at h
         · rename_i v' st' ty' es hB
           split at h
           · rename_i hb
             cases h
             rw [trOf_local htr (hn d2 (by simp))]
             exact ⟨by show (if _ then (match H' id with | some (.tree v' true st' ty' es none) => _ | _ => _) else _) = _; rw [if_pos hyl, hn id (by simp), hB]; exact if_pos hb, fun p hp => by simp at hp; rcases hp with rfl | rfl <;> simp, fun n hn => hn⟩
           · cases h
         · cases h
       · cases h
     · cases h
    | none =>
    simp only [htr] at h
    cases hsrc : srcOf H (ev t y) with
    | none => simp [hsrc] at h
    | some q =>
      rw [trOf_none hsrc]
      obtain ⟨ys, ns⟩ := q
      simp only [hsrc] at h
      split at h
      · rename_i hyl
        split at h
        · split at h
          · rename_i hb
            cases h
            rw [srcOf_local hsrc fun n hm => hn n (by simp [hm])]
            exact ⟨by show (if _ then (if _ then _ else _) else _) = _; rw [if_pos hyl, if_pos hb], fun p hp => by simpa using congrArg Prod.fst (by simpa using hp), fun n hn => by simp at hn; simp [hn]⟩
          · cases h
        · rename_i id v n hx
          split at h
          · rename_i v' wr st' ty' es hB
            split at h
            · rename_i hb
              cases h
              rw [srcOf_local hsrc fun n hm => hn n (by simp [hm])]
              exact ⟨by show (if _ then (match H' id with | some (.arr v' wr st' ty' es) => _ | _ => _) else _) = _; rw [if_pos hyl, hn id (by simp), hB]; exact if_pos hb, fun p hp => by simpa using congrArg Prod.fst (by simpa using hp), fun n hn => by simp at hn; simp [hn]⟩
            · cases h
          · cases h
        · cases h
      · cases h
  | call f xs => simp [core] at h
end
end Go.V
namespace Go.V

theorem gd_local {g : Option (Nat × Bool)} {t t' : Nat → T} (h : ∀ s ∈ slotsG g, t' s = t s) : gd g t' = gd g t := by
  cases g with
  | none => rfl
  | some p => obtain ⟨s, w⟩ := p; simp only [gd]; rw [h s (by simp [slotsG])]

theorem CallEff0_local {P : Program} {f : Opd} {xs : List Opd} {nv : Nat} {σ τ : St} {e : Ef} (h : CallEff0 P f xs nv σ e) (hs2 : ∀ s ∈ slotsA (.call f xs), τ.t s = σ.t s) (hn : ∀ n ∈ e.rn, τ.H n = σ.H n) :
    CallEff0 P f xs nv τ e ∧ (∀ p ∈ e.ws, p.1 ∈ e.wn) ∧ ∀ n ∈ e.wn, n ∈ e.rn := by
  obtain ⟨fid, caps, as, ws, ns, hs', argsC, r, r', ob, h1, h2, h3, h4, h5, h6, h7, h8, h8', rfl⟩ := h
  have e1 : ev τ.t f = ev σ.t f := ev_local fun s hm => hs2 s (by simp [slotsA, hm])
  have e2 : xs.map (ev τ.t) = xs.map (ev σ.t) := evs_local fun s hm => hs2 s (by simp only [slotsA, List.mem_append]; exact .inr hm)
  obtain ⟨h9, h10⟩ := lendTs_local (H' := τ.H) h2 fun n hm => hn n (by simp [hm])
  refine ⟨⟨fid, caps, as, ws, ns, hs', argsC, r, r', ob, by rw [e1]; exact h1, by rw [e2]; exact h9, h3, ?_, h5, h6, h7, h8, h8', rfl⟩, fun p hp => ?_, fun n hm => ?_⟩
  · refine handsIn_congr (fun q hq => ?_) h4
    have e3 : τ.H q.m = σ.H q.m := hn q.m (by simp only [List.mem_append, List.mem_map]; exact .inr ⟨q, hq, rfl⟩)
    have e4 : ∀ (ws : List (Nat × Blk)) (A B : HMap) (n : Nat), A n = B n → updH A ws n = updH B ws n := by
      intro ws
      induction ws with
      | nil => intro A B n h; exact h
      | cons w ws ih => intro A B n h; obtain ⟨m, b⟩ := w; exact ih _ _ n (by by_cases hm : n = m <;> simp [upd, hm, h])
    exact e4 ws _ _ _ e3
  · simp only [List.mem_append, List.mem_map] at hp ⊢
    rcases hp with hp | hp
    · split at hp
      · cases hp
      · rename_i hsc; rw [if_neg hsc]; exact .inl (h10 p hp)
    · obtain ⟨q, hq, e⟩ := (renOBs_ok h8' h5).1 p hp
      exact .inr ⟨q, hq, e⟩
  · simp only [List.mem_append] at hm ⊢
    rcases hm with hm | hm
    · split at hm
      · cases hm
      · exact .inl hm
    · exact .inr hm

theorem updH_local : ∀ (ws : List (Nat × Blk)) (A B : HMap) (n : Nat), A n = B n → updH A ws n = updH B ws n
  | [], _, _, _, h => h
  | (m, b) :: ws, A, B, n, h => updH_local ws _ _ n (by by_cases hm : n = m <;> simp [upd, hm, h])
theorem updH_in : ∀ (ws : List (Nat × Blk)) (A B : HMap) (n : Nat), (∃ p ∈ ws, p.1 = n) → updH A ws n = updH B ws n
  | [], _, _, _, h => by obtain ⟨p, hp, _⟩ := h; cases hp
  | (m, b) :: ws, A, B, n, h => by
    by_cases hm : n = m
    · exact updH_local ws _ _ n (by simp [upd, hm])
    · refine updH_in ws _ _ n ?_
      obtain ⟨p, hp, e⟩ := h
      rcases List.mem_cons.1 hp with rfl | hp
      · exact absurd e.symm hm
      · exact ⟨p, hp, e⟩
theorem updH_notin : ∀ (ws : List (Nat × Blk)) (A : HMap) (n : Nat), (¬ ∃ p ∈ ws, p.1 = n) → updH A ws n = A n
  | [], _, _, _ => rfl
  | (m, b) :: ws, A, n, h => by
    have h1 : n ≠ m := fun e => h ⟨(m, b), by simp, e.symm⟩
    show updH (upd A m (some b)) ws n = A n
    rw [updH_notin ws _ n fun ⟨p, hp, e⟩ => h ⟨p, by simp [hp], e⟩]
    simp [upd, h1]

theorem Eff_local {P : Program} {o : AOper} {σ τ : St} {e : Ef} (h : Eff P o σ e) (hs : ∀ s ∈ o.slots, τ.t s = σ.t s) (hn : ∀ n ∈ e.rn, τ.H n = σ.H n) (hc : τ.ctr = σ.ctr) :
    Eff P o τ e ∧ (∀ p ∈ e.ws, p.1 ∈ e.wn) ∧ ∀ n ∈ e.wn, n ∈ e.rn := by
  unfold Eff at h ⊢
  rw [gd_local (t := σ.t) (t' := τ.t) fun s hm => hs s (by simp [AOper.slots, hm])]
  have hs2 : ∀ s ∈ slotsA o.op, τ.t s = σ.t s := fun s hm => hs s (by simp [AOper.slots, hm])
  cases hg : gd o.g σ.t with
  | none => simp [hg] at h
  | some b =>
    simp only [hg] at h ⊢
    cases b with
    | false => simp only at h ⊢; subst h; exact ⟨rfl, fun p hp => (by cases hp), fun n hn => (by cases hn)⟩
    | true =>
      simp only at h ⊢
      have key : ∀ op : AOp, o.op = op → core op (o.d.getD 0) (σ.ctr + o.k) σ.t σ.H = some e → core op (o.d.getD 0) (τ.ctr + o.k) τ.t τ.H = some e ∧ (∀ p ∈ e.ws, p.1 ∈ e.wn) ∧ ∀ n ∈ e.wn, n ∈ e.rn := by
        intro op hop hcore
        rw [hc]
        exact core_local hcore (by rw [← hop]; exact hs2) hn
      cases hop : o.op with
      | call f xs =>
        rw [hop] at h
        simp only at h ⊢
        rw [hop] at hs2
        rcases h with h | ⟨e0, h, hu, rfl⟩
        · obtain ⟨g1, g2, g3⟩ := CallEff0_local h hs2 hn
          rw [hc]
          exact ⟨.inl g1, g2, g3⟩
        · obtain ⟨g1, g2, g3⟩ := CallEff0_local h hs2 hn
          rw [hc]
          refine ⟨.inr ⟨e0, g1, ?_, rfl⟩, fun p hp => (by cases hp), fun n hn => (by cases hn)⟩
          funext n
          by_cases hq : ∃ p ∈ e0.ws, p.1 = n
          · obtain ⟨p, hp, e⟩ := hq
            have hrn : τ.H n = σ.H n := hn n (g3 n (e ▸ g2 p hp))
            rw [updH_in e0.ws τ.H σ.H n ⟨p, hp, e⟩, hu, hrn]
          · exact updH_notin e0.ws τ.H n hq
      | _ => rw [hop] at h; exact key _ hop h

def disj (a b : List Nat) : Bool := a.all fun x => !b.contains x

theorem disj_ok {a b : List Nat} (h : disj a b = true) {x : Nat} (ha : x ∈ a) (hb : x ∈ b) : False := by
  have := List.all_eq_true.1 h x ha
  simp at this
  exact this hb

/-- Two operations whose order does not matter, as far as temporaries go. -/
def apartA (x y : AOper) : Bool :=
  (match x.d with
   | some d => !y.slots.contains d && y.d != some d
   | none => true) &&
  (match y.d with
   | some d => !x.slots.contains d
   | none => true)

def chk (prev : List (Nat × List Nat × List Nat)) (un : List Nat) (e : Ef) : Bool :=
  match un with
  | [] => true
  | _ => prev.all fun p => !un.contains p.1 || (disj p.2.2 e.rn && disj p.2.1 e.wn)

theorem chk_mem {prev : List (Nat × List Nat × List Nat)} {un : List Nat} {e : Ef} (h : chk prev un e = true) {p : Nat × List Nat × List Nat} (hp : p ∈ prev) (hu : p.1 ∈ un) : disj p.2.2 e.rn = true ∧ disj p.2.1 e.wn = true := by
  unfold chk at h
  split at h
  · cases hu
  · have := List.all_eq_true.1 h p hp
    simp [hu] at this
    exact this

theorem chk_sub {prev prev' : List (Nat × List Nat × List Nat)} {un : List Nat} {e : Ef} (h : chk prev un e = true) (hs : ∀ p ∈ prev', p ∈ prev) : chk prev' un e = true := by
  unfold chk at h ⊢
  split at h
  · rfl
  · exact List.all_eq_true.2 fun p hp => List.all_eq_true.1 h p (hs p hp)

/-- Operations in the order of the text; of two whose order is open neither touches what the other writes. -/
def DRun (P : Program) : List AOper → List (Nat × List Nat × List Nat) → (St → Prop) → St → Prop
  | [], _, K, σ => K σ
  | o :: l, prev, K, σ => ∃ e, Eff P o σ e ∧ chk prev o.un e = true ∧ DRun P l ((o.k, e.rn, e.wn) :: prev) K (σ.app o.d e)

theorem DRun_sub {P : Program} {K : St → Prop} : ∀ (l : List AOper) (prev prev' : List (Nat × List Nat × List Nat)) (σ : St), (∀ p ∈ prev', p ∈ prev) → DRun P l prev K σ → DRun P l prev' K σ
  | [], _, _, _, _, h => h
  | o :: l, prev, prev', σ, hs, h => by
    obtain ⟨e, h1, h2, h3⟩ := h
    refine ⟨e, h1, chk_sub h2 hs, DRun_sub l _ _ _ (fun p hp => ?_) h3⟩
    rcases List.mem_cons.1 hp with rfl | hp
    · simp
    · exact List.mem_cons_of_mem _ (hs p hp)

def wsAt : List (Nat × Blk) → Nat → Option Blk
  | [], _ => none
  | (m, b) :: ws, n => match wsAt ws n with
    | some b' => some b'
    | none => if n = m then some b else none

theorem updH_at : ∀ (ws : List (Nat × Blk)) (H : HMap) (n : Nat), updH H ws n = match wsAt ws n with | some b => some b | none => H n
  | [], _, _ => rfl
  | (m, b) :: ws, H, n => by
    simp only [updH, updH_at ws, wsAt]
    cases h : wsAt ws n with
    | some b' => rfl
    | none =>
      by_cases e : n = m
      · simp [e, upd]
      · simp [e, upd]

theorem wsAt_mem : ∀ {ws : List (Nat × Blk)} {n : Nat} {b : Blk}, wsAt ws n = some b → ∃ b', (n, b') ∈ ws
  | [], _, _, h => by cases h
  | (m, b0) :: ws, n, b, h => by
    simp only [wsAt] at h
    split at h
    · rename_i h1
      obtain ⟨b', hb⟩ := wsAt_mem h1
      exact ⟨b', List.mem_cons_of_mem _ hb⟩
    · split at h
      · rename_i e; subst e; exact ⟨b0, by simp⟩
      · cases h

theorem updH_comm {a b : List (Nat × Blk)} {wa wb : List Nat} (ha : ∀ p ∈ a, p.1 ∈ wa) (hb : ∀ p ∈ b, p.1 ∈ wb) (hd : disj wa wb = true) (H : HMap) : updH (updH H a) b = updH (updH H b) a := by
  funext n
  simp only [updH_at]
  cases h1 : wsAt a n with
  | none => cases h2 : wsAt b n <;> rfl
  | some x =>
    cases h2 : wsAt b n with
    | none => rfl
    | some y =>
      obtain ⟨b1, h3⟩ := wsAt_mem h1
      obtain ⟨b2, h4⟩ := wsAt_mem h2
      exact (disj_ok hd (ha (n, b1) h3) (hb (n, b2) h4)).elim

theorem updH_out {a : List (Nat × Blk)} {wa : List Nat} (ha : ∀ p ∈ a, p.1 ∈ wa) {H : HMap} {n : Nat} (hn : n ∉ wa) : updH H a n = H n := updH_ne a H n fun p hp e => hn (e ▸ ha p hp)

theorem updD_ne {t : Nat → T} {d : Option Nat} {v : T} {s : Nat} (h : d ≠ some s) : updD t d v s = t s := by
  cases d with
  | none => rfl
  | some d => exact upd_ne _ _ fun e => h (by rw [e])

theorem updD_comm {t : Nat → T} {d d' : Option Nat} {v v' : T} (h : ∀ x, d = some x → d' ≠ some x) : updD (updD t d v) d' v' = updD (updD t d' v') d v := by
  cases d with
  | none => rfl
  | some d =>
    cases d' with
    | none => rfl
    | some d' =>
      have hne : d' ≠ d := fun e => h d rfl (by rw [e])
      funext s
      simp only [updD, upd]
      by_cases e1 : s = d'
      · by_cases e2 : s = d
        · exact absurd (e1.symm.trans e2) hne
        · subst e1; simp [hne]
      · simp [e1]

theorem disj_mono {a b a' b' : List Nat} (h : disj a b = true) (ha : ∀ x ∈ a', x ∈ a) (hb : ∀ x ∈ b', x ∈ b) : disj a' b' = true :=
  List.all_eq_true.2 fun x hx => by
    by_cases hq : x ∈ b'
    · exact (disj_ok h (ha x hx) (hb x hq)).elim
    · simp [hq]

theorem swap_ok {P : Program} {x y : AOper} {σ : St} {ex ey : Ef} (hx : Eff P x σ ex) (hy : Eff P y (σ.app x.d ex) ey) (hap : apartA x y = true) (h1 : disj ex.wn ey.rn = true) (h2 : disj ex.rn ey.wn = true) :
    Eff P y σ ey ∧ Eff P x (σ.app y.d ey) ex ∧ (σ.app x.d ex).app y.d ey = (σ.app y.d ey).app x.d ex := by
  simp only [apartA, Bool.and_eq_true] at hap
  obtain ⟨ha, hb⟩ := hap
  have hdx : ∀ d, x.d = some d → d ∉ y.slots ∧ y.d ≠ some d := by
    intro d hd; rw [hd] at ha; simp at ha; exact ha
  have hdy : ∀ d, y.d = some d → d ∉ x.slots := by
    intro d hd; rw [hd] at hb; simpa using hb
  obtain ⟨_, x1, x2⟩ := Eff_local hx (fun _ _ => rfl) (fun _ _ => rfl) rfl
  obtain ⟨_, y1, y2⟩ := Eff_local hy (fun _ _ => rfl) (fun _ _ => rfl) rfl
  have hy' : Eff P y σ ey := (Eff_local (τ := σ) hy (fun s hs => (updD_ne fun e => (hdx s e).1 hs).symm) (fun n hn => (updH_out x1 fun hw => disj_ok h1 hw hn).symm) rfl).1
  have hx' : Eff P x (σ.app y.d ey) ex := (Eff_local (τ := σ.app y.d ey) hx (fun s hs => updD_ne fun e => hdy s e hs) (fun n hn => updH_out y1 fun hw => disj_ok h2 hn hw) rfl).1
  refine ⟨hy', hx', ?_⟩
  simp only [St.app]
  rw [updD_comm (fun d hd => (hdx d hd).2), updH_comm x1 y1 (disj_mono h1 (fun _ h => h) y2)]

/-- An operation that may come first may be taken first. -/
theorem move_front {P : Program} {K : St → Prop} {j : AOper} {l2 : List AOper} : ∀ (l1 : List AOper) (prev : List (Nat × List Nat × List Nat)) (σ : St), (∀ i ∈ l1, i.k ∈ j.un ∧ apartA i j = true) → DRun P (l1 ++ j :: l2) prev K σ →
    ∃ ej, Eff P j σ ej ∧ chk prev j.un ej = true ∧ DRun P (l1 ++ l2) prev K (σ.app j.d ej)
  | [], prev, σ, _, h => by
    obtain ⟨e, h1, h2, h3⟩ := h
    exact ⟨e, h1, h2, DRun_sub l2 _ _ _ (fun p hp => List.mem_cons_of_mem _ hp) h3⟩
  | i :: l1, prev, σ, hi, h => by
    obtain ⟨ei, h1, h2, h3⟩ := h
    obtain ⟨ej, h4, h5, h6⟩ := move_front l1 _ _ (fun x hx => hi x (by simp [hx])) h3
    obtain ⟨hu, hap⟩ := hi i (by simp)
    obtain ⟨d1, d2⟩ := chk_mem h5 (p := (i.k, ei.rn, ei.wn)) (by simp) hu
    obtain ⟨s1, s2, s3⟩ := swap_ok h1 h4 hap d1 d2
    refine ⟨ej, s1, chk_sub h5 fun p hp => List.mem_cons_of_mem _ hp, ei, s2, h2, ?_⟩
    rw [← s3]
    exact h6

def still (P : Program) (o : AOper) (e : Ef) (t : Nat → T) (c : Nat) (ws : List (Nat × Blk)) : Prop := ∀ H, Eff P o ⟨t, H, c⟩ e → Eff P o ⟨t, updH H ws, c⟩ e
end Go.V
namespace Go.V

def cOper (P : Program) (n : Nat) (ops : Array Oper) (k : Nat) (un : List Nat) (o : Oper) : Option AOper :=
  match compOp P o with
  | none => none
  | some op => if o.dst.all (· < n) then match o.guard with
    | none => some ⟨k, o.dst, none, un, op⟩
    | some (j, want) => match (ops[j]?).bind (·.dst) with
      | some s => some ⟨k, o.dst, some (s, want), un, op⟩
      | none => none
    else none

structure Ctx where
  w0 : World
  imm0 : Imm
  hin : HMap
  L0 : Locs
  c0 : Nat
  n : Nat

structure SimAt (X : Ctx) (σ : St) (U : Nat → Prop) (a : Act) (w : World) (imm : Imm) (L : Locs) : Prop where
  hok : HOk w imm σ.H L U
  tmp : ∀ i, TRep w imm σ.H L U (a.tmps.getD i undef) (σ.t i)
  size : X.n ≤ a.tmps.size
  defers : a.defers = []
  step : Step X.w0 X.imm0 (foot X.hin X.L0) w imm
  near : Near X.w0 (foot X.hin X.L0) σ.H L
  ext : Ext X.w0 X.hin X.L0 (· < X.c0) w σ.H L U

def Sim (X : Ctx) (σ : St) (U : Nat → Prop) (a : Act) (w : World) : Prop := ∃ imm L, SimAt X σ U a w imm L

theorem SimAt.use {X : Ctx} {σ : St} {U U' : Nat → Prop} {a : Act} {w : World} {imm : Imm} {L : Locs} (h : SimAt X σ U a w imm L) (hu : ∀ v, U v → U' v) : SimAt X σ U' a w imm L :=
  ⟨h.hok.use hu, fun i => (h.tmp i).mono (fun _ _ h => ⟨h, rfl⟩) (CRep.use (w := w) hu), h.size, h.defers, h.step, h.near, h.ext.trans (CRep.use (w := w) hu)⟩

theorem SimAt.put {X : Ctx} {σ : St} {U U' : Nat → Prop} {a : Act} {w w' : World} {imm imm' : Imm} {L L' : Locs} {e : Ef} {x : Value} (h : SimAt X σ U a w imm L) (d : Option Nat) (hd : d.all (· < X.n) = true)
    (hg : Goes w imm σ.H L U (updH σ.H e.ws) U' e.val x w' imm' L') : SimAt X (σ.app d e) U' (a.put d x) w' imm' L' := by
  obtain ⟨s1, s2⟩ := Step.trans h.step h.near hg.step hg.near
  have hold : ∀ i, TRep w' imm' (updH σ.H e.ws) L' U' (a.tmps.getD i undef) (σ.t i) := fun i => (h.tmp i).mono hg.step.keep hg.ext
  refine ⟨hg.hok, fun i => ?_, ?_, ?_, s1, s2, h.ext.trans hg.ext⟩
  · cases d with
    | none => exact hold i
    | some d =>
      have hdn : d < a.tmps.size := by simp at hd; exact Nat.lt_of_lt_of_le hd h.size
      by_cases e1 : i = d
      · subst e1
        simp only [St.app, updD, upd_same, Act.put]
        have : (a.tmps.setIfInBounds i x).getD i undef = x := by simp [hdn]
        rw [this]; exact hg.val
      · simp only [St.app, updD, upd_ne _ _ e1, Act.put]
        have : (a.tmps.setIfInBounds d x).getD i undef = a.tmps.getD i undef := by simp [Array.getElem?_setIfInBounds_ne (Ne.symm e1)]
        rw [this]; exact hold i
  · cases d <;> simp [Act.put, h.size]
  · cases d <;> simp [Act.put, h.defers]

theorem wanted_ok {P : Program} {n : Nat} {ops : Array Oper} {k : Nat} {un : List Nat} {o : Oper} {ao : AOper} (hc : cOper P n ops k un o = some ao) {X : Ctx} {σ : St} {U : Nat → Prop} {a : Act} {w : World} {imm : Imm} {L : Locs}
    (h : SimAt X σ U a w imm L) {b : Bool} (hg : gd ao.g σ.t = some b) : Region.wanted o (yielded ops a.tmps) = b := by
  unfold cOper at hc
  split at hc
  · cases hc
  · split at hc
    · split at hc
      · rename_i hgd
        cases hc
        simp [gd] at hg; subst hg
        simp [Region.wanted, hgd]
      · rename_i j want hgd
        split at hc
        · rename_i s hs
          cases hc
          simp only [gd] at hg
          have ht := h.tmp s
          have hy : yielded ops a.tmps j = match a.tmps[s]? with | some (.bool b) => some b | _ => none := by
            unfold yielded
            rw [hs]
            simp only [Option.bind_some]
            cases a.tmps[s]? with
            | none => rfl
            | some v => cases v <;> rfl
          simp only [Region.wanted, hgd, hy]
          split at hg
          · rename_i b' hb
            rw [hb] at ht
            have := rep_s ht
            cases hq : a.tmps[s]? with
            | none => simp [hq, undef] at this
            | some v =>
              simp [hq] at this
              subst this
              cases hg; cases b' <;> cases want <;> rfl
          · rename_i hb
            rw [hb] at ht
            have ht : a.tmps.getD s undef = undef := ht
            cases hg
            cases hq : a.tmps[s]? with
            | none => rfl
            | some v =>
              simp [hq] at ht
              subst ht
              rfl
          · cases hg
        · cases hc
    · cases hc

/-- One operation. -/
theorem step_op {P : Program} {n : Nat} {ops : Array Oper} {i : Nat} {un : List Nat} {o : Oper} {ao : AOper} (hc : cOper P n ops i un o = some ao) (ho : ops[i]? = some o) {X : Ctx} (hn : X.n = n) {σ : St} {U : Nat → Prop} {a : Act} {w : World}
    (h : Sim X σ U a w) {e : Ef} (he : Eff P ao σ e) (hfresh : ¬ U (σ.ctr + i)) (hb : ∃ cc, ∀ v, U v → v < cc) {Q : Exit → Act → World → Prop} {next : Act → World → Prop}
    (K : ∀ a' w', Sim X (σ.app o.dst e) (with_ U (σ.ctr + i)) a' w' → next a' w') : wpOp P ops Q i next a w := by
  obtain ⟨imm, L, h⟩ := h
  have hc0 := hc
  unfold cOper at hc
  split at hc
  · cases hc
  rename_i op hop
  split at hc
  case isFalse => cases hc
  rename_i hd
  rw [← hn] at hd
  have hao : ao.op = op ∧ ao.d = o.dst ∧ ao.k = i := by
    split at hc
    · cases hc; exact ⟨rfl, rfl, rfl⟩
    · split at hc
      · cases hc; exact ⟨rfl, rfl, rfl⟩
      · cases hc
  unfold wpOp
  simp only [ho]
  unfold Eff at he
  cases hg : gd ao.g σ.t with
  | none => simp [hg] at he
  | some b =>
    have hw := wanted_ok hc0 h hg
    simp only [hg] at he
    cases b with
    | false =>
      simp only at he
      subst he
      rw [if_neg (by simp [hw])]
      refine K _ _ ⟨imm, L, h.put o.dst hd ?_⟩
      exact ⟨rfl, h.hok.use fun _ h => .inl h, CRep.use (w := w) fun _ h => .inl h, Step.refl _ _ _, Near.refl _ _ _⟩
    | true =>
      simp only at he
      rw [if_pos hw]
      refine .inl ?_
      have key : ∀ op', op = op' → core op' (ao.d.getD 0) (σ.ctr + ao.k) σ.t σ.H = some e → o.wp P a w next Q := by
        intro op' e1 hcore
        subst e1
        rw [hao.2.2] at hcore
        obtain ⟨x, w', imm', L', hrun, hgo⟩ := core_sound hop hcore h.hok h.tmp hfresh
        unfold Oper.wp
        rcases hrun with hrun | ⟨hrun, rfl⟩
        · rw [hrun, Oper.upon_value]; exact K _ _ ⟨imm', L', h.put o.dst hd hgo⟩
        · rw [hrun, Oper.upon_skip]; exact K _ _ ⟨imm', L', h.put o.dst hd hgo⟩
      rw [hao.1] at he
      cases hop2 : op with
      | call f' args' =>
        rw [hop2] at he hop
        simp only at he
        have hcall : ∃ c f, o.op = .call c ∧ c.callee = .value f ∧ cOpd f = some f' ∧ cOpds c.args.toList = some args' := by
          replace hop := compOp_of hop (fun h => by cases h)
          unfold compOp0 compOpG envOf at hop
          dsimp only at hop
          split at hop
          case h_22 c hoc =>
            split at hop
            · split at hop
              · split at hop
                · simp only [Option.map_eq_some_iff] at hop; obtain ⟨_, _, hop⟩ := hop; cases hop
                · simp only [Option.map_eq_some_iff] at hop; obtain ⟨_, _, hop⟩ := hop; cases hop
                · cases hop
              · cases hop
            · split at hop
              · split at hop
                · split at hop
                  · split at hop
                    · split at hop <;> cases hop
                    · cases hop
                  · cases hop
                · split at hop
                  · split at hop
                    · split at hop <;> cases hop
                    · cases hop
                  · cases hop
              · cases hop
            · split at hop
              · split at hop
                · split at hop <;> cases hop
                · cases hop
              · cases hop
            · split at hop
              · split at hop <;> cases hop
              · split at hop <;> cases hop
              · cases hop
            · split at hop
              · split at hop <;> cases hop
              · cases hop
            · rename_i f hcal
              split at hop
              · rename_i f2 xs2 h1 h2; cases hop; exact ⟨c, f, hoc, hcal, h1, h2⟩
              · cases hop
            · cases hop
          all_goals
            exfalso
            revert hop
            repeat' split
            all_goals first | (intro hop; cases hop; done) | (simp only [Option.map_eq_some_iff]; rintro ⟨_, _, hop⟩; cases hop)
        obtain ⟨c, f, hoc, hcal, hf, hargs⟩ := hcall
        rw [hao.2.2] at he
        exact call_sound c f f' args' hcal hf hargs hoc he h.hok hb hfresh h.tmp fun x w' imm' L' hgo => K _ _ ⟨imm', L', h.put o.dst hd hgo⟩
      | _ => rw [hop2] at he; exact key _ hop2 he
end Go.V
namespace Go.V

def befAt (bs : List (List Nat)) (i : Nat) (o : Oper) : List Nat :=
  (List.range i).filter fun j => o.after.toList.any fun e => Region.binds .any e && (e.on == j || ((bs[e.on]?).getD []).contains j)

def befs (ops : List Oper) : List (List Nat) := ops.foldl (fun bs o => bs ++ [befAt bs bs.length o]) []

def unsOf (ops : List Oper) : List (List Nat) := (befs ops).zipIdx.map fun (b, i) => (List.range i).filter fun j => !b.contains j

def unAt (uns : List (List Nat)) (i : Nat) : List Nat := (uns[i]?).getD []

def unsOk (uns : List (List Nat)) : Nat → List Oper → Bool
  | _, [] => true
  | i, o :: os => (o.after.toList.all fun e => !Region.binds .any e || e.on < i) &&
      ((List.range i).all fun j => (unAt uns i).contains j || o.after.toList.any fun e => Region.binds .any e && (e.on == j || (decide (j < e.on) && !(unAt uns e.on).contains j))) && unsOk uns (i + 1) os

def cOpers (P : Program) (n : Nat) (ops : Array Oper) (uns : List (List Nat)) : Nat → List Oper → Option (List AOper)
  | _, [] => some []
  | i, o :: os => match cOper P n ops i (unAt uns i) o, cOpers P n ops uns (i + 1) os with
    | some x, some xs => some (x :: xs)
    | _, _ => none

def apartsOk (all : List AOper) : List AOper → Bool
  | [] => true
  | o :: os => (o.un.all fun j => match all[j]? with | some x => apartA x o | none => false) && apartsOk all os

def cReg (P : Program) (n : Nat) (ops : Array Oper) (draw : Bool) : Option (List AOper) :=
  if draw then
    let uns := unsOf ops.toList
    if unsOk uns 0 ops.toList then match cOpers P n ops uns 0 ops.toList with
      | some l => if apartsOk l l then some l else none
      | none => none
    else none
  else cOpers P n ops [] 0 ops.toList

section
variable {P : Program} {n : Nat} {ops : Array Oper} {uns : List (List Nat)}

theorem cOpers_at : ∀ {os : List Oper} {i : Nat} {l : List AOper}, cOpers P n ops uns i os = some l → l.length = os.length ∧ ∀ (j : Nat) o, os[j]? = some o → ∃ ao, l[j]? = some ao ∧ cOper P n ops (i + j) (unAt uns (i + j)) o = some ao
  | [], i, l, h => by simp [cOpers] at h; subst h; exact ⟨rfl, fun j o h => by simp at h⟩
  | o :: os, i, l, h => by
    simp only [cOpers] at h
    split at h
    · rename_i x xs h1 h2
      cases h
      obtain ⟨h3, h4⟩ := cOpers_at h2
      refine ⟨by simp [h3], fun j o' hj => ?_⟩
      cases j with
      | zero => simp at hj; subst hj; exact ⟨x, rfl, by simpa using h1⟩
      | succ j =>
        obtain ⟨ao, h5, h6⟩ := h4 j o' (by simpa using hj)
        exact ⟨ao, by simpa using h5, by rw [show i + (j + 1) = i + 1 + j from by omega]; exact h6⟩
    · cases h

theorem cOper_parts {i : Nat} {un : List Nat} {o : Oper} {ao : AOper} (h : cOper P n ops i un o = some ao) : ao.k = i ∧ ao.d = o.dst ∧ ao.un = un := by
  unfold cOper at h
  split at h
  · cases h
  · split at h
    · split at h
      · cases h; exact ⟨rfl, rfl, rfl⟩
      · split at h
        · cases h; exact ⟨rfl, rfl, rfl⟩
        · cases h
    · cases h

theorem unsOk_at : ∀ {os : List Oper} {i : Nat}, unsOk uns i os = true → ∀ (j : Nat) o, os[j]? = some o →
    (∀ e ∈ o.after, Region.binds .any e = true → e.on < i + j) ∧ ∀ k, k < i + j → k ∈ unAt uns (i + j) ∨ ∃ e ∈ o.after, Region.binds .any e = true ∧ (e.on = k ∨ (k < e.on ∧ k ∉ unAt uns e.on))
  | [], i, _, j, o, h => by simp at h
  | o0 :: os, i, h, j, o, hj => by
    simp only [unsOk, Bool.and_eq_true] at h
    obtain ⟨⟨h1, h2⟩, h3⟩ := h
    cases j with
    | zero =>
      simp at hj; subst hj
      refine ⟨fun e he hb => ?_, fun k hk => ?_⟩
      · have := List.all_eq_true.1 h1 e (by simpa using he)
        simp [hb] at this; simpa using this
      · have := List.all_eq_true.1 h2 k (by simpa using hk)
        simp only [Bool.or_eq_true, List.any_eq_true, Bool.and_eq_true] at this
        rcases this with h | ⟨e, he, hb, h⟩
        · exact .inl (by simpa using h)
        · refine .inr ⟨e, by simpa using he, hb, ?_⟩
          rcases h with h | h
          · exact .inl (by simpa using h)
          · exact .inr (by simpa using h)
    | succ j =>
      have := unsOk_at h3 j o (by simpa using hj)
      rw [show i + 1 + j = i + (j + 1) from by omega] at this
      exact this

theorem apartsOk_at {all : List AOper} : ∀ {l : List AOper}, apartsOk all l = true → ∀ o ∈ l, ∀ j ∈ o.un, ∃ x, all[j]? = some x ∧ apartA x o = true
  | [], _, o, h, _, _ => by cases h
  | o0 :: l, h, o, ho, j, hj => by
    simp only [apartsOk, Bool.and_eq_true] at h
    rcases List.mem_cons.1 ho with rfl | ho
    · have := List.all_eq_true.1 h.1 j hj
      split at this
      · rename_i x hx; exact ⟨x, hx, this⟩
      · cases this
    · exact apartsOk_at h.2 o ho j hj
end

theorem SimAt.drew {X : Ctx} {σ : St} {U : Nat → Prop} {a : Act} {w : World} {imm : Imm} {L : Locs} (h : SimAt X σ U a w imm L) : SimAt X σ U a w.drew imm L := by
  have hk : ∀ b o, imm b o → imm b o ∧ w.drew.cell? ⟨b, o, none⟩ = w.cell? ⟨b, o, none⟩ := fun _ _ h => ⟨h, rfl⟩
  have he : Ext w σ.H L U w.drew σ.H L U := ⟨fun _ h => h, fun _ _ ty cs _ h => ⟨ty, cs, h, rfl⟩, fun _ _ wr _ _ es _ h => ⟨wr, es, h, Nat.le_refl _, rfl⟩, fun _ _ _ _ _ _ _ cur _ _ _ h => ⟨cur, h, rfl⟩,
    fun _ _ wr _ _ es op _ h => ⟨wr, es, op, h, Nat.le_refl _, rfl⟩, fun _ _ _ _ _ _ _ _ cur _ _ _ h => ⟨cur, h, rfl⟩⟩
  obtain ⟨h1, _⟩ := h.hok.frame (w' := w.drew) (imm' := imm) hk (Nat.le_refl _) (fun _ _ _ _ => rfl) (fun _ _ _ _ _ h => h) (fun b o hi => h.hok.imm b o hi)
  exact ⟨h1, fun i => (h.tmp i).mono hk he, h.size, h.defers, ⟨h.step.os, h.step.tape, h.step.output, h.step.size, h.step.frame, h.step.keep, h.step.grew⟩, h.near, h.ext.trans he⟩

section
variable {P : Program} {X : Ctx} {ops : Array Oper} {Q : Exit → Act → World → Prop} {K : St → Prop}

theorem text_ok {D : List AOper → St → Prop} (d0 : ∀ σ, D [] σ → K σ) (d1 : ∀ o l σ, D (o :: l) σ → ∃ e, Eff P o σ e ∧ D l (σ.app o.d e)) {l : List AOper} (hl : cOpers P X.n ops [] 0 ops.toList = some l) (c : Nat) (hK : ∀ σ' a' w', σ'.ctr = c → Sim X σ' (· < c + ops.size) a' w' → K σ' → Q .normal a' w') :
    ∀ (m k : Nat) (σ : St) (U : Nat → Prop) (a : Act) (w : World), k + m = ops.size → σ.ctr = c → (∀ v, U v → v < c + k) → Sim X σ U a w → D (l.drop k) σ → wpOps P ops Q (List.range' k m) a w := by
  intro m
  obtain ⟨hlen, hat⟩ := cOpers_at hl
  induction m with
  | zero =>
    intro k σ U a w hk hc hU hS hD
    have : l.drop k = [] := by apply List.drop_eq_nil_of_le; rw [hlen, Array.length_toList]; omega
    rw [this] at hD
    simp only [List.range'_zero, wpOps]
    obtain ⟨imm, L, hS⟩ := hS
    exact hK σ a w hc ⟨imm, L, hS.use fun v hv => by have := hU v hv; omega⟩ (d0 _ hD)
  | succ m ih =>
    intro k σ U a w hk hc hU hS hD
    have hlt : k < ops.toList.length := by simp; omega
    obtain ⟨ao, h1, h2⟩ := hat k ops.toList[k] (List.getElem?_eq_getElem hlt)
    simp only [Nat.zero_add] at h2
    have hop : ops[k]? = some ops.toList[k] := by rw [← Array.getElem?_toList]; exact List.getElem?_eq_getElem hlt
    have hdrop : l.drop k = ao :: l.drop (k + 1) := by
      have hkl := (List.getElem?_eq_some_iff.1 h1)
      obtain ⟨hkl, rfl⟩ := hkl
      exact List.drop_eq_getElem_cons hkl
    rw [hdrop] at hD
    obtain ⟨e, he, hD⟩ := d1 _ _ _ hD
    rw [List.range'_succ, wpOps_cons]
    obtain ⟨_, hd, _⟩ := cOper_parts h2
    rw [hd] at hD
    refine step_op h2 hop rfl hS he (fun hu => by have := hU _ hu; rw [hc] at this; omega) ⟨c + k, hU⟩ fun a' w' hS' => ?_
    exact ih (k + 1) (σ.app _ e) (with_ U (σ.ctr + k)) a' w' (by omega) hc (fun v hv => by
      rcases hv with hv | hv
      · have := hU v hv; omega
      · rw [hv, hc]; omega) hS' hD

theorem draw_ok {D : List AOper → St → Prop} (d0 : ∀ σ, D [] σ → K σ) (d1 : ∀ l1 j l2 σ, (∀ i ∈ l1, i.k ∈ j.un ∧ apartA i j = true) → D (l1 ++ j :: l2) σ → ∃ e, Eff P j σ e ∧ D (l1 ++ l2) (σ.app j.d e)) {l : List AOper} {uns : List (List Nat)} (hu : unsOk uns 0 ops.toList = true) (hl : cOpers P X.n ops uns 0 ops.toList = some l) (hap : apartsOk l l = true) (c : Nat)
    (hK : ∀ σ' a' w', σ'.ctr = c → Sim X σ' (· < c + ops.size) a' w' → K σ' → Q .normal a' w') :
    ∀ (fuel : Nat) (listed : Array Bool) (σ : St) (U : Nat → Prop) (a : Act) (w : World), listed.size = ops.size → (l.filter fun x => !listed.getD x.k true).length = fuel → σ.ctr = c →
      (∀ (i : Nat) o, ops[i]? = some o → listed.getD i false = true → ∀ e ∈ o.after, Region.binds .any e = true → listed.getD e.on false = true) →
      (∀ v, U v → v < c ∨ ∃ i, listed.getD i false = true ∧ v = c + i) → Sim X σ U a w → D (l.filter fun x => !listed.getD x.k true) σ → wpAny P .any ops Q fuel listed a w := by
  obtain ⟨hlen0, hat⟩ := cOpers_at hl
  have hlen : l.length = ops.size := by simpa using hlen0
  have hat' : ∀ (i : Nat) o, ops[i]? = some o → ∃ ao, l[i]? = some ao ∧ cOper P X.n ops i (unAt uns i) o = some ao := by
    intro i o ho
    have := hat i o (by rw [Array.getElem?_toList]; exact ho)
    simpa using this
  have hun : ∀ (j : Nat) o, ops[j]? = some o → (∀ e ∈ o.after, Region.binds .any e = true → e.on < j) ∧ ∀ k, k < j → k ∈ unAt uns j ∨ ∃ e ∈ o.after, Region.binds .any e = true ∧ (e.on = k ∨ (k < e.on ∧ k ∉ unAt uns e.on)) := by
    intro j o ho
    have := unsOk_at hu j o (by rw [Array.getElem?_toList]; exact ho)
    simpa using this
  have hkey : ∀ (i : Nat) x, l[i]? = some x → x.k = i ∧ ∃ o, ops[i]? = some o ∧ cOper P X.n ops i (unAt uns i) o = some x := by
    intro i x hx
    have hi : i < ops.size := by rw [← hlen]; exact (List.getElem?_eq_some_iff.1 hx).1
    obtain ⟨ao, h1, h2⟩ := hat' i ops[i] (Array.getElem?_eq_getElem hi)
    rw [hx] at h1; cases h1
    exact ⟨(cOper_parts h2).1, ops[i], Array.getElem?_eq_getElem hi, h2⟩
  have hmem : ∀ x ∈ l, ∃ o, l[x.k]? = some x ∧ ops[x.k]? = some o := by
    intro x hx
    obtain ⟨i, hi, rfl⟩ := List.getElem_of_mem hx
    obtain ⟨h1, o, h2, _⟩ := hkey i _ (List.getElem?_eq_getElem hi)
    exact ⟨o, by rw [h1]; exact List.getElem?_eq_getElem hi, by rw [h1]; exact h2⟩
  have getD_eq : ∀ (listed : Array Bool) (i : Nat), listed.size = ops.size → i < ops.size → listed.getD i true = listed.getD i false := by
    intro listed i hs hi
    simp [hs, hi]
  intro fuel
  induction fuel with
  | zero =>
    intro listed σ U a w hsz hf hc hcl hU hS hD
    have hnil : (l.filter fun x => !listed.getD x.k true) = [] := List.eq_nil_of_length_eq_zero hf
    rw [hnil] at hD
    refine ⟨?_, ?_⟩
    · cases hr : Region.ready .any ops listed with
      | nil => rfl
      | cons i r =>
        have hi : i ∈ Region.ready .any ops listed := by rw [hr]; simp
        obtain ⟨h1, o, ho, _⟩ := mem_ready.1 hi
        obtain ⟨ao, h2, h3⟩ := hat' i o ho
        have : ao ∈ l.filter fun x => !listed.getD x.k true := List.mem_filter.2 ⟨List.mem_of_getElem? h2, by rw [(cOper_parts h3).1]; simpa using h1⟩
        rw [hnil] at this; cases this
    · obtain ⟨imm, L, hS⟩ := hS
      refine hK σ a w hc ⟨imm, L, hS.use fun v hv => ?_⟩ (d0 _ hD)
      rcases hU v hv with h | ⟨i, h1, h2⟩
      · omega
      · have : i < listed.size := by
          rcases Nat.lt_or_ge i listed.size with h | h
          · exact h
          · simp [Array.getElem?_eq_none h] at h1
        omega
  | succ fuel ih =>
    intro listed σ U a w hsz hf hc hcl hU hS hD
    -- what is listed is closed also over what only comes before in the end
    have hclosed : ∀ (m : Nat) k, listed.getD m false = true → k < m → k ∉ unAt uns m → m < ops.size → listed.getD k false = true := by
      intro m
      induction m using Nat.strongRecOn with
      | _ m ihm =>
        intro k hm hkm hku hms
        obtain ⟨g1, g2⟩ := hun m ops[m] (Array.getElem?_eq_getElem hms)
        rcases g2 k hkm with h | ⟨e, he, hb, h⟩
        · exact absurd h hku
        · have hl2 := hcl m ops[m] (Array.getElem?_eq_getElem hms) hm e he hb
          rcases h with h | ⟨h, h'⟩
          · rw [← h]; exact hl2
          · have := g1 e he hb
            exact ihm e.on this k hl2 h h' (by omega)
    refine ⟨fun hr => ?_, fun i hi => ?_⟩
    · exfalso
      have hex : ∃ i, i < ops.size ∧ listed.getD i true = false := by
        cases hR : (l.filter fun x => !listed.getD x.k true) with
        | nil => rw [hR] at hf; simp at hf
        | cons x r =>
          have hx : x ∈ l.filter fun x => !listed.getD x.k true := by rw [hR]; simp
          obtain ⟨h1, h2⟩ := List.mem_filter.1 hx
          obtain ⟨o, _, h3⟩ := hmem x h1
          exact ⟨x.k, (Array.getElem?_eq_some_iff.1 h3).1, by simpa using h2⟩
      obtain ⟨i, hi1, hi2⟩ := hex
      have hmin : ∀ i, i < ops.size → listed.getD i true = false → ∃ m, m < ops.size ∧ listed.getD m true = false ∧ ∀ k, k < m → listed.getD k true = true := by
        intro i
        induction i using Nat.strongRecOn with
        | _ i ihi =>
          intro h1 h2
          by_cases hq : ∃ k, k < i ∧ listed.getD k true = false
          · obtain ⟨k, hk1, hk2⟩ := hq
            exact ihi k hk1 (by omega) hk2
          · exact ⟨i, h1, h2, fun k hk => by
              cases hv : listed.getD k true with
              | true => rfl
              | false => exact absurd ⟨k, hk, hv⟩ hq⟩
      obtain ⟨m, hm1, hm2, hm3⟩ := hmin i hi1 hi2
      have : m ∈ Region.ready .any ops listed := mem_ready.2 ⟨hm2, ops[m], Array.getElem?_eq_getElem hm1, fun e he hb => by
        have := (hun m ops[m] (Array.getElem?_eq_getElem hm1)).1 e he hb
        rw [← getD_eq listed e.on hsz (by omega)]
        exact hm3 e.on this⟩
      rw [hr] at this; cases this
    · obtain ⟨h1, o, ho, hdeps⟩ := mem_ready.1 hi
      obtain ⟨ao, h2, h3⟩ := hat' i o ho
      have hio : i < ops.size := (Array.getElem?_eq_some_iff.1 ho).1
      obtain ⟨p1, p2, p3⟩ := cOper_parts h3
      have hil := List.getElem?_eq_some_iff.1 h2
      obtain ⟨hil, hie⟩ := hil
      have hsplit : l = l.take i ++ ao :: l.drop (i + 1) := by
        rw [← hie, ← List.drop_eq_getElem_cons hil, List.take_append_drop]
      have hfil : (l.filter fun x => !listed.getD x.k true) = (l.take i).filter (fun x => !listed.getD x.k true) ++ ao :: (l.drop (i + 1)).filter (fun x => !listed.getD x.k true) := by
        conv => lhs; rw [hsplit]
        rw [List.filter_append, List.filter_cons_of_pos (by rw [p1]; simpa using h1)]
      have hne1 : ∀ x ∈ l.take i, x.k ≠ i ∧ x.k < i := by
        intro x hx
        obtain ⟨j, hj, rfl⟩ := List.getElem_of_mem hx
        simp at hj
        obtain ⟨q1, _⟩ := hkey j (l.take i)[j] (by rw [List.getElem_take]; exact List.getElem?_eq_getElem (by omega))
        omega
      have hne2 : ∀ x ∈ l.drop (i + 1), x.k ≠ i := by
        intro x hx
        obtain ⟨j, hj, rfl⟩ := List.getElem_of_mem hx
        simp at hj
        obtain ⟨q1, _⟩ := hkey (i + 1 + j) (l.drop (i + 1))[j] (by rw [List.getElem_drop]; exact List.getElem?_eq_getElem (by omega))
        omega
      have hset : ∀ k, k ≠ i → (listed.setIfInBounds i true).getD k true = listed.getD k true := fun k hk => by
        simp [Array.getElem?_setIfInBounds_ne (Ne.symm hk)]
      have hset2 : ∀ k, k ≠ i → (listed.setIfInBounds i true).getD k false = listed.getD k false := fun k hk => by
        simp [Array.getElem?_setIfInBounds_ne (Ne.symm hk)]
      have hseti : ∀ b, (listed.setIfInBounds i true).getD i b = true := fun b => by simp [hsz, hio]
      have hfil' : (l.filter fun x => !(listed.setIfInBounds i true).getD x.k true) = (l.take i).filter (fun x => !listed.getD x.k true) ++ (l.drop (i + 1)).filter (fun x => !listed.getD x.k true) := by
        conv => lhs; rw [hsplit]
        rw [List.filter_append, List.filter_cons_of_neg (by rw [p1, hseti]; simp)]
        congr 1
        · exact List.filter_congr fun x hx => by rw [hset _ (hne1 x hx).1]
        · exact List.filter_congr fun x hx => by rw [hset _ (hne2 x hx)]
      rw [hfil] at hD hf
      have hfree : ∀ x ∈ (l.take i).filter (fun x => !listed.getD x.k true), x.k ∈ ao.un ∧ apartA x ao = true := by
        intro x hx
        obtain ⟨hx1, hx2⟩ := List.mem_filter.1 hx
        have hxl : x ∈ l := List.mem_of_mem_take hx1
        have hxk := (hne1 x hx1).2
        have hxun : listed.getD x.k false = false := by rw [← getD_eq listed x.k hsz (by omega)]; simpa using hx2
        have hin : x.k ∈ unAt uns i := by
          rcases (hun i o ho).2 x.k hxk with h | ⟨e, he, hb, h⟩
          · exact h
          · have hl2 := hdeps e he hb
            rcases h with h | ⟨h, h'⟩
            · rw [← h, hl2] at hxun; cases hxun
            · have hes : e.on < ops.size := by have := (hun i o ho).1 e he hb; omega
              rw [hclosed e.on x.k hl2 h h' hes] at hxun; cases hxun
        rw [p3]
        refine ⟨hin, ?_⟩
        obtain ⟨y, hy1, hy2⟩ := apartsOk_at hap ao (List.mem_of_getElem? h2) x.k (by rw [p3]; exact hin)
        obtain ⟨_, hy3, _⟩ := hmem x hxl
        rw [hy3] at hy1; cases hy1
        exact hy2
      obtain ⟨ej, he, hD'⟩ := d1 _ _ _ σ hfree hD
      rw [p2] at hD'
      refine step_op h3 ho rfl hS he (fun hu => ?_) ⟨c + ops.size, fun v hv => ?_⟩ fun a' w' hS' => ?_
      · rw [hc] at hu
        rcases hU _ hu with h | ⟨k, hk1, hk2⟩
        · omega
        · have : k = i := by omega
          subst this
          rw [← getD_eq listed k hsz hio, h1] at hk1; cases hk1
      · rcases hU v hv with h | ⟨k, hk1, hk2⟩
        · omega
        · have : k < listed.size := by
            rcases Nat.lt_or_ge k listed.size with h | h
            · exact h
            · simp [Array.getElem?_eq_none h] at hk1
          omega
      · refine ih (listed.setIfInBounds i true) (σ.app o.dst ej) (with_ U (σ.ctr + i)) a' w' (by simpa using hsz) ?_ hc ?_ ?_ hS' (by rw [hfil']; exact hD')
        · rw [hfil']; simp at hf ⊢; omega
        · intro j oj hj hlj e he hb
          have hmono : ∀ k, listed.getD k false = true → (listed.setIfInBounds i true).getD k false = true := fun k hk => by
            by_cases e1 : k = i
            · subst e1; exact hseti false
            · rw [hset2 k e1]; exact hk
          by_cases e1 : j = i
          · subst e1
            rw [ho] at hj; cases hj
            exact hmono _ (hdeps e he hb)
          · rw [hset2 j e1] at hlj
            exact hmono _ (hcl j oj hj hlj e he hb)
        · intro v hv
          rcases hv with hv | hv
          · rcases hU v hv with h | ⟨k, hk1, hk2⟩
            · exact .inl h
            · refine .inr ⟨k, ?_, hk2⟩
              by_cases e1 : k = i
              · subst e1; exact hseti false
              · rw [hset2 k e1]; exact hk1
          · exact .inr ⟨i, hseti false, by rw [hv, hc]⟩

/-- A region, whatever its order. -/
theorem regionD_ok {D : List AOper → St → Prop} (d0 : ∀ σ, D [] σ → K σ) (d1 : ∀ l1 j l2 σ, (∀ i ∈ l1, i.k ∈ j.un ∧ apartA i j = true) → D (l1 ++ j :: l2) σ → ∃ e, Eff P j σ e ∧ D (l1 ++ l2) (σ.app j.d e)) {id : Nat} {draw : Bool} {l : List AOper} (hm : P.follows .mixedOrders = true) (hl : cReg P X.n ops draw = some l) {σ : St} {a : Act} {w : World} (hS : Sim X σ (· < σ.ctr) a w)
    (hK : ∀ σ' a' w', σ'.ctr = σ.ctr → Sim X σ' (· < σ.ctr + ops.size) a' w' → K σ' → Q .normal a' w') (hD : D l σ) : (Code.region id ops draw).wp P Q a w := by
  unfold cReg at hl
  cases draw with
  | false =>
    simp only [Bool.false_eq_true, if_false] at hl
    refine wp_region ?_
    rw [List.range_eq_range']
    exact text_ok d0 (fun o l σ h => d1 [] o l σ (fun i hi => by cases hi) h) hl σ.ctr hK ops.size 0 σ _ a w (by omega) rfl (fun v hv => by simpa using hv) hS (by simpa using hD)
  | true =>
    simp only [if_true] at hl
    split at hl
    · rename_i hu
      split at hl
      · rename_i l' hl'
        split at hl
        · rename_i hap
          cases hl
          refine wp_region_any hm ?_
          obtain ⟨imm, L, hS⟩ := hS
          have hgf : ∀ i, (Array.replicate ops.size false).getD i false = false := fun i => by
            simp [Array.getElem?_replicate]; split <;> rfl
          have hall : (l.filter fun x => !(Array.replicate ops.size false).getD x.k true) = l := by
            refine List.filter_eq_self.2 fun x hx => ?_
            obtain ⟨hlen0, hat⟩ := cOpers_at hl'
            have hlen : l.length = ops.size := by simpa using hlen0
            obtain ⟨i, hi, rfl⟩ := List.getElem_of_mem hx
            obtain ⟨ao, h1, h2⟩ := hat i ops[i] (by rw [Array.getElem?_toList]; exact Array.getElem?_eq_getElem (by omega))
            rw [List.getElem?_eq_getElem hi] at h1; cases h1
            have := (cOper_parts h2).1
            simp only [Nat.zero_add] at this
            rw [this]
            simp [show i < ops.size by omega]
          refine draw_ok d0 d1 hu hl' hap σ.ctr hK ops.size (Array.replicate ops.size false) σ (· < σ.ctr) a w.drew (by simp) ?_ rfl ?_ (fun v hv => .inl hv) ⟨imm, L, hS.drew⟩ (by rw [hall]; exact hD)
          · rw [hall]
            simpa using (cOpers_at hl').1
          · intro i o _ hli
            rw [hgf i] at hli; cases hli
        · cases hl
      · cases hl
    · cases hl
theorem region_ok {id : Nat} {draw : Bool} {l : List AOper} (hm : P.follows .mixedOrders = true) (hl : cReg P X.n ops draw = some l) {σ : St} {a : Act} {w : World} (hS : Sim X σ (· < σ.ctr) a w)
    (hK : ∀ σ' a' w', σ'.ctr = σ.ctr → Sim X σ' (· < σ.ctr + ops.size) a' w' → K σ' → Q .normal a' w') (hD : DRun P l [] K σ) : (Code.region id ops draw).wp P Q a w :=
  regionD_ok (D := fun l σ => DRun P l [] K σ) (fun _ h => h) (fun l1 j l2 σ hf h => by obtain ⟨e, h1, _, h2⟩ := move_front l1 [] σ hf h; exact ⟨e, h1, h2⟩) hm hl hS hK hD
end
end Go.V
namespace Go.V

inductive ACode where
  | skip
  | reg (l : List AOper)
  | seq (a b : ACode)
  | cond (x : Opd) (a b : ACode)
  | block (id : Nat) (c : ACode)
  | loop (c : ACode)
  | exit (id : Nat)
  | ret

def cCode (P : Program) (n : Nat) : Code → Option ACode
  | .skip => some .skip
  | .region _ ops draw => (cReg P n ops draw).map .reg
  | .seq a b => match cCode P n a, cCode P n b with
    | some a, some b => some (.seq a b)
    | _, _ => none
  | .cond x a b => match cOpd x, cCode P n a, cCode P n b with
    | some x, some a, some b => some (.cond x a b)
    | _, _, _ => none
  | .block id c => (cCode P n c).map (.block id)
  | .loop c => (cCode P n c).map .loop
  | .exit id => some (.exit id)
  | .ret => some .ret
  | _ => none

def AW (P : Program) (X : Ctx) (ac : ACode) (Q : Exit → St → Prop) (σ : St) : Prop :=
  ∀ c, cCode P X.n c = some ac → P.follows .mixedOrders = true → ∀ a w, Sim X σ (· < σ.ctr) a w → c.wp P (fun e a' w' => ∃ σ', Q e σ' ∧ Sim X σ' (· < σ'.ctr) a' w') a w

def thenA (next : St → Prop) (Q : Exit → St → Prop) : Exit → St → Prop
  | .normal, σ => next σ
  | e, σ => Q e σ

def inBlockA (id : Nat) (Q : Exit → St → Prop) : Exit → St → Prop
  | .exit id', σ => if id' = id then Q .normal σ else Q (.exit id') σ
  | e, σ => Q e σ

section
variable {P : Program} {X : Ctx} {Q : Exit → St → Prop} {σ : St}

theorem AW.mono {ac : ACode} {Q' : Exit → St → Prop} (h : AW P X ac Q σ) (hq : ∀ e σ, Q e σ → Q' e σ) : AW P X ac Q' σ :=
  fun c hc hm a w hS => wp_mono (h c hc hm a w hS) fun e _ _ ⟨σ', h1, h2⟩ => ⟨σ', hq e σ' h1, h2⟩

theorem AW.skip (h : Q .normal σ) : AW P X .skip Q σ := by
  intro c hc _ a w hS
  cases c <;> simp only [cCode] at hc
  case skip => exact wp_skip ⟨σ, h, hS⟩
  case seq => split at hc <;> cases hc
  case cond => split at hc <;> cases hc
  all_goals first | cases hc; done | (simp only [Option.map_eq_some_iff] at hc; obtain ⟨_, _, hc⟩ := hc; cases hc)

theorem AW.exit {id : Nat} (h : Q (.exit id) σ) : AW P X (.exit id) Q σ := by
  intro c hc _ a w hS
  cases c <;> simp only [cCode] at hc
  case exit => cases hc; exact wp_exit ⟨σ, h, hS⟩
  case seq => split at hc <;> cases hc
  case cond => split at hc <;> cases hc
  all_goals first | cases hc; done | (simp only [Option.map_eq_some_iff] at hc; obtain ⟨_, _, hc⟩ := hc; cases hc)

theorem AW.ret (h : Q .ret σ) : AW P X .ret Q σ := by
  intro c hc _ a w hS
  cases c <;> simp only [cCode] at hc
  case ret => exact wp_ret ⟨σ, h, hS⟩
  case seq => split at hc <;> cases hc
  case cond => split at hc <;> cases hc
  all_goals first | cases hc; done | (simp only [Option.map_eq_some_iff] at hc; obtain ⟨_, _, hc⟩ := hc; cases hc)

theorem AW.reg {l : List AOper} (h : DRun P l [] (fun σ' => Q .normal ⟨σ'.t, σ'.H, σ'.ctr + l.length⟩) σ) : AW P X (.reg l) Q σ := by
  intro c hc hm a w hS
  cases c <;> simp only [cCode] at hc
  case region id ops draw =>
    simp only [Option.map_eq_some_iff] at hc
    obtain ⟨l', hl, hc⟩ := hc
    cases hc
    have hlen : l.length = ops.size := by
      unfold cReg at hl
      split at hl
      · simp only at hl
        split at hl
        · split at hl
          · rename_i h1
            split at hl
            · cases hl; simpa using (cOpers_at h1).1
            · cases hl
          · cases hl
        · cases hl
      · simpa using (cOpers_at hl).1
    refine region_ok hm hl hS (fun σ' a' w' hc' hS' hK => ⟨_, hK, ?_⟩) h
    obtain ⟨imm, L, hS'⟩ := hS'
    exact ⟨imm, L, hS'.hok.use fun v hv => by simp only [hc', hlen]; exact hv, fun i => (hS'.tmp i).mono (fun _ _ h => ⟨h, rfl⟩) (CRep.use (w := w') fun v hv => by simp only [hc', hlen]; exact hv), hS'.size, hS'.defers, hS'.step, hS'.near,
      hS'.ext.trans (CRep.use (w := w') fun v hv => by simp only [hc', hlen]; exact hv)⟩
  case seq => split at hc <;> cases hc
  case cond => split at hc <;> cases hc
  all_goals first | cases hc; done | (simp only [Option.map_eq_some_iff] at hc; obtain ⟨_, _, hc⟩ := hc; cases hc)

theorem AW.seq {x y : ACode} (h : AW P X x (thenA (AW P X y Q) Q) σ) : AW P X (.seq x y) Q σ := by
  intro c hc hm a w hS
  cases c <;> simp only [cCode] at hc
  case seq c1 c2 =>
    split at hc
    · rename_i x' y' h1 h2
      cases hc
      refine wp_seq (wp_mono (h c1 h1 hm a w hS) ?_)
      rintro e a' w' ⟨σ', hq, hS'⟩
      cases e with
      | normal => exact hq c2 h2 hm a' w' hS'
      | _ => exact ⟨σ', hq, hS'⟩
    · cases hc
  case cond => split at hc <;> cases hc
  all_goals first | cases hc; done | (simp only [Option.map_eq_some_iff] at hc; obtain ⟨_, _, hc⟩ := hc; cases hc)

theorem AW.cond {x : Opd} {y z : ACode} {b : Bool} (hb : ev σ.t x = .pt (.one (.v (.s (.bool b))))) (h : AW P X (if b then y else z) Q σ) : AW P X (.cond x y z) Q σ := by
  intro c hc hm a w hS
  cases c <;> simp only [cCode] at hc
  case cond o c1 c2 =>
    split at hc
    · rename_i x' y' z' h0 h1 h2
      cases hc
      obtain ⟨imm, L, hS'⟩ := hS
      have hv := cOpd_ok hS'.tmp h0
      rw [hb] at hv
      refine wp_cond (rep_s hv) ?_
      cases b
      · exact h c2 h2 hm a w ⟨imm, L, hS'⟩
      · exact h c1 h1 hm a w ⟨imm, L, hS'⟩
    · cases hc
  case seq => split at hc <;> cases hc
  all_goals first | cases hc; done | (simp only [Option.map_eq_some_iff] at hc; obtain ⟨_, _, hc⟩ := hc; cases hc)
theorem AW.block {id : Nat} {x : ACode} (h : AW P X x (inBlockA id Q) σ) : AW P X (.block id x) Q σ := by
  intro c hc hm a w hS
  cases c <;> simp only [cCode] at hc
  case block id' c1 =>
    simp only [Option.map_eq_some_iff] at hc
    obtain ⟨x', h1, hc⟩ := hc
    cases hc
    refine wp_block (wp_mono (h c1 h1 hm a w hS) ?_)
    rintro e a' w' ⟨σ', hq, hS'⟩
    cases e with
    | exit id' =>
      simp only [inBlockA] at hq
      simp only [Exit.inBlock]
      split
      · rename_i e1; rw [if_pos e1] at hq; exact ⟨σ', hq, hS'⟩
      · rename_i e1; rw [if_neg e1] at hq; exact ⟨σ', hq, hS'⟩
    | _ => exact ⟨σ', hq, hS'⟩
  case seq => split at hc <;> cases hc
  case cond => split at hc <;> cases hc
  all_goals first | cases hc; done | (simp only [Option.map_eq_some_iff] at hc; obtain ⟨_, _, hc⟩ := hc; cases hc)

theorem least {p : Nat → Prop} (h : ∃ m, p m) : ∃ m, p m ∧ ∀ k, p k → m ≤ k := by
  obtain ⟨m, hm⟩ := h
  induction m using Nat.strongRecOn with
  | _ m ih =>
    by_cases hq : ∃ k, k < m ∧ p k
    · obtain ⟨k, hk, hp⟩ := hq; exact ih k hk hp
    · exact ⟨m, hm, fun k hk => by
        rcases Nat.lt_or_ge k m with h | h
        · exact absurd ⟨k, h, hk⟩ hq
        · exact h⟩

theorem AW.loop {x : ACode} {ι : Type} (I : ι → St → Prop) (μ : ι → Nat) (i0 : ι) (h0 : I i0 σ) (round : ∀ i σ, I i σ → AW P X x (thenA (fun σ' => ∃ i', μ i' < μ i ∧ I i' σ') Q) σ) : AW P X (.loop x) Q σ := by
  intro c hc hm a w hS
  cases c <;> simp only [cCode] at hc
  case loop c1 =>
    simp only [Option.map_eq_some_iff] at hc
    obtain ⟨x', h1, hc⟩ := hc
    cases hc
    let good : Act → World → Nat → Prop := fun a w m => ∃ i σ, I i σ ∧ Sim X σ (· < σ.ctr) a w ∧ μ i = m
    have hch : ∀ a w, ∃ m, (∃ m, good a w m) → good a w m ∧ ∀ k, good a w k → m ≤ k := fun a w => by
      by_cases hq : ∃ m, good a w m
      · obtain ⟨m, hm⟩ := least hq; exact ⟨m, fun _ => hm⟩
      · exact ⟨0, fun h => absurd h hq⟩
    let ν : Act → World → Nat := fun a w => Classical.choose (hch a w)
    have hν : ∀ a w, (∃ m, good a w m) → good a w (ν a w) ∧ ∀ k, good a w k → ν a w ≤ k := fun a w => Classical.choose_spec (hch a w)
    refine wp_loop (fun a w => ∃ m, good a w m) ν ⟨μ i0, i0, σ, h0, hS, rfl⟩ ?_
    intro a w hI
    obtain ⟨⟨i, σ1, g1, g2, g3⟩, _⟩ := hν a w hI
    refine wp_mono (round i σ1 g1 c1 h1 hm a w g2) ?_
    rintro e a' w' ⟨σ', hq, hS'⟩
    cases e with
    | normal =>
      obtain ⟨i', hlt, hI'⟩ := hq
      have hg : good a' w' (μ i') := ⟨i', σ', hI', hS', rfl⟩
      refine ⟨⟨_, hg⟩, ?_⟩
      have := (hν a' w' ⟨_, hg⟩).2 _ hg
      omega
    | _ => exact ⟨σ', hq, hS'⟩
  case seq => split at hc <;> cases hc
  case cond => split at hc <;> cases hc
  all_goals first | cases hc; done | (simp only [Option.map_eq_some_iff] at hc; obtain ⟨_, _, hc⟩ := hc; cases hc)

/-! the whole function -/
inductive ARes where
  | tmp (i : Nat)
  | cell (i n : Nat) (ag : Bool)

def cRes (P : Program) : ResultVar → Option ARes
  | .tmp i => some (.tmp i)
  | .cell i ty => match sizeT P ty, isAggT P ty with
    | some n, some ag => some (.cell i n ag)
    | _, _ => none

def cRess (P : Program) : List ResultVar → Option (List ARes)
  | [] => some []
  | x :: xs => match cRes P x, cRess P xs with
    | some y, some ys => some (y :: ys)
    | _, _ => none

def resP (σ : St) : ARes → Option P1
  | .tmp i => match σ.t i with
    | .pt p => some p
    | _ => none
  | .cell i n ag => match loadT σ.H n ag (σ.t i) with
    | some (.pt p, _) => some p
    | _ => none

def resPs (σ : St) : List ARes → Option (List P1)
  | [] => some []
  | x :: xs => match resP σ x, resPs σ xs with
    | some p, some ps => some (p :: ps)
    | _, _ => none

def tupT : List P1 → T
  | [p] => .pt p
  | ps => .tup ps
def runRes (tmps : Array Value) : ResultVar → Sem Value
  | .tmp t => pure (tmps.getD t undef)
  | .cell ad t => do loadVar t (← asAddr (tmps.getD ad undef))

theorem resP_ok {a : Act} {w : World} {imm : Imm} {L : Locs} {U : Nat → Prop} (hH : HOk w imm σ.H L U) (hT : ∀ i, TRep w imm σ.H L U (a.tmps.getD i undef) (σ.t i)) {x : ResultVar} {y : ARes} (hc : cRes P x = some y) {p : P1} (hp : resP σ y = some p) :
    ∃ v, (runRes a.tmps x).run P w = .ok v w ∧ PRep w imm σ.H L U v p := by
  cases x with
  | tmp i =>
    simp [cRes] at hc; subst hc
    simp only [resP] at hp
    split at hp
    · rename_i q hq
      cases hp
      have := hT i
      rw [hq] at this
      exact ⟨_, rfl, this⟩
    · cases hp
  | cell i ty =>
    simp only [cRes] at hc
    split at hc
    · rename_i n ag h1 h2
      cases hc
      simp only [resP] at hp
      split at hp
      · rename_i q rn hq
        cases hp
        obtain ⟨b, o', y, h3, h4, h5⟩ := run_ld (P := P) ty n ag h1 h2 hH (hT i) hq
        exact ⟨y, by simp only [runRes, h3, asAddr, Sem.run_bind, Sem.run_pure, Result.andThen_ok, h4], h5⟩
      · cases hp
    · cases hc

theorem resPs_ok {a : Act} {w : World} {imm : Imm} {L : Locs} {U : Nat → Prop} (hH : HOk w imm σ.H L U) (hT : ∀ i, TRep w imm σ.H L U (a.tmps.getD i undef) (σ.t i)) : ∀ {xs : List ResultVar} {ys : List ARes}, cRess P xs = some ys → ∀ {ps : List P1}, resPs σ ys = some ps →
    ∃ vs : List Value, (xs.mapM (runRes a.tmps)).run P w = .ok vs w ∧ vs.length = ps.length ∧ ∀ (k : Nat) u y, vs[k]? = some u → ps[k]? = some y → PRep w imm σ.H L U u y
  | [], ys, hc, ps, hp => by
    simp [cRess] at hc; subst hc
    simp [resPs] at hp; subst hp
    exact ⟨[], by simp, rfl, fun k u y h => by simp at h⟩
  | x :: xs, ys, hc, ps, hp => by
    simp only [cRess] at hc
    split at hc
    · rename_i y ys' h1 h2
      cases hc
      simp only [resPs] at hp
      split at hp
      · rename_i p ps' h3 h4
        cases hp
        obtain ⟨v, h5, h6⟩ := resP_ok (P := P) hH hT h1 h3
        obtain ⟨vs, h7, h8, h9⟩ := resPs_ok hH hT h2 h4
        refine ⟨v :: vs, ?_, by simp [h8], fun k u y hu hy => ?_⟩
        · rw [List.mapM_cons, Sem.run_bind, h5, Result.andThen_ok, Sem.run_bind, h7]
          simp
        · cases k with
          | zero => simp at hu hy; subst hu; subst hy; exact h6
          | succ k => exact h9 k u y (by simpa using hu) (by simpa using hy)
      · cases hp
    · cases hc
def argsT (args : List T) : Nat → T := fun i => (args[i]?).getD .undef

/-- What a function's end has to show: its results, told as the contract tells them. -/
def Fin (R : T → HMap → Prop) (rs : List ARes) (σ : St) : Prop :=
  ∃ ps, resPs σ rs = some ps ∧ ∀ (w : World) (imm : Imm) (L : Locs) (us : List Value), HOk w imm σ.H L (· < σ.ctr) → us.length = ps.length → (∀ (k : Nat) u y, us[k]? = some u → ps[k]? = some y → PRep w imm σ.H L (· < σ.ctr) u y) →
    ∃ imm' qs H', Sealed w imm σ.H L (· < σ.ctr) (fun _ => none) H' imm' ∧ us.length = qs.length ∧ (∀ (k : Nat) u y, us[k]? = some u → qs[k]? = some y → PRep w imm' H' L (· < σ.ctr) u y) ∧ R (tupT qs) H'

def endA (F : St → Prop) : Exit → St → Prop
  | .normal, σ => F σ
  | .ret, σ => F σ
  | _, _ => False

theorem tup_rep {w : World} {imm : Imm} {H : HMap} {L : Locs} {U : Nat → Prop} {vs : List Value} {ps : List P1} (hl : vs.length = ps.length) (h : ∀ (k : Nat) u y, vs[k]? = some u → ps[k]? = some y → PRep w imm H L U u y) :
    TRep w imm H L U (if h : vs.toArray.size = 1 then vs.toArray[0] else .tuple vs.toArray) (tupT ps) := by
  match vs, ps, hl, h with
  | [], [], _, _ => exact ⟨[], rfl, rfl, fun k u y h => by simp at h⟩
  | [v], [p], _, h => exact h 0 v p rfl rfl
  | v :: v' :: vs, p :: p' :: ps, hl, h =>
    have : ¬ (v :: v' :: vs).toArray.size = 1 := by simp
    rw [dif_neg this]
    exact ⟨v :: v' :: vs, rfl, hl, h⟩

theorem ACalls.intro1 {f : FuncId} {fn : Func} {c : Code} {ac : ACode} {rs : List ARes} {args : List T} {hin : HMap} {R : T → HMap → Prop} (hf : P.funcs[f]? = some fn) (hb : fn.body = some c) (hc : cCode P fn.ntmps c = some ac) (hr : cRess P fn.results.toList = some rs)
    (hm : P.follows .mixedOrders = true) (c0 : Nat) (h : ∀ (X : Ctx), X.n = fn.ntmps → AW P X ac (endA (Fin R rs)) ⟨argsT args, hin, c0⟩) (w : World) (imm : Imm) (L : Locs) (vs : List Value) (hH : HOk w imm hin L (· < c0)) (hT : TsRep w imm hin L (· < c0) vs args) :
    Calls P f vs.toArray w fun e w' => ∃ x r h imm' L' c', e = .returned x ∧ R r h ∧ TRep w' imm' h L' (· < c') x r ∧ HOk w' imm' h L' (· < c') ∧
      Step w imm (foot hin L) w' imm' ∧ Near w (foot hin L) h L' ∧ Ext w hin L (· < c0) w' h L' (· < c') := by
  refine calls_of_wp hf hb ?_
  let X : Ctx := ⟨w, imm, hin, L, c0, fn.ntmps⟩
  refine wp_mono (h X rfl c hc hm _ w ⟨imm, L, hH, fun i => ?_, ?_, rfl, Step.refl _ _ _, Near.refl _ _ _, Ext.refl _ _ _ _⟩) ?_
  · simp only [argsT]
    cases hi : args[i]? with
    | none =>
      have : vs.length ≤ i := by rw [hT.1]; simpa using hi
      show TRep w imm hin L (· < c0) _ .undef
      show _ = undef
      simp [Array.getElem?_append, Array.getElem?_replicate, Nat.not_lt.2 this]
      split <;> rfl
    | some y =>
      have hlt : i < vs.length := by rw [hT.1]; exact (List.getElem?_eq_some_iff.1 hi).1
      have := hT.2 i vs[i] y (List.getElem?_eq_getElem hlt) hi
      simp [Array.getElem?_append, hlt]
      exact this
  · show fn.ntmps ≤ _
    simp; omega
  · rintro e a' w' ⟨σ', hq, hS⟩
    have key : Fin R rs σ' → a'.defers = [] ∧ ∃ v, (results fn a'.tmps).run P w' = .ok v w' ∧ ∃ x r h imm' L' c', Ending.returned v = .returned x ∧ R r h ∧ TRep w' imm' h L' (· < c') x r ∧ HOk w' imm' h L' (· < c') ∧
        Step w imm (foot hin L) w' imm' ∧ Near w (foot hin L) h L' ∧ Ext w hin L (· < c0) w' h L' (· < c') := by
      rintro ⟨ps, hps, hR⟩
      obtain ⟨imm', L', hS⟩ := hS
      obtain ⟨us, h1, h2, h3⟩ := resPs_ok (P := P) hS.hok hS.tmp hr hps
      refine ⟨hS.defers, (if h : us.toArray.size = 1 then us.toArray[0] else .tuple us.toArray), ?_, ?_⟩
      · have hres : results fn a'.tmps = (do let vs ← fn.results.mapM (runRes a'.tmps); pure (if h : vs.size = 1 then vs[0] else .tuple vs)) := by
          unfold results
          rfl
        rw [hres, Array.mapM_eq_mapM_toList]
        simp only [Sem.run_bind, Sem.run_map]
        refine Eq.trans (congrArg (fun q : Result (List Value) => Result.andThen (Result.andThen q fun a w' => Result.ok a.toArray w') _) h1) ?_
        simp
      · obtain ⟨imm2, qs, H', S, l2, V, hR⟩ := hR w' imm' L' us hS.hok h2 h3
        obtain ⟨s1, s2⟩ := Step.trans hS.step hS.near S.step S.near
        exact ⟨_, _, _, imm2, L', σ'.ctr, rfl, hR, tup_rep l2 V, S.hok, s1, s2, hS.ext.trans S.ext⟩
    cases e with
    | normal => exact key hq
    | ret => exact key hq
    | _ => exact hq.elim
theorem ACalls.intro {f : FuncId} {fn : Func} {c : Code} {ac : ACode} {rs : List ARes} {args : List T} {hin : HMap} {R : T → HMap → Prop} (hf : P.funcs[f]? = some fn) (hb : fn.body = some c) (hc : cCode P fn.ntmps c = some ac) (hr : cRess P fn.results.toList = some rs)
    (hm : P.follows .mixedOrders = true) (h : ∀ (X : Ctx) c0, X.n = fn.ntmps → AW P X ac (endA (Fin R rs)) ⟨argsT args, hin, c0⟩) : ACalls P f args hin R :=
  fun w imm L c0 vs hH hT => ACalls.intro1 hf hb hc hr hm c0 (fun X hX => h X c0 hX) w imm L vs hH hT
end
end Go.V
namespace Go.V
/-! Short writings of operations, and the rules by which a region is reckoned through. -/
/-- What one operation does, and then the rest. -/
def step (P : Program) (k : Nat) (d : Option Nat) (un : List Nat) (op : AOp) (l : List AOper) (prev : List (Nat × List Nat × List Nat)) (K : St → Prop) (t : Nat → T) (H : HMap) (c : Nat) : Prop :=
  match op with
  | .call f args => ∃ e, CallEff P f args (c + k) ⟨t, H, c⟩ e ∧ chk prev un e = true ∧ DRun P l ((k, e.rn, e.wn) :: prev) K (St.app ⟨t, H, c⟩ d e)
  | op => ∃ e, core op (d.getD 0) (c + k) t H = some e ∧ chk prev un e = true ∧ DRun P l ((k, e.rn, e.wn) :: prev) K (St.app ⟨t, H, c⟩ d e)

section
variable {P : Program} {K : St → Prop} {t : Nat → T} {H : HMap} {c : Nat} {l : List AOper} {prev : List (Nat × List Nat × List Nat)}

theorem DRun_mk (k : Nat) (d : Option Nat) (un : List Nat) (op : AOp) : DRun P (⟨k, d, none, un, op⟩ :: l) prev K ⟨t, H, c⟩ = step P k d un op l prev K t H c := by
  cases op <;> rfl
theorem DRun_nil : DRun P [] prev K ⟨t, H, c⟩ = K ⟨t, H, c⟩ := rfl
theorem chk_pure (prev : List (Nat × List Nat × List Nat)) (un : List Nat) (v : T) (ws : List (Nat × Blk)) : chk prev un ⟨v, ws, [], []⟩ = true := by
  unfold chk
  split
  · rfl
  · simp [disj]

theorem chk_drop (k : Nat) (prev : List (Nat × List Nat × List Nat)) (un : List Nat) (e : Ef) : chk ((k, [], []) :: prev) un e = chk prev un e := by
  unfold chk
  split
  · rfl
  · simp [disj]

theorem DRun_drop (k : Nat) : ∀ (l : List AOper) (prev prev' : List (Nat × List Nat × List Nat)) (σ : St), (∀ un e, chk prev un e = chk prev' un e) → DRun P l prev K σ = DRun P l prev' K σ
  | [], _, _, _, _ => rfl
  | o :: l, prev, prev', σ, h => by
    unfold DRun
    congr 1
    funext e
    rw [h, DRun_drop k l ((o.k, e.rn, e.wn) :: prev) ((o.k, e.rn, e.wn) :: prev') _ fun un e' => ?_]
    have := h un e'
    unfold chk at this ⊢
    split
    · rfl
    · simp only [List.all_cons] at this ⊢
      rw [this]

/-- Guards. -/
theorem DRun_on (k : Nat) (d : Option Nat) (s : Nat) (w : Bool) (un : List Nat) (op : AOp) (h : t s = .b w) : DRun P (⟨k, d, some (s, w), un, op⟩ :: l) prev K ⟨t, H, c⟩ = step P k d un op l prev K t H c := by
  rw [← DRun_mk]
  unfold DRun
  simp only [Eff, gd, h, beq_self_eq_true]
theorem DRun_off' (k : Nat) (d : Option Nat) (s : Nat) (w : Bool) (un : List Nat) (op : AOp) (h : gd (some (s, w)) t = some false) : DRun P (⟨k, d, some (s, w), un, op⟩ :: l) prev K ⟨t, H, c⟩ = DRun P l prev K ⟨updD t d .undef, H, c⟩ := by
  rw [DRun]
  simp only [Eff, h, exists_eq_left, chk_pure, true_and]
  exact DRun_drop k l _ _ _ fun un e => chk_drop k prev un e

/-- Guards, reckoned. -/
def grd (P : Program) (k : Nat) (d : Option Nat) (v : T) (w : Bool) (un : List Nat) (op : AOp) (l : List AOper) (prev : List (Nat × List Nat × List Nat)) (K : St → Prop) (t : Nat → T) (H : HMap) (c : Nat) : Prop :=
  match v, w with
  | .pt (.one (.v (.s (.bool true)))), true => step P k d un op l prev K t H c
  | .pt (.one (.v (.s (.bool false)))), false => step P k d un op l prev K t H c
  | .pt (.one (.v (.s (.bool true)))), false => DRun P l prev K ⟨updD t d .undef, H, c⟩
  | .pt (.one (.v (.s (.bool false)))), true => DRun P l prev K ⟨updD t d .undef, H, c⟩
  | .undef, _ => DRun P l prev K ⟨updD t d .undef, H, c⟩
  | _, _ => False

theorem DRun_g (k : Nat) (d : Option Nat) (s : Nat) (w : Bool) (un : List Nat) (op : AOp) (h : grd P k d (t s) w un op l prev K t H c) : DRun P (⟨k, d, some (s, w), un, op⟩ :: l) prev K ⟨t, H, c⟩ := by
  unfold grd at h
  split at h
  · rename_i h1; rw [DRun_on (h := h1)]; exact h
  · rename_i h1; rw [DRun_on (h := h1)]; exact h
  · rename_i h1; rw [DRun_off' (h := by simp [gd, h1])]; exact h
  · rename_i h1; rw [DRun_off' (h := by simp [gd, h1])]; exact h
  · rename_i h1; rw [DRun_off' (h := by simp [gd, h1])]; exact h
  · exact h.elim
theorem DRun_g_eq (k : Nat) (d : Option Nat) (s : Nat) (w : Bool) (un : List Nat) (op : AOp) : DRun P (⟨k, d, some (s, w), un, op⟩ :: l) prev K ⟨t, H, c⟩ = grd P k d (t s) w un op l prev K t H c := by
  refine propext ⟨fun h => ?_, DRun_g k d s w un op⟩
  have h2 : gd (some (s, w)) t ≠ none := by
    intro h0
    unfold DRun at h
    obtain ⟨e, h1, _⟩ := h
    simp only [Eff, h0] at h1
  cases hg : gd (some (s, w)) t with
  | none => exact absurd hg h2
  | some b =>
    have hs : (∃ b', t s = .b b' ∧ b = (b' == w)) ∨ (t s = .undef ∧ b = false) := by
      simp only [gd] at hg
      split at hg
      · rename_i b' hb'; cases hg; exact .inl ⟨b', hb', rfl⟩
      · rename_i hu; cases hg; exact .inr ⟨hu, rfl⟩
      · cases hg
    rcases hs with ⟨b', hb', rfl⟩ | ⟨hu, rfl⟩
    · by_cases hw : b' = w
      · subst hw
        rw [DRun_on (h := hb')] at h
        cases b' <;> simp only [hb', grd] <;> exact h
      · rw [DRun_off' (h := by rw [hg]; congr 1; cases b' <;> cases w <;> first | rfl | exact absurd rfl hw)] at h
        cases b' <;> cases w <;> first | exact absurd rfl hw | (simp only [hb', grd]; exact h)
    · rw [DRun_off' (h := hg)] at h
      simp only [hu, grd]; exact h
theorem step_of (k : Nat) (d : Option Nat) (un : List Nat) (op : AOp) (hop : ∀ f args, op ≠ .call f args) : step P k d un op l prev K t H c = (∃ e, core op (d.getD 0) (c + k) t H = some e ∧ chk prev un e = true ∧ DRun P l ((k, e.rn, e.wn) :: prev) K (St.app ⟨t, H, c⟩ d e)) := by
  cases op <;> first | rfl | exact absurd rfl (hop _ _)

/-- What comes behind a known effect. -/
def fin (P : Program) (k : Nat) (d : Option Nat) (un : List Nat) (l : List AOper) (prev : List (Nat × List Nat × List Nat)) (K : St → Prop) (t : Nat → T) (H : HMap) (c : Nat) : Option Ef → Prop
  | some e => chk prev un e = true ∧ DRun P l ((k, e.rn, e.wn) :: prev) K (St.app ⟨t, H, c⟩ d e)
  | none => False

theorem step_core (k : Nat) (d : Option Nat) (un : List Nat) (op : AOp) (hop : ∀ f args, op ≠ .call f args) : step P k d un op l prev K t H c = fin P k d un l prev K t H c (core op (d.getD 0) (c + k) t H) := by
  rw [step_of k d un op hop]
  cases hc : core op (d.getD 0) (c + k) t H with
  | none => simp [fin]
  | some e => simp [fin]

theorem fin_pure (k : Nat) (d : Option Nat) (un : List Nat) (v : T) : fin P k d un l prev K t H c (some (Ef.pure v)) = DRun P l prev K ⟨updD t d v, H, c⟩ := by
  simp only [fin, Ef.pure, chk_pure, true_and, St.app, updH]
  exact DRun_drop k l _ _ _ fun un e => chk_drop k prev un e
theorem fin_mk1 (k : Nat) (d : Option Nat) (un : List Nat) (v : T) (ws : List (Nat × Blk)) (r : Nat) (rn wn : List Nat) : fin P k d un l prev K t H c (some ⟨v, ws, r :: rn, wn⟩) = (chk prev un ⟨v, ws, r :: rn, wn⟩ = true ∧ DRun P l ((k, r :: rn, wn) :: prev) K ⟨updD t d v, updH H ws, c⟩) := rfl
theorem fin_mk2 (k : Nat) (d : Option Nat) (un : List Nat) (v : T) (ws : List (Nat × Blk)) (r : Nat) (wn : List Nat) : fin P k d un l prev K t H c (some ⟨v, ws, [], r :: wn⟩) = (chk prev un ⟨v, ws, [], r :: wn⟩ = true ∧ DRun P l ((k, [], r :: wn) :: prev) K ⟨updD t d v, updH H ws, c⟩) := rfl
theorem fin_mk0 (k : Nat) (d : Option Nat) (un : List Nat) (v : T) : fin P k d un l prev K t H c (some ⟨v, [], [], []⟩) = DRun P l prev K ⟨updD t d v, H, c⟩ := fin_pure ..
theorem chk_nil (prev : List (Nat × List Nat × List Nat)) (e : Ef) : chk prev [] e = true := rfl
theorem chk_cons (prev : List (Nat × List Nat × List Nat)) (u : Nat) (us : List Nat) (v : T) (ws : List (Nat × Blk)) (rn wn : List Nat) : chk prev (u :: us) ⟨v, ws, rn, wn⟩ = prev.all fun p => !(u :: us).contains p.1 || (disj p.2.2 rn && disj p.2.1 wn) := rfl

/-- Whether what is only read was written by none whose order is open. -/
def noW (un rn : List Nat) : List (Nat × List Nat × List Nat) → Bool
  | [] => true
  | (_, _, []) :: ps => noW un rn ps
  | (k, _, w :: ws) :: ps => (!un.contains k || disj (w :: ws) rn) && noW un rn ps
theorem disj_nil (a : List Nat) : disj a [] = true := by simp [disj]
theorem chk_ro (prev : List (Nat × List Nat × List Nat)) (un : List Nat) (v : T) (ws : List (Nat × Blk)) (rn : List Nat) : chk prev un ⟨v, ws, rn, []⟩ = noW un rn prev := by
  cases un with
  | nil =>
    rw [chk_nil]
    induction prev with
    | nil => rfl
    | cons p ps ih =>
      obtain ⟨k, r, w⟩ := p
      cases w with
      | nil => exact ih
      | cons w ws => simp only [noW, List.contains_nil, Bool.not_false, Bool.true_or, Bool.true_and]; exact ih
  | cons u us =>
    rw [chk_cons]
    simp only [disj_nil, Bool.and_true]
    induction prev with
    | nil => rfl
    | cons p ps ih =>
      obtain ⟨k, r, w⟩ := p
      rw [List.all_cons, ih]
      cases w with
      | nil => simp [noW, disj]
      | cons w ws => rfl
theorem noW_u0 (rn : List Nat) (ps : List (Nat × List Nat × List Nat)) : noW [] rn ps = true := by
  induction ps with
  | nil => rfl
  | cons p ps ih =>
    obtain ⟨k, r, w⟩ := p
    cases w with
    | nil => exact ih
    | cons w ws => simp only [noW, List.contains_nil, Bool.not_false, Bool.true_or, Bool.true_and]; exact ih
theorem noW_nil (un rn : List Nat) : noW un rn [] = true := rfl
theorem noW_0 (un rn : List Nat) (k : Nat) (r : List Nat) (ps : List (Nat × List Nat × List Nat)) : noW un rn ((k, r, []) :: ps) = noW un rn ps := rfl
theorem noW_1 (un rn : List Nat) (k : Nat) (r : List Nat) (w : Nat) (ws : List Nat) (ps : List (Nat × List Nat × List Nat)) : noW un rn ((k, r, w :: ws) :: ps) = ((!un.contains k || disj (w :: ws) rn) && noW un rn ps) := rfl
theorem step_mv (k : Nat) (d : Option Nat) (un : List Nat) (x : Opd) : step P k d un (.mv x) l prev K t H c = fin P k d un l prev K t H c (core (.mv x) (d.getD 0) (c + k) t H) := step_core _ _ _ _ (by intros; simp)
theorem step_pick (k : Nat) (d : Option Nat) (un : List Nat) (x y z : Opd) : step P k d un (.pick x y z) l prev K t H c = fin P k d un l prev K t H c (core (.pick x y z) (d.getD 0) (c + k) t H) := step_core _ _ _ _ (by intros; simp)
theorem step_alloc (k : Nat) (d : Option Nat) (un : List Nat) (ty : TypeId) (cs : List C) : step P k d un (.alloc ty cs) l prev K t H c = fin P k d un l prev K t H c (core (.alloc ty cs) (d.getD 0) (c + k) t H) := step_core _ _ _ _ (by intros; simp)
theorem step_box (k : Nat) (d : Option Nat) (un : List Nat) (ty : TypeId) (x : Opd) : step P k d un (.box ty x) l prev K t H c = fin P k d un l prev K t H c (core (.box ty x) (d.getD 0) (c + k) t H) := step_core _ _ _ _ (by intros; simp)
theorem step_build (k : Nat) (d : Option Nat) (un : List Nat) (z : List C) (ps : List (Nat × Nat × Opd)) : step P k d un (.build z ps) l prev K t H c = fin P k d un l prev K t H c (core (.build z ps) (d.getD 0) (c + k) t H) := step_core _ _ _ _ (by intros; simp)
theorem step_bsl (k : Nat) (d : Option Nat) (un : List Nat) (st : Nat) (ty : TypeId) (ps : List Opd) : step P k d un (.bsl st ty ps) l prev K t H c = fin P k d un l prev K t H c (core (.bsl st ty ps) (d.getD 0) (c + k) t H) := step_core _ _ _ _ (by intros; simp)
theorem step_ld (k : Nat) (d : Option Nat) (un : List Nat) (n : Nat) (ag : Bool) (x : Opd) : step P k d un (.ld n ag x) l prev K t H c = fin P k d un l prev K t H c (core (.ld n ag x) (d.getD 0) (c + k) t H) := step_core _ _ _ _ (by intros; simp)
theorem step_st (k : Nat) (d : Option Nat) (un : List Nat) (n : Nat) (x v : Opd) : step P k d un (.st n x v) l prev K t H c = fin P k d un l prev K t H c (core (.st n x v) (d.getD 0) (c + k) t H) := step_core _ _ _ _ (by intros; simp)
theorem step_nck (k : Nat) (d : Option Nat) (un : List Nat) (x : Opd) : step P k d un (.nck x) l prev K t H c = fin P k d un l prev K t H c (core (.nck x) (d.getD 0) (c + k) t H) := step_core _ _ _ _ (by intros; simp)
theorem step_bin (k : Nat) (d : Option Nat) (un : List Nat) (op : BinOp) (x y : Opd) : step P k d un (.bin op x y) l prev K t H c = fin P k d un l prev K t H c (core (.bin op x y) (d.getD 0) (c + k) t H) := step_core _ _ _ _ (by intros; simp)
theorem step_cmpA (k : Nat) (d : Option Nat) (un : List Nat) (neg : Bool) (ks : List Nat) (x y : Opd) : step P k d un (.cmpA neg ks x y) l prev K t H c = fin P k d un l prev K t H c (core (.cmpA neg ks x y) (d.getD 0) (c + k) t H) := step_core _ _ _ _ (by intros; simp)
theorem step_binB (k : Nat) (d : Option Nat) (un : List Nat) (op : BinOp) (x y : Opd) : step P k d un (.binB op x y) l prev K t H c = fin P k d un l prev K t H c (core (.binB op x y) (d.getD 0) (c + k) t H) := step_core _ _ _ _ (by intros; simp)
theorem step_un (k : Nat) (d : Option Nat) (un : List Nat) (op : UnOp) (x : Opd) : step P k d un (.un op x) l prev K t H c = fin P k d un l prev K t H c (core (.un op x) (d.getD 0) (c + k) t H) := step_core _ _ _ _ (by intros; simp)
theorem step_cnvI (k : Nat) (d : Option Nat) (un : List Nat) (i : IntKind) (x : Opd) : step P k d un (.cnvI i x) l prev K t H c = fin P k d un l prev K t H c (core (.cnvI i x) (d.getD 0) (c + k) t H) := step_core _ _ _ _ (by intros; simp)
theorem step_mkf (k : Nat) (d : Option Nat) (un : List Nat) (f : FuncId) (cs : List Opd) : step P k d un (.mkf f cs) l prev K t H c = fin P k d un l prev K t H c (core (.mkf f cs) (d.getD 0) (c + k) t H) := step_core _ _ _ _ (by intros; simp)
theorem step_mks (k : Nat) (d : Option Nat) (un : List Nat) (st : Nat) (ty : TypeId) (b : Nat) (z : List V) (m n : Opd) : step P k d un (.mks st ty b z m n) l prev K t H c = fin P k d un l prev K t H c (core (.mks st ty b z m n) (d.getD 0) (c + k) t H) := step_core _ _ _ _ (by intros; simp)
theorem step_slc (k : Nat) (d : Option Nat) (un : List Nat) (st : Nat) (x : Opd) (lo hi : Option Opd) : step P k d un (.slc st x lo hi) l prev K t H c = fin P k d un l prev K t H c (core (.slc st x lo hi) (d.getD 0) (c + k) t H) := step_core _ _ _ _ (by intros; simp)
theorem step_slc0 (k : Nat) (d : Option Nat) (un : List Nat) (x : Opd) : step P k d un (.slc0 x) l prev K t H c = fin P k d un l prev K t H c (core (.slc0 x) (d.getD 0) (c + k) t H) := step_core _ _ _ _ (by intros; simp)
theorem step_slcS (k : Nat) (d : Option Nat) (un : List Nat) (x : Opd) (lo hi : Option Opd) : step P k d un (.slcS x lo hi) l prev K t H c = fin P k d un l prev K t H c (core (.slcS x lo hi) (d.getD 0) (c + k) t H) := step_core _ _ _ _ (by intros; simp)
theorem step_fa (k : Nat) (d : Option Nat) (un : List Nat) (o : Nat) (x : Opd) : step P k d un (.fa o x) l prev K t H c = fin P k d un l prev K t H c (core (.fa o x) (d.getD 0) (c + k) t H) := step_core _ _ _ _ (by intros; simp)
theorem step_fl (k : Nat) (d : Option Nat) (un : List Nat) (o n : Nat) (ag : Bool) (x : Opd) : step P k d un (.fl o n ag x) l prev K t H c = fin P k d un l prev K t H c (core (.fl o n ag x) (d.getD 0) (c + k) t H) := step_core _ _ _ _ (by intros; simp)
theorem step_ia (k : Nat) (d : Option Nat) (un : List Nat) (st : Nat) (x i : Opd) : step P k d un (.ia st x i) l prev K t H c = fin P k d un l prev K t H c (core (.ia st x i) (d.getD 0) (c + k) t H) := step_core _ _ _ _ (by intros; simp)
theorem step_ix (k : Nat) (d : Option Nat) (un : List Nat) (x i : Opd) : step P k d un (.ix x i) l prev K t H c = fin P k d un l prev K t H c (core (.ix x i) (d.getD 0) (c + k) t H) := step_core _ _ _ _ (by intros; simp)
theorem step_ext (k : Nat) (d : Option Nat) (un : List Nat) (i : Nat) (x : Opd) : step P k d un (.ext i x) l prev K t H c = fin P k d un l prev K t H c (core (.ext i x) (d.getD 0) (c + k) t H) := step_core _ _ _ _ (by intros; simp)
theorem step_cnvBS (k : Nat) (d : Option Nat) (un : List Nat) (x : Opd) : step P k d un (.cnvBS x) l prev K t H c = fin P k d un l prev K t H c (core (.cnvBS x) (d.getD 0) (c + k) t H) := step_core _ _ _ _ (by intros; simp)
theorem step_cnvSB (k : Nat) (d : Option Nat) (un : List Nat) (x : Opd) : step P k d un (.cnvSB x) l prev K t H c = fin P k d un l prev K t H c (core (.cnvSB x) (d.getD 0) (c + k) t H) := step_core _ _ _ _ (by intros; simp)
theorem step_appS (k : Nat) (d : Option Nat) (un : List Nat) (ty : TypeId) (b : Nat) (x y : Opd) : step P k d un (.appS ty b x y) l prev K t H c = fin P k d un l prev K t H c (core (.appS ty b x y) (d.getD 0) (c + k) t H) := step_core _ _ _ _ (by intros; simp)
theorem step_isnil (k : Nat) (d : Option Nat) (un : List Nat) (neg : Bool) (x : Opd) : step P k d un (.isnil neg x) l prev K t H c = fin P k d un l prev K t H c (core (.isnil neg x) (d.getD 0) (c + k) t H) := step_core _ _ _ _ (by intros; simp)
theorem step_len (k : Nat) (d : Option Nat) (un : List Nat) (x : Opd) : step P k d un (.len x) l prev K t H c = fin P k d un l prev K t H c (core (.len x) (d.getD 0) (c + k) t H) := step_core _ _ _ _ (by intros; simp)
theorem step_mmx (k : Nat) (d : Option Nat) (un : List Nat) (mx : Bool) (x y : Opd) : step P k d un (.mmx mx x y) l prev K t H c = fin P k d un l prev K t H c (core (.mmx mx x y) (d.getD 0) (c + k) t H) := step_core _ _ _ _ (by intros; simp)
theorem step_iap (k : Nat) (d : Option Nat) (un : List Nat) (n st : Nat) (x y : Opd) : step P k d un (.iap n st x y) l prev K t H c = fin P k d un l prev K t H c (core (.iap n st x y) (d.getD 0) (c + k) t H) := step_core _ _ _ _ (by intros; simp)
theorem step_ixA (k : Nat) (d : Option Nat) (un : List Nat) (n st : Nat) (ag : Bool) (x y : Opd) : step P k d un (.ixA n st ag x y) l prev K t H c = fin P k d un l prev K t H c (core (.ixA n st ag x y) (d.getD 0) (c + k) t H) := step_core _ _ _ _ (by intros; simp)
theorem step_mm3 (k : Nat) (d : Option Nat) (un : List Nat) (x y z : Opd) : step P k d un (.mm3 x y z) l prev K t H c = fin P k d un l prev K t H c (core (.mm3 x y z) (d.getD 0) (c + k) t H) := step_core _ _ _ _ (by intros; simp)
theorem step_cpy (k : Nat) (d : Option Nat) (un : List Nat) (x y : Opd) : step P k d un (.cpy x y) l prev K t H c = fin P k d un l prev K t H c (core (.cpy x y) (d.getD 0) (c + k) t H) := step_core _ _ _ _ (by intros; simp)
theorem step_lenS (k : Nat) (d : Option Nat) (un : List Nat) (x : Opd) : step P k d un (.lenS x) l prev K t H c = fin P k d un l prev K t H c (core (.lenS x) (d.getD 0) (c + k) t H) := step_core _ _ _ _ (by intros; simp)
theorem step_app (k : Nat) (d : Option Nat) (un : List Nat) (st : Nat) (ty : TypeId) (b : Nat) (x y : Opd) : step P k d un (.app st ty b x y) l prev K t H c = fin P k d un l prev K t H c (core (.app st ty b x y) (d.getD 0) (c + k) t H) := step_core _ _ _ _ (by intros; simp)
end
end Go.V
namespace Go.V
/-! The code, reckoned through by equations. -/
def ifT : T → Prop → Prop → Prop
  | .pt (.one (.v (.s (.bool true)))), p, _ => p
  | .pt (.one (.v (.s (.bool false)))), _, q => q
  | _, _, _ => False

/-- Behind the code the state is just one, whatever the world; it is such as is asked. -/
def oneW (P : Program) (_X : Ctx) (ac : ACode) (Q : Exit → St → Prop) (σ : St) : Prop := ∃ e σ', Q e σ' ∧ ∀ X, AW P X ac (fun e1 s1 => e1 = e ∧ s1 = σ') σ

def wpa (P : Program) (X : Ctx) : ACode → (Exit → St → Prop) → St → Prop
  | .skip, Q, σ => Q .normal σ
  | .reg l, Q, σ => DRun P l [] (fun σ' => Q .normal ⟨σ'.t, σ'.H, σ'.ctr + l.length⟩) σ
  | .seq a b, Q, σ => wpa P X a (thenA (wpa P X b Q) Q) σ
  | .cond x a b, Q, σ => ifT (ev σ.t x) (wpa P X a Q σ) (wpa P X b Q σ)
  | .block id a, Q, σ => wpa P X a (inBlockA id Q) σ
  | .loop a, Q, σ => oneW P X (.loop a) Q σ
  | .exit id, Q, σ => Q (.exit id) σ
  | .ret, Q, σ => Q .ret σ

section
variable {P : Program} {X : Ctx}
theorem oneW.aw {ac : ACode} {Q : Exit → St → Prop} {σ : St} (X' : Ctx) (h : oneW P X ac Q σ) : AW P X' ac Q σ := by
  obtain ⟨e, s, h1, h2⟩ := h
  exact AW.mono (h2 X') fun _ _ h => by rw [h.1, h.2]; exact h1
theorem oneW.re {ac : ACode} {Q : Exit → St → Prop} {σ σ' : St} (hr : ∀ X Q, AW P X ac Q σ' → AW P X ac Q σ) (h : oneW P X ac Q σ') : oneW P X ac Q σ := by
  obtain ⟨e, s, h1, h2⟩ := h
  exact ⟨e, s, h1, fun X => hr X _ (h2 X)⟩
theorem DRun_one {K : St → Prop} : ∀ (l : List AOper) (prev : List (Nat × List Nat × List Nat)) (σ : St), DRun P l prev K σ → ∃ s, K s ∧ DRun P l prev (fun x => x = s) σ
  | [], _, σ, h => ⟨σ, h, rfl⟩
  | _ :: l, _, _, ⟨e, h1, h2, h3⟩ => by
    obtain ⟨s, h4, h5⟩ := DRun_one l _ _ h3
    exact ⟨s, h4, e, h1, h2, h5⟩
theorem oneW.of : ∀ {ac : ACode} {Q : Exit → St → Prop} {σ : St}, wpa P X ac Q σ → oneW P X ac Q σ
  | .skip, _, σ, h => ⟨_, σ, h, fun _ => AW.skip ⟨rfl, rfl⟩⟩
  | .reg l, _, _, h => by
    obtain ⟨s, h1, h2⟩ := DRun_one l _ _ h
    refine ⟨_, _, h1, fun X => AW.reg ?_⟩
    have : ∀ (l : List AOper) (prev : List (Nat × List Nat × List Nat)) (σ : St) (n : Nat), DRun P l prev (fun x => x = s) σ → DRun P l prev (fun x => Exit.normal = Exit.normal ∧ (⟨x.t, x.H, x.ctr + n⟩ : St) = ⟨s.t, s.H, s.ctr + n⟩) σ := by
      intro l
      induction l with
      | nil => intro _ σ n h; exact ⟨rfl, by rw [show σ = s from h]⟩
      | cons o l ih => intro prev σ n ⟨e, h1, h2, h3⟩; exact ⟨e, h1, h2, ih _ _ n h3⟩
    exact this l _ _ _ h2
  | .seq a b, Q, σ, h => by
    obtain ⟨e, s, h1, h2⟩ := oneW.of (ac := a) h
    cases e with
    | normal =>
      obtain ⟨e2, s2, h3, h4⟩ := oneW.of (ac := b) h1
      exact ⟨e2, s2, h3, fun X => AW.seq (AW.mono (h2 X) fun e1 s1 h => by obtain ⟨rfl, rfl⟩ := h; exact h4 X)⟩
    | ret => exact ⟨_, s, h1, fun X => AW.seq (AW.mono (h2 X) fun e1 s1 h => by obtain ⟨rfl, rfl⟩ := h; exact ⟨rfl, rfl⟩)⟩
    | exit id => exact ⟨_, s, h1, fun X => AW.seq (AW.mono (h2 X) fun e1 s1 h => by obtain ⟨rfl, rfl⟩ := h; exact ⟨rfl, rfl⟩)⟩
    | _ => exact ⟨_, s, h1, fun X => AW.seq (AW.mono (h2 X) fun e1 s1 h => by obtain ⟨rfl, rfl⟩ := h; exact ⟨rfl, rfl⟩)⟩
  | .cond x a b, Q, σ, h => by
    unfold wpa ifT at h
    split at h
    · rename_i h1
      obtain ⟨e, s, h2, h3⟩ := oneW.of (ac := a) h
      exact ⟨e, s, h2, fun X => AW.cond h1 (h3 X)⟩
    · rename_i h1
      obtain ⟨e, s, h2, h3⟩ := oneW.of (ac := b) h
      exact ⟨e, s, h2, fun X => AW.cond h1 (h3 X)⟩
    · exact h.elim
  | .block id a, Q, σ, h => by
    obtain ⟨e, s, h1, h2⟩ := oneW.of (ac := a) h
    have key : ∀ (e : Exit) (Q : Exit → St → Prop), inBlockA id Q e s → ∃ e', Q e' s ∧ inBlockA id (fun e1 s1 => e1 = e' ∧ s1 = s) e s := by
      intro e Q h
      cases e with
      | exit j =>
        simp only [inBlockA] at h ⊢
        split at h
        · rename_i hj; exact ⟨_, h, by simp [hj]⟩
        · rename_i hj; exact ⟨_, h, by simp [hj]⟩
      | _ => exact ⟨_, h, rfl, rfl⟩
    obtain ⟨e', h3, h4⟩ := key e Q h1
    exact ⟨e', s, h3, fun X => AW.block (AW.mono (h2 X) fun e1 s1 h => by obtain ⟨rfl, rfl⟩ := h; exact h4)⟩
  | .loop _, _, _, h => h
  | .exit _, _, σ, h => ⟨_, σ, h, fun _ => AW.exit ⟨rfl, rfl⟩⟩
  | .ret, _, σ, h => ⟨_, σ, h, fun _ => AW.ret ⟨rfl, rfl⟩⟩
inductive LTr (P : Program) (x : ACode) (e : Exit) (s : St) : Nat → St → Prop
  | stop (σ : St) (hne : e ≠ .normal) (h : ∀ X, AW P X x (fun e1 s1 => e1 = e ∧ s1 = s) σ) : LTr P x e s 0 σ
  | go (m : Nat) (σ σ1 : St) (h : ∀ X, AW P X x (fun e1 s1 => e1 = .normal ∧ s1 = σ1) σ) (hr : LTr P x e s m σ1) : LTr P x e s (m + 1) σ
theorem LTr.aw {x : ACode} {e : Exit} {s σ : St} {m : Nat} (h : LTr P x e s m σ) (X : Ctx) : AW P X (.loop x) (fun e1 s1 => e1 = e ∧ s1 = s) σ := by
  refine AW.loop (ι := Nat) (fun i σ => LTr P x e s i σ) id m h ?_
  intro i σ hi
  cases hi with
  | stop _ hne h =>
    refine AW.mono (h X) fun e1 s1 hh => ?_
    obtain ⟨rfl, rfl⟩ := hh
    cases e1 with
    | normal => exact absurd rfl hne
    | _ => exact ⟨rfl, rfl⟩
  | go m _ σ1 h hr =>
    refine AW.mono (h X) fun e1 s1 hh => ?_
    obtain ⟨rfl, rfl⟩ := hh
    exact ⟨m, Nat.lt_succ_self m, hr⟩
theorem AW.of : ∀ {ac : ACode} {Q : Exit → St → Prop} {σ : St}, wpa P X ac Q σ → AW P X ac Q σ
  | .skip, _, _, h => AW.skip h
  | .reg _, _, _, h => AW.reg h
  | .seq a b, Q, σ, h => AW.seq (AW.mono (AW.of (ac := a) h) fun e σ h => by
      cases e with
      | normal => exact AW.of (ac := b) h
      | _ => exact h)
  | .cond x a b, Q, σ, h => by
    unfold wpa ifT at h
    split at h
    · rename_i h1; exact AW.cond h1 (AW.of (ac := a) h)
    · rename_i h1; exact AW.cond h1 (AW.of (ac := b) h)
    · exact h.elim
  | .block _ a, _, _, h => AW.block (AW.of (ac := a) h)
  | .loop _, _, _, h => h.aw X
  | .exit _, _, _, h => AW.exit h
  | .ret, _, _, h => AW.ret h
def thenW (P : Program) (X : Ctx) (b : ACode) (Q : Exit → St → Prop) : Exit → St → Prop := thenA (wpa P X b Q) Q
def inW (id : Nat) (Q : Exit → St → Prop) : Exit → St → Prop := inBlockA id Q
def ifW (P : Program) (X : Ctx) (a b : ACode) (Q : Exit → St → Prop) (σ : St) (v : T) : Prop := ifT v (wpa P X a Q σ) (wpa P X b Q σ)

def lenA (l : List AOper) : Nat := l.length
def KontA (Q : Exit → St → Prop) (n : Nat) : St → Prop := fun σ => Q .normal ⟨σ.t, σ.H, σ.ctr + n⟩
variable {Q : Exit → St → Prop} {t : Nat → T} {H : HMap} {c : Nat}
theorem lenA_nil : lenA [] = 0 := rfl
theorem lenA_cons (o : AOper) (l : List AOper) : lenA (o :: l) = lenA l + 1 := rfl
theorem wpa_regA (l : List AOper) : wpa P X (.reg l) Q ⟨t, H, c⟩ = DRun P l [] (KontA Q (lenA l)) ⟨t, H, c⟩ := rfl
theorem KontA_mk (n : Nat) : KontA Q n ⟨t, H, c⟩ = Q .normal ⟨t, H, c + n⟩ := rfl
theorem wpa_skip : wpa P X .skip Q ⟨t, H, c⟩ = Q .normal ⟨t, H, c⟩ := rfl
theorem wpa_seq (a b : ACode) : wpa P X (.seq a b) Q ⟨t, H, c⟩ = wpa P X a (thenW P X b Q) ⟨t, H, c⟩ := rfl
theorem wpa_cond (x : Opd) (a b : ACode) : wpa P X (.cond x a b) Q ⟨t, H, c⟩ = ifW P X a b Q ⟨t, H, c⟩ (ev t x) := rfl
theorem wpa_block (id : Nat) (a : ACode) : wpa P X (.block id a) Q ⟨t, H, c⟩ = wpa P X a (inW id Q) ⟨t, H, c⟩ := rfl
theorem wpa_loop (a : ACode) : wpa P X (.loop a) Q ⟨t, H, c⟩ = oneW P X (.loop a) Q ⟨t, H, c⟩ := rfl
theorem wpa_exit (id : Nat) : wpa P X (.exit id) Q ⟨t, H, c⟩ = Q (.exit id) ⟨t, H, c⟩ := rfl
theorem wpa_ret : wpa P X .ret Q ⟨t, H, c⟩ = Q .ret ⟨t, H, c⟩ := rfl
theorem ifW_t (a b : ACode) (σ : St) : ifW P X a b Q σ (.pt (.one (.v (.s (.bool true))))) = wpa P X a Q σ := rfl
theorem ifW_f (a b : ACode) (σ : St) : ifW P X a b Q σ (.pt (.one (.v (.s (.bool false))))) = wpa P X b Q σ := rfl
/-! names of code, opened only where it is run -/
theorem thenW_n (b : ACode) : thenW P X b Q .normal ⟨t, H, c⟩ = wpa P X b Q ⟨t, H, c⟩ := rfl
theorem thenW_e (b : ACode) (id : Nat) (σ : St) : thenW P X b Q (.exit id) σ = Q (.exit id) σ := rfl
theorem thenW_r (b : ACode) (σ : St) : thenW P X b Q .ret σ = Q .ret σ := rfl
theorem inW_n (id : Nat) (σ : St) : inW id Q .normal σ = Q .normal σ := rfl
theorem inW_r (id : Nat) (σ : St) : inW id Q .ret σ = Q .ret σ := rfl
theorem inW_e (id id' : Nat) (σ : St) : inW id Q (.exit id') σ = if id' = id then Q .normal σ else Q (.exit id') σ := rfl
theorem thenA_n (next : St → Prop) (σ : St) : thenA next Q .normal σ = next σ := rfl
theorem thenA_e (next : St → Prop) (id : Nat) (σ : St) : thenA next Q (.exit id) σ = Q (.exit id) σ := rfl
theorem thenA_r (next : St → Prop) (σ : St) : thenA next Q .ret σ = Q .ret σ := rfl
theorem endA_n (F : St → Prop) (σ : St) : endA F .normal σ = F σ := rfl
theorem endA_r (F : St → Prop) (σ : St) : endA F .ret σ = F σ := rfl
theorem upd_at {α : Type} (t : Nat → α) (d : Nat) (v : α) (i : Nat) : upd t d v i = if i = d then v else t i := rfl
theorem updD_some (t : Nat → T) (d : Nat) (v : T) : updD t (some d) v = upd t d v := rfl
theorem updD_none (t : Nat → T) (v : T) : updD t none v = t := rfl
theorem updH_nil (H : HMap) : updH H [] = H := rfl
theorem updH_cons (H : HMap) (n : Nat) (b : Blk) (ws : List (Nat × Blk)) : updH H ((n, b) :: ws) = updH (upd H n (some b)) ws := rfl

theorem wrap64 {x : Int} (h : -9223372036854775808 ≤ x ∧ x ≤ 9223372036854775807) : IntKind.i64.wrap x = x := by
  rw [IntKind.wrap_i64]; omega

/-- A result's parts, closed where the contract says so. -/
def lendPl (H : HMap) : List P1 → List P1 → Option (List P1 × List (Nat × Blk) × List Nat)
  | [], [] => some ([], [], [])
  | .one t :: ts, .one c :: ps => match lendC H t c, lendPl H ts ps with
    | some (x, w, n), some (xs, ws, ns) => some (.one x :: xs, w ++ ws, n ++ ns)
    | _, _ => none
  | .agg t :: ts, .agg c :: ps => match lendCs H t c, lendPl H ts ps with
    | some (x, w, n), some (xs, ws, ns) => some (.agg x :: xs, w ++ ws, n ++ ns)
    | _, _ => none
  | _, _ => none

def partsT : T → List P1
  | .pt p => [p]
  | .tup ps => ps
  | _ => []

/-- The variables that are handed back, closed where the contract says so. -/
def finHs (H : HMap) : List Hand → Option HMap
  | [] => some H
  | h :: hs => match h.b', H h.c with
    | .var _ _ cs', some (.var v ty cs) => match lendCs H cs' cs with
      | some (ds, ws, _) => finHs (upd (updH H ws) h.c (some (.var v ty ds))) hs
      | none => none
    | _, _ => finHs H hs

def verAt (H : HMap) (c : Nat) : Nat := match H c with
  | some B => B.ver
  | none => 0

def handsAre (H : HMap) : List Hand → Prop
  | [] => True
  | h :: hs => (H h.c = some (verB (verAt H) (verAt H h.c) h.b') ∧ (h.keep = true → match h.b with | some b => verAt H h.c = b.ver | none => False)) ∧ handsAre H hs
theorem handsAre_mem {H : HMap} : ∀ {hs : List Hand}, handsAre H hs → ∀ h ∈ hs, H h.c = some (verB (verAt H) (verAt H h.c) h.b') ∧ (h.keep = true → ∃ b, h.b = some b ∧ verAt H h.c = b.ver)
  | [], _, _, h => by cases h
  | x :: hs, hh, h, hm => by
    rcases List.mem_cons.1 hm with rfl | hm
    · refine ⟨hh.1.1, fun hk => ?_⟩
      have := hh.1.2 hk
      cases hb : h.b with
      | none => rw [hb] at this; exact this.elim
      | some b => rw [hb] at this; exact ⟨b, rfl, this⟩
    · exact handsAre_mem hh.2 h hm

/-- A function's end. -/
def FinC (rs : List ARes) (r : T) (hs : List Hand) (σ : St) : Prop :=
  match resPs σ rs with
  | some ps => match lendPl σ.H (partsT r) ps with
    | some (qs, ws, _) => match finHs (updH σ.H ws) hs with
      | some H' => tupT qs = verT (verAt H') r ∧ handsAre H' hs
      | none => False
    | none => False
  | none => False

section
variable {w : World} {imm : Imm} {H : HMap} {L : Locs} {U : Nat → Prop}
def Blk.isVar : Blk → Bool
  | .var _ _ _ => true
  | _ => false
theorem lendC_ws {tm c u : C} {ws : List (Nat × Blk)} {ns : List Nat} (h : lendC H tm c = some (u, ws, ns)) : ∀ p ∈ ws, ∃ B, H p.1 = some B ∧ B.isVar = false := by
  cases tm with
  | v y =>
    simp only [lendC, Option.map_eq_some_iff, Prod.mk.injEq] at h
    obtain ⟨⟨y, ws', ns'⟩, h, rfl, rfl, rfl⟩ := h
    intro p hp
    cases c <;> simp [sealC] at h
    · obtain ⟨_, rfl, _⟩ := h; cases hp
    · split at h
      · rename_i hB
        split at h
        · simp only [Option.some.injEq, Prod.mk.injEq] at h
          obtain ⟨_, rfl, _⟩ := h
          simp at hp; subst hp
          exact ⟨_, hB, rfl⟩
        · cases h
      · cases h
    · obtain ⟨_, rfl, _⟩ := h; cases hp
    · split at h
      · rename_i hB
        split at h
        · simp only [Option.some.injEq, Prod.mk.injEq] at h
          obtain ⟨_, rfl, _⟩ := h
          simp at hp; subst hp
          exact ⟨_, hB, rfl⟩
        · cases h
      · cases h
    · split at h
      · rename_i hB
        split at h
        · simp only [Option.some.injEq, Prod.mk.injEq] at h
          obtain ⟨_, rfl, _⟩ := h
          simp at hp; subst hp
          exact ⟨_, hB, rfl⟩
        · cases h
      · cases h
  | _ =>
    simp only [lendC, Option.some.injEq, Prod.mk.injEq] at h
    obtain ⟨_, rfl, _⟩ := h
    intro p hp; cases hp

theorem lendCs_ws : ∀ {tms cs us : List C} {ws : List (Nat × Blk)} {ns : List Nat}, lendCs H tms cs = some (us, ws, ns) → ∀ p ∈ ws, ∃ B, H p.1 = some B ∧ B.isVar = false
  | [], [], us, ws, ns, h => by simp [lendCs] at h; obtain ⟨_, rfl, _⟩ := h; intro p hp; cases hp
  | [], _ :: _, _, _, _, h => by simp [lendCs] at h
  | _ :: _, [], _, _, _, h => by simp [lendCs] at h
  | tm :: tms, c :: cs, us, ws, ns, h => by
    simp only [lendCs] at h
    split at h
    · rename_i h1 h2
      simp only [Option.some.injEq, Prod.mk.injEq] at h
      obtain ⟨_, rfl, _⟩ := h
      intro p hp
      rcases List.mem_append.1 hp with hp | hp
      · exact lendC_ws h1 p hp
      · exact lendCs_ws h2 p hp
    · cases h

/-- The cells of a variable, told anew. -/
theorem recell (hH : HOk w imm H L U) {n v : Nat} {ty : TypeId} {cs ds : List C} (hn : H n = some (.var v ty cs)) (hc : ∀ xs, CsRep w imm H L U xs cs → CsRep w imm H L U xs ds) :
    HOk w imm (upd H n (some (.var v ty ds))) L U ∧ Ext w H L U w (upd H n (some (.var v ty ds))) L U ∧ Step w imm (foot H L) w imm ∧ Near w (foot H L) (upd H n (some (.var v ty ds))) L := by
  have hb := hH.blk n _ hn
  obtain ⟨b1, g, cur, b2, b3, b4, b5⟩ := hb
  have := upd_all (w' := w) (imm' := imm) (U' := U) hH n (.var v ty ds) (L n) (L.sub n) rfl rfl rfl (Nat.le_refl _) (fun _ _ _ => rfl) (fun _ _ h => ⟨h, rfl⟩) (fun _ _ h => .inl h)
    (fun g hg => .inr ⟨by simp [hn], hg⟩) (fun g h => (hH.sub n g (by simp [hn]) h).2) (fun _ h => h) (.inr (.inl ⟨v, ty, ds, ty, cs, rfl, hn, rfl⟩)) (fun m he hm => by
      subst hm
      rw [Locs.up_self] at he ⊢
      exact ⟨b1, g, cur, b2, b3, (hc _ b4).mono (fun _ _ h => ⟨h, rfl⟩) he, b5⟩)
  rw [Locs.up_self] at this
  exact this

theorem finHs_ok : ∀ {hs : List Hand} {imm : Imm} {H H' : HMap}, HOk w imm H L U → finHs H hs = some H' → ∃ imm', Sealed w imm H L U (fun _ => none) H' imm'
  | [], imm, H, H', hH, h => by
    simp only [finHs, Option.some.injEq] at h
    subst h
    exact ⟨imm, hH, Ext.refl _ _ _ _, ⟨fun _ _ _ _ _ _ h => (by cases h), fun _ _ _ _ _ _ _ h => (by cases h)⟩, Step.refl _ _ _, Near.refl _ _ _⟩
  | h :: hs, imm, H, H', hH, hf => by
    simp only [finHs] at hf
    split at hf
    · rename_i cs' v ty cs hb' hHc
      split at hf
      · rename_i ds ws ns hl
        obtain ⟨b1, g, cur, b2, b3, b4, b5⟩ := hH.blk _ _ hHc
        obtain ⟨imm1, S, V⟩ := lendCs_ok hH (SameA.refl _) hl b4
        have hn : updH H ws h.c = some (.var v ty cs) := by
          rw [updH_ne _ _ _ fun p hp e => ?_]
          · exact hHc
          · obtain ⟨_, h3, h4⟩ := lendCs_ws hl p hp
            rw [e, hHc] at h3; cases h3; cases h4
        have hcur : ∀ xs, CsRep w imm1 (updH H ws) L U xs cs → xs = cur.toList ∨ True := fun _ _ => .inr trivial
        have hb1 := S.hok.blk _ _ hn
        obtain ⟨c1, g', cur', c2, c3, c4, c5⟩ := hb1
        rw [b2] at c2; cases c2
        rw [b3] at c3; cases c3
        have := upd_all (w' := w) (imm' := imm1) (U' := U) S.hok h.c (.var v ty ds) (L h.c) (L.sub h.c) rfl rfl rfl (Nat.le_refl _) (fun _ _ _ => rfl) (fun _ _ h => ⟨h, rfl⟩) (fun _ _ h => .inl h)
          (fun g hg => .inr ⟨by simp [hn], hg⟩) (fun g h2 => (S.hok.sub h.c g (by simp [hn]) h2).2) (fun _ h => h) (.inr (.inl ⟨v, ty, ds, ty, cs, rfl, hn, rfl⟩)) (fun m he hm => by
            subst hm
            rw [Locs.up_self] at he ⊢
            exact ⟨c1, g, cur, b2, b3, V.mono (fun _ _ h => ⟨h, rfl⟩) he, c5⟩)
        rw [Locs.up_self] at this
        obtain ⟨k1, k2, k3, k4⟩ := this
        obtain ⟨imm2, S2⟩ := finHs_ok k1 hf
        obtain ⟨s1, s2⟩ := Step.trans S.step S.near k3 k4
        obtain ⟨s3, s4⟩ := Step.trans s1 s2 S2.step S2.near
        exact ⟨imm2, S2.hok, (S.ext.trans k2).trans S2.ext, ⟨fun _ _ _ _ _ _ h => (by cases h), fun _ _ _ _ _ _ _ h => (by cases h)⟩, s3, s4⟩
      · cases hf
    · exact finHs_ok hH hf

theorem lendPl_ok {H0 : HMap} : ∀ {ts ps : List P1} {imm : Imm} {H : HMap} (_ : HOk w imm H L U) (_ : SameA H0 H) {xs : List Value} {qs : List P1} {ws : List (Nat × Blk)} {ns : List Nat} (_ : lendPl H0 ts ps = some (qs, ws, ns))
    (_ : xs.length = ps.length) (_ : ∀ (k : Nat) u y, xs[k]? = some u → ps[k]? = some y → PRep w imm H L U u y), ∃ imm', Sealed w imm H L U H0 (updH H ws) imm' ∧ xs.length = qs.length ∧ ∀ (k : Nat) u y, xs[k]? = some u → qs[k]? = some y → PRep w imm' (updH H ws) L U u y
  | [], [], imm, H, hH, hs, xs, qs, ws, ns, h, hl, hr => by
    simp [lendPl] at h
    obtain ⟨rfl, rfl, rfl⟩ := h
    exact ⟨imm, ⟨hH, Ext.refl _ _ _ _, hs, Step.refl _ _ _, Near.refl _ _ _⟩, hl, hr⟩
  | [], _ :: _, _, _, _, _, _, _, _, _, h, _, _ => by simp [lendPl] at h
  | _ :: _, [], _, _, _, _, _, _, _, _, h, _, _ => by simp [lendPl] at h
  | .one _ :: _, .agg _ :: _, _, _, _, _, _, _, _, _, h, _, _ => by simp [lendPl] at h
  | .agg _ :: _, .one _ :: _, _, _, _, _, _, _, _, _, h, _, _ => by simp [lendPl] at h
  | .one t :: ts, .one c :: ps, imm, H, hH, hs, xs, qs, ws, ns, h, hl, hr => by
    simp only [lendPl] at h
    split at h
    · rename_i q w1 n1 qs' w2 n2 h1 h2
      simp only [Option.some.injEq, Prod.mk.injEq] at h
      obtain ⟨rfl, rfl, rfl⟩ := h
      cases xs with
      | nil => simp at hl
      | cons x xs =>
        obtain ⟨imm1, S1, V1⟩ := lendC_ok hH hs h1 (show CRep w imm H L U x c from hr 0 x (.one c) rfl rfl)
        have hk1 : ∀ b o, imm b o → imm1 b o ∧ w.cell? ⟨b, o, none⟩ = w.cell? ⟨b, o, none⟩ := fun b o h => ⟨(S1.step.keep b o h).1, rfl⟩
        obtain ⟨imm2, S2, l2, V2⟩ := lendPl_ok S1.hok S1.same h2 (xs := xs) (by simpa using hl) (fun k u y hu hy => PRep.mono hk1 S1.ext (hr (k + 1) u y (by simpa using hu) (by simpa using hy)))
        have hk2 : ∀ b o, imm1 b o → imm2 b o ∧ w.cell? ⟨b, o, none⟩ = w.cell? ⟨b, o, none⟩ := fun b o h => ⟨(S2.step.keep b o h).1, rfl⟩
        refine ⟨imm2, ?_, by simp [l2], ?_⟩
        · rw [updH_append]; exact S1.trans S2
        · rw [updH_append]
          intro k u y hu hy
          cases k with
          | zero => simp at hu hy; subst hu; subst hy; exact CRep.mono hk2 S2.ext V1
          | succ k => exact V2 k u y (by simpa using hu) (by simpa using hy)
    · cases h
  | .agg t :: ts, .agg c :: ps, imm, H, hH, hs, xs, qs, ws, ns, h, hl, hr => by
    simp only [lendPl] at h
    split at h
    · rename_i q w1 n1 qs' w2 n2 h1 h2
      simp only [Option.some.injEq, Prod.mk.injEq] at h
      obtain ⟨rfl, rfl, rfl⟩ := h
      cases xs with
      | nil => simp at hl
      | cons x xs =>
        obtain ⟨ys, hy0, hcs⟩ := (show PRep w imm H L U x (.agg c) from hr 0 x (.agg c) rfl rfl)
        obtain ⟨imm1, S1, V1⟩ := lendCs_ok hH hs h1 hcs
        have hk1 : ∀ b o, imm b o → imm1 b o ∧ w.cell? ⟨b, o, none⟩ = w.cell? ⟨b, o, none⟩ := fun b o h => ⟨(S1.step.keep b o h).1, rfl⟩
        obtain ⟨imm2, S2, l2, V2⟩ := lendPl_ok S1.hok S1.same h2 (xs := xs) (by simpa using hl) (fun k u y hu hy => PRep.mono hk1 S1.ext (hr (k + 1) u y (by simpa using hu) (by simpa using hy)))
        have hk2 : ∀ b o, imm1 b o → imm2 b o ∧ w.cell? ⟨b, o, none⟩ = w.cell? ⟨b, o, none⟩ := fun b o h => ⟨(S2.step.keep b o h).1, rfl⟩
        refine ⟨imm2, ?_, by simp [l2], ?_⟩
        · rw [updH_append]; exact S1.trans S2
        · rw [updH_append]
          intro k u y hu hy
          cases k with
          | zero => simp at hu hy; subst hu; subst hy; exact ⟨ys, hy0, V1.mono hk2 S2.ext⟩
          | succ k => exact V2 k u y (by simpa using hu) (by simpa using hy)
    · cases h
end

/-- Function f has this code and these results. -/
structure okF (P : Program) (f : FuncId) (n : Nat) (ac : ACode) (rs : List ARes) : Type where
  h : ∃ fn, P.funcs[f]? = some fn ∧ fn.ntmps = n ∧ (fn.name == "runtime.NumGoroutine") = false ∧ fn.body.bind (cCode P n) = some ac ∧ cRess P fn.results.toList = some rs

theorem FinC.fin {rs : List ARes} {r : T} {hs : List Hand} {σ : St} (hq : FinC rs r hs σ) : Fin (fun r' h' => ∃ ν : Nat → Nat, r' = verT ν r ∧ ∀ c h, renN hs c = some h → h' c = some (verB ν (ν c) h.b') ∧ (h.keep = true → ∃ b, h.b = some b ∧ ν c = b.ver)) rs σ := by
  unfold FinC at hq
  split at hq
  · rename_i ps h1
    split at hq
    · rename_i qs ws ns h2
      split at hq
      · rename_i H' h3
        obtain ⟨h4, h5⟩ := hq
        refine ⟨ps, h1, fun w imm L us hH hl hp => ?_⟩
        obtain ⟨imm1, S1, l1, V1⟩ := lendPl_ok hH (SameA.refl _) h2 hl hp
        obtain ⟨imm2, S2⟩ := finHs_ok S1.hok h3
        have hk2 : ∀ b o, imm1 b o → imm2 b o ∧ w.cell? ⟨b, o, none⟩ = w.cell? ⟨b, o, none⟩ := fun b o h => ⟨(S2.step.keep b o h).1, rfl⟩
        obtain ⟨s1, s2⟩ := Step.trans S1.step S1.near S2.step S2.near
        refine ⟨imm2, qs, H', ⟨S2.hok, S1.ext.trans S2.ext, ⟨fun _ _ _ _ _ _ h => (by cases h), fun _ _ _ _ _ _ _ h => (by cases h)⟩, s1, s2⟩, l1, fun k u y hu hy => PRep.mono hk2 S2.ext (V1 k u y hu hy), verAt H', h4, fun c h hh => ?_⟩
        obtain ⟨hm, rfl⟩ := renN_mem hh
        exact handsAre_mem h5 h hm
      · exact hq.elim
    · exact hq.elim
  · exact hq.elim

theorem ACallsF.intro0 {f : FuncId} {fn : Func} {cd : Code} {ac : ACode} {rs : List ARes} {args : List T} {hs : List Hand} {r : T} (hf : P.funcs[f]? = some fn) (hb : fn.body = some cd) (hc : cCode P fn.ntmps cd = some ac) (hr : cRess P fn.results.toList = some rs)
    (hn : (fn.name == "runtime.NumGoroutine") = false) (hm : P.follows .mixedOrders = true) (h : ∀ (X : Ctx) c0, wpa P X ac (endA (FinC rs r hs)) ⟨argsT args, hinOf hs, c0⟩) : ACallsF P f args hs r := by
  refine ⟨by simp [isFn, hf, hn, hb], ACalls.intro hf hb hc hr hm fun X c0 _ => AW.mono (AW.of (h X c0)) fun e σ hq => ?_⟩
  have key : FinC rs r hs σ → _ := FinC.fin
  cases e with
  | normal => exact key hq
  | ret => exact key hq
  | _ => exact hq

theorem ACallsF.intro {f : FuncId} {n : Nat} {ac : ACode} {rs : List ARes} {args : List T} {hs : List Hand} {r : T} (ho : okF P f n ac rs) (hm : P.follows .mixedOrders = true)
    (h : ∀ (X : Ctx) c0, wpa P X ac (endA (FinC rs r hs)) ⟨argsT args, hinOf hs, c0⟩) : ACallsF P f args hs r := by
  obtain ⟨fn, h1, rfl, h3, h4, h5⟩ := ho.h
  cases hb : fn.body with
  | none => simp [hb] at h4
  | some cd =>
    rw [hb] at h4
    exact ACallsF.intro0 h1 hb h4 h5 h3 hm h

section
variable {K : St → Prop} {t : Nat → T} {H : HMap} {c : Nat} {l : List AOper} {prev : List (Nat × List Nat × List Nat)}
theorem ev_t (i : Nat) : ev t (.t i) = t i := rfl
theorem ev_k (x : T) : ev t (.k x) = x := rfl
theorem grd_tt (k : Nat) (d : Option Nat) (un : List Nat) (op : AOp) : grd P k d (.pt (.one (.v (.s (.bool true))))) true un op l prev K t H c = step P k d un op l prev K t H c := rfl
theorem grd_ff (k : Nat) (d : Option Nat) (un : List Nat) (op : AOp) : grd P k d (.pt (.one (.v (.s (.bool false))))) false un op l prev K t H c = step P k d un op l prev K t H c := rfl
theorem grd_tf (k : Nat) (d : Option Nat) (un : List Nat) (op : AOp) : grd P k d (.pt (.one (.v (.s (.bool true))))) false un op l prev K t H c = DRun P l prev K ⟨updD t d .undef, H, c⟩ := rfl
theorem grd_ft (k : Nat) (d : Option Nat) (un : List Nat) (op : AOp) : grd P k d (.pt (.one (.v (.s (.bool false))))) true un op l prev K t H c = DRun P l prev K ⟨updD t d .undef, H, c⟩ := rfl
theorem grd_u (k : Nat) (d : Option Nat) (w : Bool) (un : List Nat) (op : AOp) : grd P k d .undef w un op l prev K t H c = DRun P l prev K ⟨updD t d .undef, H, c⟩ := by cases w <;> rfl
end
theorem argsT_nil (i : Nat) : argsT [] i = .undef := by simp [argsT]
theorem argsT_zero (x : T) (xs : List T) : argsT (x :: xs) 0 = x := rfl
theorem argsT_1 (a b : T) (xs : List T) : argsT (a :: b :: xs) 1 = b := rfl
theorem argsT_2 (a b c : T) (xs : List T) : argsT (a :: b :: c :: xs) 2 = c := rfl
theorem argsT_3 (a b c d : T) (xs : List T) : argsT (a :: b :: c :: d :: xs) 3 = d := rfl
theorem argsT_4 (a b c d e : T) (xs : List T) : argsT (a :: b :: c :: d :: e :: xs) 4 = e := rfl

/-- A call. -/
theorem callW {t : Nat → T} {H : HMap} {c : Nat} {f : Opd} {args : List Opd} {fid : FuncId} {caps : List (Nat × Nat)} {argsC as : List T} {ws : List (Nat × Blk)} {ns : List Nat} {r r' : T} {ob : List (Nat × Blk)} {k : Nat} {d : Option Nat} {un : List Nat} {l : List AOper} {prev : List (Nat × List Nat × List Nat)} {K : St → Prop} (hs : List Hand)
    (hC : ACallsF P fid argsC hs r) (hf : ev t f = .pt (.one (.fn fid caps))) (hl : lendTs H argsC (args.map (ev t) ++ caps.map capT) = some (as, ws, ns)) (ha : renITs hs argsC = some as) (hi : handsIn (updH H ws) hs hs) (hm : (hs.map (·.m)).Nodup) (hc : (hs.map (·.c)).Nodup)
    (hr : renOT hs (c + k) r = some r') (ho : renOBs hs (c + k) hs = some ob)
    (hk : chk prev un ⟨r', (if quiet r hs then [] else ws) ++ ob, ns ++ hs.map (·.m), (if quiet r hs then [] else ns) ++ hs.map (·.m)⟩ = true ∧
      DRun P l ((k, ns ++ hs.map (·.m), (if quiet r hs then [] else ns) ++ hs.map (·.m)) :: prev) K ⟨updD t d r', updH H ((if quiet r hs then [] else ws) ++ ob), c⟩) :
    step P k d un (.call f args) l prev K t H c :=
  ⟨⟨r', (if quiet r hs then [] else ws) ++ ob, ns ++ hs.map (·.m), (if quiet r hs then [] else ns) ++ hs.map (·.m)⟩, (.inl ⟨fid, caps, as, ws, ns, hs, argsC, r, r', ob, hf, hl, ha, hi, hm, hc, hC, hr, ho, rfl⟩), hk.1, hk.2⟩
def closedA : T → Bool
  | .pt p => closedP p
  | _ => false

theorem closed_C (hs : List Hand) (H : HMap) (c : C) (h : closedC c = true) : lendC H c c = some (c, [], []) ∧ renI hs c = some c ∧ ∀ nv, renO hs nv c = some c := by
  cases c <;> simp [closedC] at h
  exact ⟨by simp [lendC, sealC], rfl, fun _ => rfl⟩
theorem closed_Cs (hs : List Hand) (H : HMap) : ∀ (cs : List C), cs.all closedC = true → lendCs H cs cs = some (cs, [], []) ∧ renIs hs cs = some cs ∧ ∀ nv, renOs hs nv cs = some cs := by
  intro cs
  induction cs with
  | nil => intro _; exact ⟨rfl, rfl, fun _ => rfl⟩
  | cons c cs ih =>
    intro h
    simp only [List.all_cons, Bool.and_eq_true] at h
    obtain ⟨i1, i2, i3⟩ := ih h.2
    obtain ⟨j1, j2, j3⟩ := closed_C hs H c h.1
    exact ⟨by simp [lendCs, i1, j1], by simp [renIs, i2, j2], fun nv => by simp [renOs, i3, j3]⟩
theorem closed_P (hs : List Hand) (p : P1) (h : closedP p = true) (nv : Nat) : renOP hs nv p = some p := by
  cases p with
  | one c => simp [renOP, (closed_C hs (fun _ => none) c h).2.2 nv]
  | agg cs => simp [renOP, (closed_Cs hs (fun _ => none) cs h).2.2 nv]
theorem closed_T (hs : List Hand) (x : T) (h : closedT x = true) (nv : Nat) : renOT hs nv x = some x := by
  cases x with
  | pt p => simp [renOT, closed_P hs p h nv]
  | tup ps =>
    have hps : ∀ (cs : List P1), cs.all closedP = true → renOPs hs nv cs = some cs := by
      intro cs
      induction cs with
      | nil => intro _; rfl
      | cons c cs ih =>
        intro h
        simp only [List.all_cons, Bool.and_eq_true] at h
        simp [renOPs, ih h.2, closed_P hs c h.1 nv]
    simp [renOT, hps ps h]
  | undef => simp [closedT] at h
  | junk => simp [closedT] at h
theorem closed_A (hs : List Hand) (H : HMap) (x : T) (h : closedA x = true) : lendT H x x = some (x, [], []) ∧ renIT hs x = some x := by
  cases x with
  | pt p =>
    cases p with
    | one c => exact ⟨by simp [lendT, (closed_C hs H c h).1], by simp [renIT, (closed_C hs H c h).2.1]⟩
    | agg cs => exact ⟨by simp [lendT, (closed_Cs hs H cs h).1], by simp [renIT, (closed_Cs hs H cs h).2.1]⟩
  | tup ps => simp [closedA] at h
  | undef => simp [closedA] at h
  | junk => simp [closedA] at h
theorem closed_As (hs : List Hand) (H : HMap) : ∀ (xs : List T), xs.all closedA = true → lendTs H xs xs = some (xs, [], []) ∧ renITs hs xs = some xs := by
  intro xs
  induction xs with
  | nil => intro _; exact ⟨rfl, rfl⟩
  | cons x xs ih =>
    intro h
    simp only [List.all_cons, Bool.and_eq_true] at h
    obtain ⟨i1, i2⟩ := ih h.2
    obtain ⟨j1, j2⟩ := closed_A hs H x h.1
    exact ⟨by simp [lendTs, i1, j1], by simp [renITs, i2, j2]⟩

theorem closed_flat (r : T) (h : closedT r = true) : flatT r = scalarT r := by
  have hC : ∀ c, closedC c = true → flatC c = scalarC c := by
    intro c hc
    cases c with
    | v y => cases y <;> rfl
    | _ => cases hc
  have hCs : ∀ cs : List C, cs.all closedC = true → cs.all flatC = cs.all scalarC := by
    intro cs
    induction cs with
    | nil => intro _; rfl
    | cons c cs ih =>
      intro hc
      simp only [List.all_cons, Bool.and_eq_true] at hc ⊢
      rw [hC c hc.1, ih hc.2]
  have hP : ∀ p, closedP p = true → flatP p = scalarP p := by
    intro p hp
    cases p with
    | one c => exact hC c hp
    | agg cs => exact hCs cs hp
  cases r with
  | pt p => exact hP p h
  | tup ps =>
    have : ∀ ps : List P1, ps.all closedP = true → ps.all flatP = ps.all scalarP := by
      intro cs
      induction cs with
      | nil => intro _; rfl
      | cons c cs ih =>
        intro hc
        simp only [List.all_cons, Bool.and_eq_true] at hc ⊢
        rw [hP c hc.1, ih hc.2]
    exact this ps h
  | undef => cases h
  | junk => cases h
/-- A call that gets closed values, or slices that it reads, and returns a closed one. -/
theorem callL {t : Nat → T} {H : HMap} {c : Nat} {f : Opd} {args : List Opd} {fid : FuncId} {argsC : List T} {ws : List (Nat × Blk)} {ns : List Nat} {r : T} {k : Nat} {d : Option Nat} {un : List Nat} {l : List AOper} {prev : List (Nat × List Nat × List Nat)} {K : St → Prop}
    (hC : ACallsF P fid argsC [] r) (hf : ev t f = .pt (.one (.fn fid []))) (hl : lendTs H argsC (args.map (ev t)) = some (argsC, ws, ns)) (ha : argsC.all closedA = true) (hr : closedT r = true)
    (hk : chk prev un ⟨r, (if scalarT r then [] else ws), ns, (if scalarT r then [] else ns)⟩ = true ∧ DRun P l ((k, ns, if scalarT r then [] else ns) :: prev) K ⟨updD t d r, updH H (if scalarT r then [] else ws), c⟩) :
    step P k d un (.call f args) l prev K t H c := by
  refine callW (caps := []) [] hC hf (by simpa using hl) (closed_As [] H argsC ha).2 trivial (by simp) (by simp) (closed_T [] r hr _) rfl ?_
  simpa [quiet, closed_flat r hr] using hk

/-- A call that gets closed values and returns a closed one. -/
theorem callC {t : Nat → T} {H : HMap} {c : Nat} {f : Opd} {args : List Opd} {fid : FuncId} {argsC : List T} {r : T} {k : Nat} {d : Option Nat} {un : List Nat} {l : List AOper} {prev : List (Nat × List Nat × List Nat)} {K : St → Prop}
    (hC : ACallsF P fid argsC [] r) (hf : ev t f = .pt (.one (.fn fid []))) (hl : args.map (ev t) = argsC) (ha : argsC.all closedA = true) (hr : closedT r = true) (hk : DRun P l prev K ⟨updD t d r, H, c⟩) :
    step P k d un (.call f args) l prev K t H c := by
  refine callL hC hf (by rw [hl]; exact (closed_As [] H argsC ha).1) ha hr ?_
  have : (if scalarT r = true then ([] : List Nat) else []) = [] := by split <;> rfl
  have h2 : (if scalarT r = true then ([] : List (Nat × Blk)) else []) = [] := by split <;> rfl
  rw [this, h2]
  refine ⟨chk_pure _ _ _ _, ?_⟩
  rw [DRun_drop k l _ prev _ fun un e => chk_drop k prev un e]
  exact hk
end

theorem hinOf_nil (n : Nat) : hinOf [] n = none := rfl
theorem hinOf_cons (c m : Nat) (b : Option Blk) (b' : Blk) (kp : Bool) (hs : List Hand) (n : Nat) : hinOf (⟨c, m, b, b', kp⟩ :: hs) n = if n = c then b else hinOf hs n := by
  simp only [hinOf, renN, List.find?_cons]
  by_cases h : n = c
  · subst h; simp
  · have h2 : (c == n) = false := beq_eq_false_iff_ne.2 (Ne.symm h)
    simp [h2, h]

section
variable {H : HMap}
theorem load_v (n : Nat) (xs : List V) : loadT H n false (.pt (.one (.vptr xs))) = (xs[0]?).map fun c => (.pt (.one (.v c)), []) := by
  simp only [loadT, ptrC, List.getElem?_map, Bool.false_eq_true, if_false, Option.map_map]
  rfl
theorem load_va (n : Nat) (xs : List V) : loadT H n true (.pt (.one (.vptr xs))) = if n ≤ xs.length then some (.pt (.agg ((xs.take n).map .v)), []) else none := by
  simp only [loadT, ptrC, List.length_map, if_true, List.map_take]
theorem at_zero {α : Type} (x : α) (xs : List α) : (x :: xs)[0]? = some x := rfl
theorem at_1 {α : Type} (x y : α) (xs : List α) : (x :: y :: xs)[1]? = some y := rfl
theorem at_2 {α : Type} (x y z : α) (xs : List α) : (x :: y :: z :: xs)[2]? = some z := rfl
theorem at_3 {α : Type} (x y z u : α) (xs : List α) : (x :: y :: z :: u :: xs)[3]? = some u := rfl
theorem at_4 {α : Type} (x y z u v : α) (xs : List α) : (x :: y :: z :: u :: v :: xs)[4]? = some v := rfl
end

/-- A loop that counts up to n, where a round may tell its state anew first. -/
theorem AW.uptoA {P : Program} {X : Ctx} {Q : Exit → St → Prop} {t : Nat → T} {H : HMap} {c : Nat} {x : ACode} (n : Nat) (I : Nat → St → Prop) (h0 : I 0 ⟨t, H, c⟩)
    (round : ∀ i t H c, i ≤ n → I i ⟨t, H, c⟩ → oneW P X x (thenA (fun σ => i < n ∧ I (i + 1) σ) Q) ⟨t, H, c⟩) : oneW P X (.loop x) Q ⟨t, H, c⟩ := by
  have key : ∀ k i σ, n - i = k → i ≤ n → I i σ → ∃ m e s, Q e s ∧ LTr P x e s m σ := by
    intro k
    induction k with
    | zero =>
      intro i σ hk hi hI
      obtain ⟨e, s, h1, h2⟩ := round i σ.t σ.H σ.ctr hi hI
      cases e with
      | normal => obtain ⟨h3, _⟩ := (show i < n ∧ I (i + 1) s from h1); omega
      | _ => exact ⟨0, _, s, h1, .stop σ (by simp) h2⟩
    | succ k ih =>
      intro i σ hk hi hI
      obtain ⟨e, s, h1, h2⟩ := round i σ.t σ.H σ.ctr hi hI
      cases e with
      | normal =>
        obtain ⟨h3, h4⟩ := (show i < n ∧ I (i + 1) s from h1)
        obtain ⟨m, e2, s2, h5, h6⟩ := ih (i + 1) s (by omega) h3 h4
        exact ⟨m + 1, e2, s2, h5, .go m σ s h2 h6⟩
      | _ => exact ⟨0, _, s, h1, .stop σ (by simp) h2⟩
  obtain ⟨m, e, s, h1, h2⟩ := key _ 0 _ rfl (Nat.zero_le n) h0
  exact ⟨e, s, h1, fun X => h2.aw X⟩
/-- A loop that counts up to n. -/
theorem AW.upto {P : Program} {X : Ctx} {Q : Exit → St → Prop} {t : Nat → T} {H : HMap} {c : Nat} {x : ACode} (n : Nat) (I : Nat → St → Prop) (h0 : I 0 ⟨t, H, c⟩)
    (round : ∀ i t H c, i ≤ n → I i ⟨t, H, c⟩ → wpa P X x (thenA (fun σ => i < n ∧ I (i + 1) σ) Q) ⟨t, H, c⟩) : oneW P X (.loop x) Q ⟨t, H, c⟩ :=
  AW.uptoA n I h0 fun i t H c hi hI => oneW.of (round i t H c hi hI)

end Go.V
namespace Go.V
/-! Telling what stands in cells anew, at a loop's head. -/
theorem AW.reify0 {P : Program} {X : Ctx} {ac : ACode} {Q : Exit → St → Prop} {t : Nat → T} {H : HMap} {c : Nat} (n j id st : Nat) (aty : TypeId) {v : Nat} {ty : TypeId} {cs : List C} (h1 : H n = some (.var v ty cs)) (h2 : cs[j]? = some .nil0) (h3 : H id = none) (hst : 0 < st)
    (h : AW P X ac Q ⟨t, upd (upd H id (some (.arr c true st aty []))) n (some (.var v ty (putC cs j [.own id c 0]))), c + 1⟩) : AW P X ac Q ⟨t, H, c⟩ := by
  intro cd hcc hm a w hS
  refine h cd hcc hm a w ?_
  obtain ⟨imm, L, hS⟩ := hS
  have hne : n ≠ id := fun e => by rw [e, h3] at h1; cases h1
  have hg := goes_arr_nil (w := w) (imm := imm) (L := L) hS.hok id c (by simp) true st aty hst none
  have h1' : upd H id (some (.arr c true st aty [])) n = some (.var v ty cs) := by rw [upd_ne _ _ hne]; exact h1
  have hjl : j < cs.length := (List.getElem?_eq_some_iff.1 h2).1
  have hre : ∀ xs, CsRep w imm (upd H id (some (.arr c true st aty []))) (L.up id none noB) (with_ (· < c) c) xs cs → CsRep w imm (upd H id (some (.arr c true st aty []))) (L.up id none noB) (with_ (· < c) c) xs (putC cs j [.own id c 0]) := by
    intro xs hx
    have hpl : (putC cs j [C.own id c 0]).length = cs.length := by simp [putC]; omega
    refine ⟨by rw [hpl]; exact hx.1, fun k u y hu hy => ?_⟩
    by_cases hk : k = j
    · subst hk
      have : y = .own id c 0 := by
        simp only [putC, List.append_assoc] at hy
        rw [List.getElem?_append_right (by simp; omega)] at hy
        have e0 : k - (cs.take k).length = 0 := by simp; omega
        rw [e0] at hy
        simpa using hy.symm
      subst this
      obtain ⟨a0, rfl⟩ := hx.2 k u .nil0 hu h2
      refine ⟨.inr rfl, ⟨a0, 0, rfl, Nat.le_refl _⟩, fun wr' st' ty' es' hH => ?_⟩
      simp only [upd_same, Option.some.injEq, Blk.arr.injEq] at hH
      obtain ⟨_, _, _, _, rfl⟩ := hH
      exact ⟨Nat.le_refl _, .inl ⟨a0, rfl, rfl⟩⟩
    · refine hx.2 k u y hu ?_
      rw [← hy]
      simp only [putC, List.append_assoc]
      rcases Nat.lt_or_ge k j with hlt | hge
      · rw [List.getElem?_append_left (by simp; omega), List.getElem?_take, if_pos hlt]
      · rw [List.getElem?_append_right (by simp; omega)]
        have e0 : k - (cs.take j).length = (k - j - 1) + 1 := by simp; omega
        rw [e0]
        simp only [List.singleton_append, List.getElem?_cons_succ, List.getElem?_drop, List.length_singleton]
        congr 1
        omega
  obtain ⟨k1, k2, k3, k4⟩ := recell hg.hok h1' hre
  have hk : ∀ b o, imm b o → imm b o ∧ w.cell? ⟨b, o, none⟩ = w.cell? ⟨b, o, none⟩ := fun _ _ h => ⟨h, rfl⟩
  obtain ⟨s1, s2⟩ := Step.trans hg.step hg.near k3 k4
  obtain ⟨s3, s4⟩ := Step.trans hS.step hS.near s1 s2
  have hu : ∀ v, with_ (· < c) c v → v < c + 1 := fun v hv => by rcases hv with hv | hv <;> omega
  have hext := (hg.ext.trans k2).trans (CRep.use (w := w) hu)
  exact ⟨imm, L.up id none noB, k1.use hu, fun i => (hS.tmp i).mono hk hext, hS.size, hS.defers, s3, s4, hS.ext.trans hext⟩

theorem sealCs_map (H : HMap) : ∀ xs : List V, sealCs H (xs.map .v) = some (xs, [], [])
  | [] => rfl
  | x :: xs => by simp [sealCs, sealC, sealCs_map H xs]
theorem lendCs_map (H : HMap) : ∀ (ts xs : List V), ts.length = xs.length → lendCs H (ts.map .v) (xs.map .v) = some (xs.map .v, [], [])
  | [], [], _ => rfl
  | [], _ :: _, h => by simp at h
  | _ :: _, [], h => by simp at h
  | t :: ts, x :: xs, h => by simp [lendCs, lendC, sealC, lendCs_map H ts xs (by simpa using h)]
theorem chk_nl (un : List Nat) (e : Ef) : chk [] un e = true := by unfold chk; split <;> rfl
theorem verC_map (ν : Nat → Nat) (xs : List V) : (xs.map C.v).map (verC ν) = xs.map C.v := by
  rw [List.map_map]; exact List.map_congr_left fun x _ => rfl
theorem AW.reify {P : Program} {X : Ctx} {ac : ACode} {Q : Exit → St → Prop} {t : Nat → T} {H : HMap} {c : Nat} (n j id st : Nat) (aty : TypeId) {v : Nat} {ty : TypeId} {cs : List C} (h1 : H n = some (.var v ty cs)) (h2 : cs[j]? = some .nil0) (h3 : H id = none) (hst : 0 < st)
    (h : oneW P X ac Q ⟨t, upd (upd H id (some (.arr c true st aty []))) n (some (.var v ty (putC cs j [.own id c 0]))), c + 1⟩) : oneW P X ac Q ⟨t, H, c⟩ :=
  oneW.re (fun _ _ => AW.reify0 n j id st aty h1 h2 h3 hst) h
end Go.V
namespace Go.V
open Go.Proofs Go.Sort

/-! A library's function that works in place on a row of strings, as a contract over an own array. -/
/-- Strings as an own array's elements. -/
def rowS (ss : List ByteArray) : List (List V) := ss.map fun s => [.s (.string s)]
theorem rowS_len (ss : List ByteArray) : (rowS ss).length = ss.length := by simp [rowS]
theorem rowS_one (ss : List ByteArray) : ∀ e ∈ rowS ss, e.length = 1 := by
  intro e he
  obtain ⟨s, -, rfl⟩ := List.mem_map.1 he
  rfl
/-- The kit's way to say it. -/
def rowL (ss : List ByteArray) : List (List UInt8) := ss.map fun s => s.data.toList
theorem rowL_len (ss : List ByteArray) : (rowL ss).length = ss.length := by simp [rowL]
abbrev rowH (n m v : Nat) (ty : TypeId) (ss ss' : List ByteArray) : List Hand := [⟨n, m, some (.arr v true 1 ty (rowS ss)), .arr v true 1 ty (rowS ss'), true⟩]
theorem rowH_in (n m v : Nat) (ty : TypeId) (ss ss' : List ByteArray) (k : Nat) : hinOf (rowH n m v ty ss ss') k = if k = n then some (.arr v true 1 ty (rowS ss)) else none := by
  by_cases h : k = n
  · subst h; simp [hinOf, renN]
  · have : (n == k) = false := by simp; omega
    simp [hinOf, renN, h, this]
theorem rowH_ren (n m v : Nat) (ty : TypeId) (ss ss' : List ByteArray) {c : Nat} {h : Hand} (hh : renN (rowH n m v ty ss ss') c = some h) : c = n ∧ h = ⟨n, m, some (.arr v true 1 ty (rowS ss)), .arr v true 1 ty (rowS ss'), true⟩ := by
  simp only [renN, List.find?_cons, List.find?_nil] at hh
  by_cases e : (n == c) = true
  · simp only [e] at hh
    exact ⟨(by simpa using e : n = c).symm, by simpa using hh.symm⟩
  · simp only [Bool.not_eq_true] at e
    simp [e] at hh

theorem VsRep_row {w : World} {imm : Imm} {cur : Array Value} {ss : List ByteArray} (h : ∀ i e, (rowS ss)[i]? = some e → VsRep w imm cur (i * 1) e) {j : Nat} {s : ByteArray} (hs : ss[j]? = some s) : cur[j]? = some (.string s) := by
  obtain ⟨u, h1, h2⟩ := h j [.s (.string s)] (by simp [rowS, hs]) 0 (.s (.string s)) rfl
  cases h2
  simpa using h1

theorem put_row {w w' : World} {imm : Imm} {L : Locs} {U : Nat → Prop} {n m v g : Nat} {ty : TypeId} {ss ss' : List ByteArray} {cur cur' : Array Value} (hH : HOk w imm (hinOf (rowH n m v ty ss ss')) L U) (hg : L n = some g)
    (hc : w.heap[g]? = some (.cells cur ty (0, 0))) (hos : w'.os = w.os) (htape : w'.tape = w.tape) (hout : w'.output = w.output) (hsz : w.heap.size ≤ w'.heap.size) (hf : ∀ b, b < w.heap.size → b ≠ g → w'.heap[b]? = w.heap[b]?)
    (hc' : w'.heap[g]? = some (.cells cur' ty (0, 0))) (hcs : cur'.size = cur.size) (hl : ss'.length = ss.length) (hr : ∀ (j : Nat) s, ss'[j]? = some s → cur'[j]? = some (.string s)) :
    let H' : HMap := fun k => if k = n then some (.arr v true 1 ty (rowS ss')) else none
    HOk w' imm H' L U ∧ Step w imm (foot (hinOf (rowH n m v ty ss ss')) L) w' imm ∧ Near w (foot (hinOf (rowH n m v ty ss ss')) L) H' L ∧ Ext w (hinOf (rowH n m v ty ss ss')) L U w' H' L U := by
  intro H'
  have hin : hinOf (rowH n m v ty ss ss') n = some (.arr v true 1 ty (rowS ss)) := by rw [rowH_in]; simp
  have hB := hH.blk n _ hin
  obtain ⟨hv, _, h1, h2⟩ := hB
  have hgsz : g < w.heap.size := by
    rcases Nat.lt_or_ge g w.heap.size with h | h
    · exact h
    · rw [Array.getElem?_eq_none h] at hc; cases hc
  obtain ⟨hlen, himm⟩ : ss.length ≤ cur.size ∧ ∀ o, ¬ imm g o := by
    rcases h2 with ⟨h, he⟩ | ⟨g', cur2, h3, h4, h5, h6, h7⟩
    · rw [h] at hg; cases hg
    · rw [hg] at h3; cases h3
      rw [hc] at h4; cases h4
      exact ⟨by rw [rowS_len] at h5; omega, fun o ho => by cases (h7 o ho).1⟩
  have hn : ∀ k, H' k ≠ none → k = n := fun k hk => by
    by_cases h : k = n
    · exact h
    · simp [H', h] at hk
  have hn0 : ∀ k, hinOf (rowH n m v ty ss ss') k ≠ none → k = n := fun k hk => by
    rw [rowH_in] at hk
    by_cases h : k = n
    · exact h
    · simp [h] at hk
  have hkp : ∀ b o, imm b o → imm b o ∧ w'.cell? ⟨b, o, none⟩ = w.cell? ⟨b, o, none⟩ := fun b o hb => ⟨hb, by
    have hb' := hH.imm b o hb
    have hne : b ≠ g := fun e => himm o (e ▸ hb)
    simp only [World.cell?, hf b hb' hne]⟩
  refine ⟨⟨fun k B hk => ?_, fun a b g' ha hb _ _ => (hn a ha).trans (hn b hb).symm, fun k g' hk hg' => (by have := hn k hk; subst this; have := hH.sub k g' (by rw [hin]; simp) hg'; exact ⟨Nat.lt_of_lt_of_le this.1 hsz, this.2⟩), hH.glob.keep hkp, fun b o hb => Nat.lt_of_lt_of_le (hH.imm b o hb) hsz⟩, ⟨hos, htape, hout, hsz, fun b hb hfp => ?_, hkp, fun b o hb => .inl hb⟩, fun k g' hk hg' => .inl ⟨n, by rw [hin]; simp, ?_⟩, ⟨fun x hx => hx, fun k ver ty' cs hu hk => ?_, fun k ver wr st ty' es hu hk => ?_, fun k ver wr st ty' es g' cur2 hu hk hg' hc2 => ?_, fun k ver wr st ty' es op hu hk => ?_, fun k ver wr st ty' es op g' cur2 hu hk hg' hc2 => ?_⟩⟩
  · have hk' := hn k (by rw [hk]; simp)
    subst hk'
    simp only [H', if_true] at hk
    cases hk
    refine ⟨hv, Nat.one_pos, rowS_one ss', .inr ⟨g, cur', hg, hc', by rw [rowS_len]; omega, fun i e he j y hy => ?_, fun o ho => (himm o ho).elim⟩⟩
    simp only [rowS, List.getElem?_map, Option.map_eq_some_iff] at he
    obtain ⟨s, hs, rfl⟩ := he
    cases j with
    | zero =>
      simp at hy
      subst hy
      exact ⟨.string s, by simpa using hr i s hs, .s _ rfl⟩
    | succ j => simp at hy
  · exact hf b hb fun e => hfp ⟨n, by rw [hin]; simp, .inl (by rw [hg, e])⟩
  · rw [← hn k hk]; exact hg'
  · have := hn k (by rw [hk]; simp)
    subst this
    simp [H'] at hk
  · have := hn k (by rw [hk]; simp)
    subst this
    simp only [H', if_true, Option.some.injEq, Blk.arr.injEq] at hk
    obtain ⟨rfl, rfl, rfl, rfl, rfl⟩ := hk
    exact ⟨true, rowS ss, hin, by rw [rowS_len, rowS_len]; omega, rfl⟩
  · have := hn k (by rw [hk]; simp)
    subst this
    simp only [H', if_true, Option.some.injEq, Blk.arr.injEq] at hk
    obtain ⟨rfl, rfl, rfl, rfl, rfl⟩ := hk
    rw [hg] at hg'; cases hg'
    rw [hc] at hc2; cases hc2
    exact ⟨cur', hc', hcs⟩
  · have := hn k (by rw [hk]; simp)
    subst this
    simp [H'] at hk
  · have := hn k (by rw [hk]; simp)
    subst this
    simp [H'] at hk

theorem row_left (n m v : Nat) (ty : TypeId) (ss ss' : List ByteArray) (r : T) (hr : verT (fun _ => v) r = r) (h' : HMap) (hh : h' n = some (.arr v true 1 ty (rowS ss'))) :
    ∃ ν : Nat → Nat, r = verT ν r ∧ ∀ c h, renN (rowH n m v ty ss ss') c = some h → h' c = some (verB ν (ν c) h.b') ∧ (h.keep = true → ∃ b, h.b = some b ∧ ν c = b.ver) := by
  refine ⟨fun _ => v, hr.symm, fun c h hc => ?_⟩
  obtain ⟨rfl, rfl⟩ := rowH_ren _ _ _ _ _ _ hc
  exact ⟨hh, fun _ => ⟨_, rfl, rfl⟩⟩

end Go.V
set_option linter.unusedSimpArgs false
set_option maxRecDepth 4000
namespace Go.V
open Go
end Go.V
set_option linter.unusedSimpArgs false
namespace Go.V
/-! What a function comes to, found by walking it: a result that is such as is asked. -/
theorem closedC_rep {w w' : World} {imm imm' : Imm} (hk : ∀ b o, imm b o → imm' b o ∧ w'.cell? ⟨b, o, none⟩ = w.cell? ⟨b, o, none⟩) {H H' : HMap} {L L' : Locs} {U U' : Nat → Prop} {x : Value} {c : C} (hc : closedC c = true) (h : CRep w imm H L U x c) : CRep w' imm' H' L' U' x c := by
  cases c <;> simp [closedC] at hc
  exact VRep.mono hk h
theorem closedCs_rep {w w' : World} {imm imm' : Imm} (hk : ∀ b o, imm b o → imm' b o ∧ w'.cell? ⟨b, o, none⟩ = w.cell? ⟨b, o, none⟩) {H H' : HMap} {L L' : Locs} {U U' : Nat → Prop} {xs : List Value} {cs : List C} (hc : cs.all closedC = true) (h : CsRep w imm H L U xs cs) : CsRep w' imm' H' L' U' xs cs :=
  ⟨h.1, fun k x y hx hy => closedC_rep hk (List.all_eq_true.1 hc y (List.mem_of_getElem? hy)) (h.2 k x y hx hy)⟩
theorem closedP_rep {w w' : World} {imm imm' : Imm} (hk : ∀ b o, imm b o → imm' b o ∧ w'.cell? ⟨b, o, none⟩ = w.cell? ⟨b, o, none⟩) {H H' : HMap} {L L' : Locs} {U U' : Nat → Prop} {x : Value} {p : P1} (hc : closedP p = true) (h : PRep w imm H L U x p) : PRep w' imm' H' L' U' x p := by
  cases p with
  | one c => exact closedC_rep hk hc h
  | agg cs => obtain ⟨xs, hx, h⟩ := h; exact ⟨xs, hx, closedCs_rep hk hc h⟩
theorem closedT_rep {w w' : World} {imm imm' : Imm} (hk : ∀ b o, imm b o → imm' b o ∧ w'.cell? ⟨b, o, none⟩ = w.cell? ⟨b, o, none⟩) {H H' : HMap} {L L' : Locs} {U U' : Nat → Prop} {x : Value} {t : T} (hc : closedT t = true) (h : TRep w imm H L U x t) : TRep w' imm' H' L' U' x t := by
  cases t with
  | junk => trivial
  | undef => exact h
  | pt p => exact closedP_rep hk hc h
  | tup ps => obtain ⟨xs, hx, hl, h⟩ := h; exact ⟨xs, hx, hl, fun k u y hu hy => closedP_rep hk (List.all_eq_true.1 hc y (List.mem_of_getElem? hy)) (h k u y hu hy)⟩
theorem closedC_ver (ν : Nat → Nat) {c : C} (hc : closedC c = true) : verC ν c = c := by cases c <;> simp [closedC] at hc; rfl
theorem closedCs_ver (ν : Nat → Nat) {cs : List C} (hc : cs.all closedC = true) : cs.map (verC ν) = cs := by
  conv => rhs; rw [← List.map_id cs]
  exact List.map_congr_left fun c h => closedC_ver ν (List.all_eq_true.1 hc c h)
theorem closedP_ver (ν : Nat → Nat) {p : P1} (hc : closedP p = true) : verP ν p = p := by
  cases p with
  | one c => exact congrArg P1.one (closedC_ver ν hc)
  | agg cs => exact congrArg P1.agg (closedCs_ver ν hc)
theorem closedT_ver (ν : Nat → Nat) {t : T} (hc : closedT t = true) : verT ν t = t := by
  cases t with
  | junk => rfl
  | undef => rfl
  | pt p => exact congrArg T.pt (closedP_ver ν hc)
  | tup ps =>
    refine congrArg T.tup ?_
    conv => rhs; rw [← List.map_id ps]
    exact List.map_congr_left fun c h => closedP_ver ν (List.all_eq_true.1 hc c h)
theorem argC_rep {w : World} {imm : Imm} {H H' : HMap} {L L' : Locs} {U U' : Nat → Prop} {x : Value} {t : T} (hc : closedA t = true) (h : TRep w imm H L U x t) : TRep w imm H' L' U' x t := by
  cases t with
  | pt q => exact closedP_rep (fun _ _ h => ⟨h, rfl⟩) hc h
  | _ => simp [closedA] at hc
/-- The end of a function of which is asked what comes of it. -/
def ES {α : Type} (S : α → Prop) (r : α → T) (hs : α → List Hand) (rs : List ARes) (σ : St) : Prop := ∃ a, S a ∧ FinC rs (r a) (hs a) σ
def endE {α : Type} (S : α → Prop) (r : α → T) (hs : α → List Hand) (rs : List ARes) : Exit → St → Prop
  | .normal, σ => ES S r hs rs σ
  | .ret, σ => ES S r hs rs σ
  | _, _ => False
theorem ES.mk {α : Type} {S : α → Prop} {r : α → T} {hs : α → List Hand} {rs : List ARes} {σ : St} (a : α) (h : S a) (hf : FinC rs (r a) (hs a) σ) : ES S r hs rs σ := ⟨a, h, hf⟩
theorem endE_n {α : Type} {S : α → Prop} {r : α → T} {hs : α → List Hand} {rs : List ARes} {σ : St} : endE S r hs rs .normal σ = ES S r hs rs σ := rfl
theorem endE_r {α : Type} {S : α → Prop} {r : α → T} {hs : α → List Hand} {rs : List ARes} {σ : St} : endE S r hs rs .ret σ = ES S r hs rs σ := rfl
theorem endE_a {α : Type} {S : α → Prop} {r : α → T} {hs : α → List Hand} {rs : List ARes} {e : Exit} {σ : St} (h : endE S r hs rs e σ) : ∃ a, S a ∧ endA (FinC rs (r a) (hs a)) e σ := by
  cases e with
  | normal => exact h
  | ret => exact h
  | _ => exact h.elim
theorem ACallsF.ex0 {P : Program} {f n : Nat} {ac : ACode} {rs : List ARes} {args : List T} {α : Type} {r : α → T} (S : α → Prop) (ho : okF P f n ac rs) (hm : P.follows .mixedOrders = true) (ha : args.all closedA = true) (hr : ∀ a, S a → closedT (r a) = true)
    (h : ∀ X : Ctx, wpa P X ac (endE S r (fun _ => []) rs) ⟨argsT args, hinOf [], 0⟩) : ∃ a, S a ∧ ACallsF P f args [] (r a) := by
  obtain ⟨fn, h1, rfl, h3, h4, h5⟩ := ho.h
  cases hb : fn.body with
  | none => simp [hb] at h4
  | some cd =>
    rw [hb] at h4
    obtain ⟨e, s, he, hA⟩ := oneW.of (h ⟨default, fun _ _ => False, fun _ => none, ⟨fun _ => none, fun _ _ => False⟩, 0, 0⟩)
    obtain ⟨a, hS, he⟩ := endE_a he
    refine ⟨a, hS, by simp [isFn, h1, h3, hb], fun w imm L c vs hH hT => ?_⟩
    have hH1 : HOk w imm (hinOf []) L (· < 0) := ⟨fun n B hB => (by cases hB), fun n m g hn => absurd rfl hn, fun n g hn => absurd rfl hn, hH.glob, hH.imm⟩
    have hT1 : TsRep w imm (hinOf []) L (· < 0) vs args := ⟨hT.1, fun k x y hx hy => argC_rep (List.all_eq_true.1 ha y (List.mem_of_getElem? hy)) (hT.2 k x y hx hy)⟩
    refine (ACalls.intro1 (R := fun r' h' => ∃ ν : Nat → Nat, r' = verT ν (r a)) h1 hb h4 h5 hm 0 (fun X _ => AW.mono (hA X) fun e1 s1 hh => ?_) w imm L vs hH1 hT1).mono fun e w' hh => ?_
    · obtain ⟨rfl, rfl⟩ := hh
      have key : FinC rs (r a) [] s1 → Fin (fun r' h' => ∃ ν : Nat → Nat, r' = verT ν (r a)) rs s1 := fun hq => by
        obtain ⟨ps, h1, h2⟩ := FinC.fin hq
        refine ⟨ps, h1, fun w imm L us hH hl hp => ?_⟩
        obtain ⟨i, qs, H', g1, g2, g3, ν, g4, _⟩ := h2 w imm L us hH hl hp
        exact ⟨i, qs, H', g1, g2, g3, ν, g4⟩
      cases e1 with
      | normal => exact key he
      | ret => exact key he
      | _ => exact he
    · obtain ⟨x, r1, h, imm', L', c', e1, ⟨ν, hr1⟩, hx, hH', hSt, hN, hE⟩ := hh
      rw [hr1, closedT_ver ν (hr a hS)] at hx
      refine ⟨x, r a, fun _ => none, imm', L', c, e1, ⟨fun v => v, (closedT_ver _ (hr a hS)).symm, fun n q hn => by simp [renN] at hn⟩, closedT_rep (fun _ _ h => ⟨h, rfl⟩) (hr a hS) hx, ⟨fun n B hB => (by cases hB), fun n m g hn => absurd rfl hn, fun n g hn => absurd rfl hn, hH'.glob, hH'.imm⟩, hSt, fun n g hn => absurd rfl hn, ⟨fun _ h => h, fun n ver ty cs _ hB => (by cases hB), fun n ver wr st ty es _ hB => (by cases hB), fun n ver wr st ty es g cur _ hB => (by cases hB), fun n ver wr st ty es op _ hB => (by cases hB), fun n ver wr st ty es op g cur _ hB => (by cases hB)⟩⟩
end Go.V
set_option linter.unusedSimpArgs false
namespace Go.V
open Go
/-! Code that is not named: it is had of the program by reckoning, and simp goes by it. -/
def okF.of {P : Program} {f n : Nat} {fn : Func} {ac : ACode} {rs : List ARes} (h1 : P.funcs[f]? = some fn) (h2 : fn.ntmps = n) (h3 : (fn.name == "runtime.NumGoroutine") = false) (h4 : fn.body.bind (cCode P n) = some ac) (h5 : cRess P fn.results.toList = some rs) : okF P f n ac rs := ⟨⟨fn, h1, h2, h3, h4, h5⟩⟩
/-! What a function's code is, guessed quickly: the guess is proved by the kernel. -/
structure TE where
  und : Option TypeDesc
  zero : Option (List C)
  places : Option (List (Nat × Nat))
  elem : Option TypeId
  size : Option Nat
  agg : Option Bool
  info : Option TypeInfo
  arr : Option (Nat × TypeId)
  held : Bool
  eqg : Bool
def teOf (P : Program) (t : TypeId) : TE := ⟨P.underlying t, zeroCs P t, placesT P t, elemT P t, sizeT P t, isAggT P t, P.info? t, arrT P t, true, true⟩
inductive Tab where
  | nil
  | node (k : Nat) (e : TE) (l r : Tab)
def Tab.look : Tab → Nat → TE
  | .nil, _ => ⟨none, none, none, none, none, none, none, none, true, true⟩
  | .node k e l r, t => match Nat.blt t k with
    | true => l.look t
    | false => match Nat.blt k t with
      | true => r.look t
      | false => e
def mkTab (P : Program) : Nat → Nat → Nat → Tab
  | 0, _, _ => .nil
  | f + 1, lo, n => match n with
    | 0 => .nil
    | m + 1 => .node (lo + (m + 1) / 2) (teOf P (lo + (m + 1) / 2)) (mkTab P f lo ((m + 1) / 2)) (mkTab P f (lo + (m + 1) / 2 + 1) (m - (m + 1) / 2))
def Tab.fks (T : Tab) : List Field → Nat → Option (List Nat)
  | [], _ => some []
  | f :: fs, n => if f.name ≠ "_" ∧ f.offset = n ∧ (T.look f.type).agg = some false then match (T.look f.type).und, T.fks fs (n + 1) with
    | some (.int _), some ks => some (0 :: ks)
    | some .bool, some ks => some (1 :: ks)
    | some .string, some ks => some (2 :: ks)
    | _, _ => none
    else none
def Tab.env (T : Tab) : Env := ⟨fun t => (T.look t).und, fun t => (T.look t).zero, fun t => (T.look t).places, fun t => (T.look t).elem, fun t => (T.look t).size, fun t => (T.look t).agg, fun t => (T.look t).info, fun t => (T.look t).arr, fun fs => T.fks fs 0, fun t => (T.look t).held, fun t => (T.look t).eqg⟩
def mAt (bs : List Nat) (o : Oper) : Nat := o.after.toList.foldl (fun m e => match Region.binds .any e with
  | true => Nat.lor (Nat.lor m (Nat.shiftLeft 1 e.on)) ((bs[e.on]?).getD 0)
  | false => m) 0
def mOut (m : Nat) : Nat → List Nat → List Nat
  | 0, l => l
  | j + 1, l => match Nat.beq (Nat.land (Nat.shiftRight m j) 1) 1 with
    | true => mOut m j l
    | false => mOut m j (j :: l)
def gUns : Nat → List Nat → List Oper → List (List Nat)
  | _, _, [] => []
  | i, bs, o :: os => mOut (mAt bs o) i [] :: gUns (i + 1) (bs ++ [mAt bs o]) os
def gOpers (E : Env) (ops : Array Oper) (uns : List (List Nat)) : Nat → List Oper → List AOper
  | _, [] => []
  | i, o :: os => ⟨i, o.dst, o.guard.bind fun g => ((ops[g.1]?).bind (·.dst)).map fun s => (s, g.2), unAt uns i, (compOpG E o).getD .bad⟩ :: gOpers E ops uns (i + 1) os
def gCode (E : Env) : Code → ACode
  | .region _ ops draw => .reg (gOpers E ops (match draw with | true => gUns 0 [] ops.toList | false => []) 0 ops.toList)
  | .seq a b => .seq (gCode E a) (gCode E b)
  | .cond x a b => .cond ((cOpd x).getD (.t 0)) (gCode E a) (gCode E b)
  | .block id c => .block id (gCode E c)
  | .loop c => .loop (gCode E c)
  | .exit id => .exit id
  | .ret => .ret
  | _ => .skip
def gRes (E : Env) : ResultVar → ARes
  | .tmp i => .tmp i
  | .cell i ty => .cell i ((E.size ty).getD 0) ((E.agg ty).getD false)
def okF.gu {P : Program} {f n : Nat} {fn : Func} {ac : ACode} {rs : List ARes} (T : Tab) (h1 : P.funcs[f]? = some fn) (h2 : fn.ntmps = n) (_ : (match fn.body with | some c => gCode T.env c | none => .skip, fn.results.toList.map (gRes T.env)) = (ac, rs)) (h : (fn.name == "runtime.NumGoroutine", fn.body.bind (cCode P n), cRess P fn.results.toList) = (false, some ac, some rs)) : okF P f n ac rs := ⟨⟨fn, h1, h2, congrArg (fun x => x.1) h, congrArg (fun x => x.2.1) h, congrArg (fun x => x.2.2) h⟩⟩
section
variable {P : Program} {X : Ctx} {Q : Exit → St → Prop} {t t' : Nat → T} {H H' : HMap} {c c' : Nat} {σ σ' : St} {l : List AOper} {prev prev' : List (Nat × List Nat × List Nat)} {K : St → Prop}
theorem lenA_cg (l : List AOper) : lenA l = lenA l := rfl
theorem wpa_cg (x : ACode) (h : σ = σ') : wpa P X x Q σ = wpa P X x Q σ' := by rw [h]
theorem oneW_cg (x : ACode) (h : σ = σ') : oneW P X x Q σ = oneW P X x Q σ' := by rw [h]
theorem thenW_cg (x : ACode) (e : Exit) (h : σ = σ') : thenW P X x Q e σ = thenW P X x Q e σ' := by rw [h]
theorem thenA_cg (M : St → Prop) (e : Exit) (h : σ = σ') : thenA M Q e σ = thenA M Q e σ' := by rw [h]
theorem inW_cg (i : Nat) (e : Exit) (h : σ = σ') : inW i Q e σ = inW i Q e σ' := by rw [h]
theorem ifW_cg (a b : ACode) {v v' : T} (h : σ = σ') (hv : v = v') : ifW P X a b Q σ v = ifW P X a b Q σ' v' := by rw [h, hv]
theorem KontA_cg (n : Nat) (h : σ = σ') : KontA Q n σ = KontA Q n σ' := by rw [h]
theorem DRun_cg (hp : prev = prev') (h : σ = σ') : DRun P l prev K σ = DRun P l prev' K σ' := by rw [h, hp]
theorem step_cg (k : Nat) (d : Option Nat) (un : List Nat) (op : AOp) (hp : prev = prev') (h1 : t = t') (h2 : H = H') (h3 : c = c') : step P k d un op l prev K t H c = step P k d un op l prev' K t' H' c' := by rw [hp, h1, h2, h3]
theorem grd_cg (k : Nat) (d : Option Nat) (w : Bool) (un : List Nat) (op : AOp) {v v' : T} (hv : v = v') (hp : prev = prev') (h1 : t = t') (h2 : H = H') (h3 : c = c') : grd P k d v w un op l prev K t H c = grd P k d v' w un op l prev' K t' H' c' := by rw [hv, hp, h1, h2, h3]
theorem fin_cg (k : Nat) (d : Option Nat) (un : List Nat) {e e' : Option Ef} (hp : prev = prev') (h1 : t = t') (h2 : H = H') (h3 : c = c') (he : e = e') : fin P k d un l prev K t H c e = fin P k d un l prev' K t' H' c' e' := by rw [hp, h1, h2, h3, he]
theorem endE_cg {α : Type} {S : α → Prop} {r : α → T} {hs : α → List Hand} {rs : List ARes} {e : Exit} (h : σ = σ') : endE S r hs rs e σ = endE S r hs rs e σ' := by rw [h]
end
section
variable {P : Program} {X : Ctx}
variable {Q : Exit → St → Prop} {a b rest : ACode} {σ : St} {v : T}
end
attribute [congr] lenA_cg wpa_cg oneW_cg thenW_cg thenA_cg inW_cg ifW_cg KontA_cg DRun_cg step_cg grd_cg fin_cg endE_cg
theorem KI : (0 : Int) ≤ 0 ∧ (0 : Int) ≤ 1 ∧ (0 : Int) ≤ 2 ∧ (0 : Int) ≤ 3 ∧ (0 : Int) ≤ 4 ∧ (0 : Int) ≤ 5 ∧ Int.toNat 0 = 0 ∧ Int.toNat 1 = 1 ∧ Int.toNat 2 = 2 ∧ Int.toNat 3 = 3 ∧ Int.toNat 4 = 4 ∧ Int.toNat 5 = 5 :=
  ⟨by decide, by decide, by decide, by decide, by decide, by decide, rfl, rfl, rfl, rfl, rfl, rfl⟩
end Go.V
namespace Go.V
/-! A piece of code at a time, and what stands told anew between two. -/
theorem oneW.seq {P : Program} {X : Ctx} {a b : ACode} {Q : Exit → St → Prop} {σ : St} (h : oneW P X a (thenA (oneW P X b Q) Q) σ) : oneW P X (.seq a b) Q σ := by
  obtain ⟨e, s, h1, h2⟩ := h
  cases e with
  | normal =>
    obtain ⟨e2, s2, h3, h4⟩ := (h1 : oneW P X b Q s)
    exact ⟨e2, s2, h3, fun X => AW.seq (AW.mono (h2 X) fun e1 s1 h => by obtain ⟨rfl, rfl⟩ := h; exact h4 X)⟩
  | ret => exact ⟨_, s, h1, fun X => AW.seq (AW.mono (h2 X) fun e1 s1 h => by obtain ⟨rfl, rfl⟩ := h; exact ⟨rfl, rfl⟩)⟩
  | exit id => exact ⟨_, s, h1, fun X => AW.seq (AW.mono (h2 X) fun e1 s1 h => by obtain ⟨rfl, rfl⟩ := h; exact ⟨rfl, rfl⟩)⟩
  | _ => exact ⟨_, s, h1, fun X => AW.seq (AW.mono (h2 X) fun e1 s1 h => by obtain ⟨rfl, rfl⟩ := h; exact ⟨rfl, rfl⟩)⟩
theorem oneW.block {P : Program} {X : Ctx} {id : Nat} {a : ACode} {Q : Exit → St → Prop} {σ : St} (h : oneW P X a (inBlockA id Q) σ) : oneW P X (.block id a) Q σ := by
  obtain ⟨e, s, h1, h2⟩ := h
  have key : ∀ (e : Exit) (Q : Exit → St → Prop), inBlockA id Q e s → ∃ e', Q e' s ∧ inBlockA id (fun e1 s1 => e1 = e' ∧ s1 = s) e s := by
    intro e Q h
    cases e with
    | exit j =>
      simp only [inBlockA] at h ⊢
      split at h
      · rename_i hj; exact ⟨_, h, by simp [hj]⟩
      · rename_i hj; exact ⟨_, h, by simp [hj]⟩
    | _ => exact ⟨_, h, rfl, rfl⟩
  obtain ⟨e', h3, h4⟩ := key e Q h1
  exact ⟨e', s, h3, fun X => AW.block (AW.mono (h2 X) fun e1 s1 h => by obtain ⟨rfl, rfl⟩ := h; exact h4)⟩

/-- Two tellings of one state: what is proved of the second is true of the first. -/
def Gh (H : HMap) (c : Nat) (H' : HMap) (c' : Nat) : Prop :=
  c ≤ c' ∧ ∀ (w : World) (imm : Imm) (L : Locs), HOk w imm H L (· < c) → ∃ L', HOk w imm H' L' (· < c') ∧ Ext w H L (· < c) w H' L' (· < c') ∧ Step w imm (foot H L) w imm ∧ Near w (foot H L) H' L'
theorem Gh.aw {P : Program} {X : Ctx} {ac : ACode} {Q : Exit → St → Prop} {t : Nat → T} {H H' : HMap} {c c' : Nat} (hg : Gh H c H' c') (h : AW P X ac Q ⟨t, H', c'⟩) : AW P X ac Q ⟨t, H, c⟩ := by
  intro cd hcc hm a w hS
  refine h cd hcc hm a w ?_
  obtain ⟨imm, L, hS⟩ := hS
  obtain ⟨L', k1, k2, k3, k4⟩ := hg.2 w imm L hS.hok
  obtain ⟨s3, s4⟩ := Step.trans hS.step hS.near k3 k4
  exact ⟨imm, L', k1, fun i => (hS.tmp i).mono (fun _ _ h => ⟨h, rfl⟩) k2, hS.size, hS.defers, s3, s4, hS.ext.trans k2⟩
theorem Gh.one {P : Program} {X : Ctx} {ac : ACode} {Q : Exit → St → Prop} {t : Nat → T} {H H' : HMap} {c c' : Nat} (hg : Gh H c H' c') (h : oneW P X ac Q ⟨t, H', c'⟩) : oneW P X ac Q ⟨t, H, c⟩ :=
  oneW.re (fun _ _ h => hg.aw h) h
theorem Gh.trans {H H1 H2 : HMap} {c c1 c2 : Nat} (a : Gh H c H1 c1) (b : Gh H1 c1 H2 c2) : Gh H c H2 c2 := by
  refine ⟨Nat.le_trans a.1 b.1, fun w imm L h => ?_⟩
  obtain ⟨L1, a1, a2, a3, a4⟩ := a.2 w imm L h
  obtain ⟨L2, b1, b2, b3, b4⟩ := b.2 w imm L1 a1
  obtain ⟨s1, s2⟩ := Step.trans a3 a4 b3 b4
  exact ⟨L2, b1, a2.trans b2, s1, s2⟩

/-- Whether a row's elements of this type own rows in turn. -/
def hasSub (st : Nat) (ty : TypeId) : Bool := (List.range st).any fun j => (tsub ty j).isSome
theorem hasSub_f {st : Nat} {ty : TypeId} (h : hasSub st ty = false) {j : Nat} (hj : j < st) : tsub ty j = none := by
  unfold hasSub at h
  have := List.any_eq_false.1 h j (List.mem_range.2 hj)
  simpa using this

/-- A slice within a tree as a block of its own. -/
def subB (k : Option (Nat × TypeId)) (nv : Nat) (es : List (List V)) : Option Blk :=
  match k with
  | some (st, ty) => some (if hasSub st ty then .tree nv true st ty es none else .arr nv true st ty es)
  | none => none
def subC (k : Option (Nat × TypeId)) (id nv n : Nat) : C :=
  match k with
  | some (st, ty) => if hasSub st ty then .tr id nv n else .own id nv n
  | none => .v (.sl [])
/-- The cells of a tree's element that stands open: its slices that hold something are own blocks, named from base on. -/
def openC (k : Option (Nat × TypeId)) (id nv : Nat) : V → C
  | .sl (_ :: ys) => subC k id nv (ys.length + 1)
  | x => .v x
def openCs (ty : TypeId) (base nv : Nat) : Nat → List V → List C
  | _, [] => []
  | j, x :: xs => openC (tsub ty j) (base + j) nv x :: openCs ty base nv (j + 1) xs
theorem openCs_at {ty : TypeId} {base nv : Nat} : ∀ {e : List V} {k : Nat}, (openCs ty base nv k e).length = e.length ∧ ∀ (j : Nat) y, (openCs ty base nv k e)[j]? = some y → ∃ x, e[j]? = some x ∧ y = openC (tsub ty (k + j)) (base + (k + j)) nv x
  | [], _ => ⟨rfl, fun j y h => by simp [openCs] at h⟩
  | x :: e, k => by
    obtain ⟨h1, h2⟩ := openCs_at (ty := ty) (base := base) (nv := nv) (e := e) (k := k + 1)
    refine ⟨by simp [openCs, h1], fun j y h => ?_⟩
    cases j with
    | zero => simp [openCs] at h; exact ⟨x, rfl, h.symm⟩
    | succ j =>
      obtain ⟨z, h3, h4⟩ := h2 j y (by simpa [openCs] using h)
      exact ⟨z, by simpa using h3, by rw [h4, show k + 1 + j = k + (j + 1) from by omega]⟩
def openB (ty : TypeId) (nv : Nat) (e : List V) (j : Nat) : Option Blk :=
  match e[j]? with
  | some (.sl (y :: ys)) => subB (tsub ty j) nv (y :: ys)
  | _ => none
/-- The blocks when a tree's element is opened. -/
def openH (H : HMap) (id ver st : Nat) (ty : TypeId) (es : List (List V)) (i : Nat) (e : List V) (base nv : Nat) : HMap := fun n =>
  if n = id then some (.tree ver true st ty es (some (i, openCs ty base nv 0 e))) else if base ≤ n ∧ n < base + st then openB ty nv e (n - base) else H n

theorem openB_some {ty : TypeId} {nv : Nat} {e : List V} {j : Nat} {B : Blk} (h : openB ty nv e j = some B) : ∃ es st' ty', e[j]? = some (.sl es) ∧ es ≠ [] ∧ tsub ty j = some (st', ty') ∧ B = if hasSub st' ty' then .tree nv true st' ty' es none else .arr nv true st' ty' es := by
  unfold openB at h
  split at h
  · rename_i y ys he
    unfold subB at h
    split at h
    · rename_i st' ty' hk
      cases h
      exact ⟨_, st', ty', he, by simp, hk, rfl⟩
    · cases h
  · cases h

def rootOf : Option Value → Option Nat
  | some (.slice (some ⟨b, _, _⟩) _ _) => some b
  | _ => none

theorem gh_open {H : HMap} {c id ver st : Nat} {ty : TypeId} {es : List (List V)} {i : Nat} {e : List V} (base : Nat) (hB : H id = some (.tree ver true st ty es none)) (he : es[i]? = some e) (hid : base ≤ id → base + st ≤ id) :
    Gh H c (openH H id ver st ty es i e base c) (c + 1) := by
  refine ⟨Nat.le_succ c, fun w imm L hH => ?_⟩
  have hne : H id ≠ none := by simp [hB]
  obtain ⟨hu, hst, hle, _, hsi, hq⟩ := hH.blk id _ hB
  have hel : e.length = st := hle e (List.mem_of_getElem? he)
  have hil : i < es.length := (List.getElem?_eq_some_iff.1 he).1
  rcases hq with ⟨_, hq⟩ | ⟨g, cur, part, hg, hh, hsz, hp, hd, hcells, _, hi⟩
  · rw [hq] at he; simp at he
  have hat : ∀ j x, e[j]? = some x → ∃ u, cur[i * st + j]? = some u ∧ VTree w (tsub ty j) u x (part i j) := fun j x hx => hcells i j x (by simp [at2, he, hx]) (by simp)
  -- what stands behind a slice that holds something
  have hinv : ∀ j ys, e[j]? = some (.sl ys) → ys ≠ [] → ∀ st' ty', tsub ty j = some (st', ty') → ∃ (b cap : Nat) (cur' : Array Value) (part' : Nat → Nat → Nat → Prop) (vals : Nat → Nat → Value), cur[i * st + j]? = some (.slice (some ⟨b, 0, none⟩) ys.length cap) ∧ 0 < st' ∧ ys.length ≤ cap ∧ cap ≤ maxLen ∧ (∀ e ∈ ys, e.length = st') ∧
      w.heap[b]? = some (.cells cur' ty' (0, 0)) ∧ cur'.size = cap * st' ∧ part i j b ∧ (∀ i2 j2 b', part' i2 j2 b' → part i j b' ∧ b' ≠ b) ∧ (∀ i j i' j' b', part' i j b' → part' i' j' b' → i = i' ∧ j = j') ∧
      (∀ i2 j2 x, at2 ys i2 j2 = some x → cur'[i2 * st' + j2]? = some (vals i2 j2)) ∧ ∀ i2 j2 x, at2 ys i2 j2 = some x → VTree w (tsub ty' j2) (vals i2 j2) x (part' i2 j2) := by
    intro j ys hx hys st' ty' hk
    obtain ⟨u, h1, h2⟩ := hat j _ hx
    rw [hk] at h2
    cases h2 with
    | nil => exact absurd rfl hys
    | sl _ _ _ b cap cur' part' vals hst' hcap hm hl hh' hsz' hb hp' hd' hc hr => exact ⟨b, cap, cur', part', vals, h1, hst', hcap, hm, hl, hh', hsz', hb, hp', hd', hc, hr⟩
  let R := fun n => base ≤ n ∧ n < base + st
  let H' := openH H id ver st ty es i e base c
  let L' : Locs := ⟨fun n => if n = id then L id else if base ≤ n ∧ n < base + st then rootOf cur[i * st + (n - base)]? else L n,
    fun n => if n = id then (fun b => L.sub id b ∧ ∀ j, ¬ part i j b) else if base ≤ n ∧ n < base + st then (fun b => part i (n - base) b ∧ rootOf cur[i * st + (n - base)]? ≠ some b) else L.sub n⟩
  have hHid : H' id = some (.tree ver true st ty es (some (i, openCs ty base c 0 e))) := by simp [H', openH]
  have hRid : ¬ (base ≤ id ∧ id < base + st) := fun ⟨h1, h2⟩ => by have := hid h1; omega
  have hHr : ∀ n, base ≤ n ∧ n < base + st → H' n = openB ty c e (n - base) := fun n hn => by
    have : n ≠ id := fun e2 => hRid (e2 ▸ hn)
    simp only [H', openH, if_neg this, if_pos hn]
  have hLid : L' id = some g := by simp [L', hg]
  have hSid : L'.sub id = fun b => L.sub id b ∧ ∀ j, ¬ part i j b := by simp [L']
  have hLr : ∀ n, base ≤ n ∧ n < base + st → L' n = rootOf cur[i * st + (n - base)]? := fun n hn => by
    have : n ≠ id := fun e2 => hRid (e2 ▸ hn)
    simp only [L', if_neg this, if_pos hn]
  have hSr : ∀ n, base ≤ n ∧ n < base + st → L'.sub n = fun b => part i (n - base) b ∧ rootOf cur[i * st + (n - base)]? ≠ some b := fun n hn => by
    have : n ≠ id := fun e2 => hRid (e2 ▸ hn)
    simp only [L', if_neg this, if_pos hn]
  have hcase : ∀ m, ¬ (m ≠ id ∧ ¬ (base ≤ m ∧ m < base + st)) → m = id ∨ (base ≤ m ∧ m < base + st) := fun m h => by
    by_cases h1 : m = id
    · exact .inl h1
    · exact .inr (Classical.byContradiction fun h2 => h ⟨h1, h2⟩)
  -- an open slice's blocks lie in its part
  have hOr : ∀ n b, (base ≤ n ∧ n < base + st) → H' n ≠ none → L'.Own n b → part i (n - base) b := fun n b hn hne' hO => by
    rw [hHr n hn] at hne'
    cases hB' : openB ty c e (n - base) with
    | none => exact absurd hB' hne'
    | some B =>
      obtain ⟨ys, st', ty', h1, h2, h3, _⟩ := openB_some hB'
      obtain ⟨b0, cap, cur', part', vals, q1, _, _, _, _, _, _, q8, _⟩ := hinv _ ys h1 h2 st' ty' h3
      rcases hO with hO | hO
      · rw [hLr n hn, q1] at hO
        simp only [rootOf, Option.some.injEq] at hO
        exact hO ▸ q8
      · rw [hSr n hn] at hO; exact hO.1
  have hOid : ∀ b, L'.Own id b → L.Own id b := fun b hO => by
    rcases hO with hO | hO
    · rw [hLid] at hO; exact .inl (hg.trans hO)
    · rw [hSid] at hO; exact .inr hO.1
  have hmix : ∀ n b, (base ≤ n ∧ n < base + st) → H' n ≠ none → L'.Own n b → L'.Own id b → False := fun n b hn hne' hO hO' => by
    have h1 := hOr n b hn hne' hO
    rcases hO' with hO' | hO'
    · rw [hLid] at hO'
      exact (hH.sub id b hne (hp _ _ _ h1)).2 (hg.trans hO')
    · rw [hSid] at hO'; exact hO'.2 _ h1
  obtain ⟨k1, k2, k3, k4⟩ := upd_many (w' := w) (imm' := imm) (H' := H') (L' := L') (U' := (· < c + 1)) hH (fun n => n ≠ id ∧ ¬ (base ≤ n ∧ n < base + st)) rfl rfl rfl (Nat.le_refl _)
    (fun n hn => ⟨by simp only [H', openH, if_neg hn.1, if_neg hn.2], by simp only [L', if_neg hn.1, if_neg hn.2], by simp only [L', if_neg hn.1, if_neg hn.2]⟩) (fun _ _ _ => rfl) (fun _ _ h => ⟨h, rfl⟩) (fun _ _ h => .inl h)
    (fun m b hm hne' hO => by
      have : L.Own id b := by
        rcases hcase m hm with rfl | hm
        · exact hOid b hO
        · exact .inr (hp _ _ _ (hOr m b hm hne' hO))
      exact ⟨.inl ⟨id, fun h => h.1 rfl, hne, this⟩, hH.lt hne this⟩)
    (fun n m g' hn hm hn1 hm1 hO hO' => by
      rcases hcase n hn with rfl | hn' <;> rcases hcase m hm with rfl | hm'
      · rfl
      · exact (hmix m g' hm' hm1 hO' hO).elim
      · exact (hmix n g' hn' hn1 hO hO').elim
      · have h1 := hd _ _ _ _ _ (hOr n g' hn' hn1 hO) (hOr m g' hm' hm1 hO')
        omega)
    (fun n g' hn hn1 hO e2 => by
      rcases hcase n hn with rfl | hn'
      · rw [hLid] at e2
        rw [hSid] at hO
        exact (hH.sub n g' hne hO.1).2 (hg.trans e2)
      · rw [hSr n hn'] at hO
        rw [hLr n hn'] at e2
        exact hO.2 e2)
    (fun v h => Nat.lt_succ_of_lt h)
    (fun n B hn hB' => by
      rcases hcase n hn with rfl | hn'
      · rw [hHid] at hB'; cases hB'
        exact .inr (.inr (.inr ⟨ver, true, st, ty, es, _, true, es, none, rfl, hB, Nat.le_refl _, hLid.trans hg.symm, fun g2 cur2 _ h => ⟨cur2, h, rfl⟩⟩))
      · rw [hHr n hn'] at hB'
        obtain ⟨ys, st', ty', _, _, _, rfl⟩ := openB_some hB'
        refine .inl ?_
        split <;> exact Nat.lt_irrefl c)
    (fun hE n B hn hB' => by
      rcases hcase n hn with rfl | hn'
      · rw [hHid] at hB'; cases hB'
        have hol := openCs_at (ty := ty) (base := base) (nv := c) (e := e) (k := 0)
        refine ⟨Nat.lt_succ_of_lt hu, hst, hle, fun i2 cs h => ?_, fun b o hb ho => ?_, .inr ⟨g, cur, fun i2 j2 b => i2 ≠ i ∧ part i2 j2 b, hLid, hh, hsz, fun i2 j2 b hb => ?_, fun i1 j1 i2 j2 b h1 h2 => hd _ _ _ _ _ h1.2 h2.2, fun i2 j2 x hx hne2 => ?_, fun i2 cs h => ?_, hi⟩⟩
        · cases h; exact ⟨rfl, hil, by rw [hol.1, hel]⟩
        · rw [hSid] at hb; exact hsi b o hb.1 ho
        · rw [hSid]
          exact ⟨hp _ _ _ hb.2, fun j hj => hb.1 (hd _ _ _ _ _ hb.2 hj).1⟩
        · have hne3 : i2 ≠ i := fun e2 => hne2 (by simp [e2])
          obtain ⟨u, h1, h2⟩ := hcells i2 j2 x hx (by simp)
          exact ⟨u, h1, h2.frame (fun b hb => ⟨hne3, hb⟩) fun _ _ => rfl⟩
        · cases h
          have hbound : i * st + st ≤ cur.toList.length := by have := Nat.mul_le_mul_right st hil; rw [Nat.succ_mul] at this; rw [Array.length_toList]; omega
          refine ⟨by rw [hol.1, hel, List.length_take, List.length_drop]; omega, fun j u y hu hy => ?_⟩
          obtain ⟨x, h1, rfl⟩ := hol.2 j y hy
          rw [Nat.zero_add]
          have hj : j < st := by have := (List.getElem?_eq_some_iff.1 h1).1; omega
          rw [List.getElem?_take_of_lt hj, List.getElem?_drop, Array.getElem?_toList] at hu
          obtain ⟨u', h2, h3⟩ := hat j x h1
          rw [hu] at h2; cases h2
          cases x with
          | s z =>
            have hk : tsub ty j = none := by generalize hk : tsub ty j = k at h3; cases h3; rfl
            rw [hk] at h3
            cases h3 with
            | s _ ho => exact VRep.s _ ho
          | sl ys =>
            cases ys with
            | nil =>
              have : ∃ a cap, u = .slice a 0 cap := by
                generalize tsub ty j = k at h3
                cases h3 with
                | nil a cap => exact ⟨_, _, rfl⟩
                | sl _ _ _ b cap => exact ⟨_, _, rfl⟩
              obtain ⟨a, cap, rfl⟩ := this
              exact VRep.nil a cap
            | cons y ys =>
              obtain ⟨st', ty', hk⟩ : ∃ st' ty', tsub ty j = some (st', ty') := by generalize tsub ty j = k at h3; cases h3; exact ⟨_, _, rfl⟩
              obtain ⟨b, cap, cur', part', vals, q1, q2, q3, q4, q5, q6, q7, q8, q9, q10, q11, q12⟩ := hinv j _ h1 (by simp) st' ty' hk
              rw [hu] at q1; cases q1
              have hn2 : base ≤ base + j ∧ base + j < base + st := ⟨by omega, by omega⟩
              have hB2 : H' (base + j) = some (if hasSub st' ty' then .tree c true st' ty' (y :: ys) none else .arr c true st' ty' (y :: ys)) := by
                rw [hHr _ hn2, Nat.add_sub_cancel_left]; simp only [openB, h1, subB, hk]
              have hL2 : L' (base + j) = some b := by rw [hLr _ hn2, Nat.add_sub_cancel_left, hu]; rfl
              simp only [openC, subC, hk]
              cases hs : hasSub st' ty' with
              | true =>
                rw [hs] at hB2
                simp only [if_true] at hB2 ⊢
                refine ⟨Nat.lt_succ_self c, ⟨_, _, rfl, q3⟩, fun wr2 st2 ty2 es2 op2 h => ?_⟩
                rw [hB2] at h; cases h
                exact ⟨Nat.le_refl _, .inr ⟨b, cap, cur', hL2, rfl, q6, q3, q4, q7⟩⟩
              | false =>
                rw [hs] at hB2
                simp only [Bool.false_eq_true, if_false] at hB2 ⊢
                refine ⟨Nat.lt_succ_self c, ⟨_, _, rfl, q3⟩, fun wr2 st2 ty2 es2 h => ?_⟩
                rw [hB2] at h; cases h
                exact ⟨Nat.le_refl _, .inr ⟨b, cap, cur', hL2, rfl, q6, q3, q4, q7⟩⟩
      · have hB0 := hB'
        rw [hHr n hn'] at hB'
        obtain ⟨ys, st', ty', h1, h2, h3, rfl⟩ := openB_some hB'
        obtain ⟨b, cap, cur', part', vals, q1, q2, q3, q4, q5, q6, q7, q8, q9, q10, q11, q12⟩ := hinv _ ys h1 h2 st' ty' h3
        have hLb : L' n = some b := by rw [hLr n hn', q1]; rfl
        have hsize : ys.length * st' ≤ cur'.size := by rw [q7]; exact Nat.mul_le_mul_right _ q3
        have him : ∀ o, ¬ imm b o := fun o ho => by have := hsi b o (hp _ _ _ q8) ho; cases this
        cases hs : hasSub st' ty' with
        | true =>
          refine ⟨Nat.lt_succ_self c, q2, q5, fun i cs h => (by cases h), fun _ _ _ _ => ?_, .inr ⟨b, cur', part', hLb, q6, hsize, fun i2 j2 b' hb' => ?_, q10, fun i2 j2 x hx _ => ⟨_, q11 i2 j2 x hx, q12 i2 j2 x hx⟩, fun i cs h => (by cases h), fun o ho => (him o ho).elim⟩⟩
          · rename_i b' o' hb' ho'
            rw [hSr n hn'] at hb'
            have := hsi b' o' (hp _ _ _ hb'.1) ho'; cases this
          · rw [hSr n hn']
            refine ⟨(q9 i2 j2 b' hb').1, ?_⟩
            rw [q1]
            simp only [rootOf, ne_eq, Option.some.injEq]
            exact fun e2 => (q9 i2 j2 b' hb').2 e2.symm
        | false =>
          refine ⟨Nat.lt_succ_self c, q2, q5, .inr ⟨b, cur', hLb, q6, hsize, fun i2 e2 he2 j2 y hy => ?_, fun o ho => (him o ho).elim⟩⟩
          have hj2 : j2 < st' := by have := q5 e2 (List.mem_of_getElem? he2); rw [← this]; exact (List.getElem?_eq_some_iff.1 hy).1
          have hx2 : at2 ys i2 j2 = some y := by simp [at2, he2, hy]
          have h4 := q12 i2 j2 y hx2
          rw [hasSub_f hs hj2] at h4
          refine ⟨_, q11 i2 j2 y hx2, ?_⟩
          generalize vals i2 j2 = u at h4
          cases h4 with
          | s _ ho => exact .s _ ho)
  exact ⟨L', k1, k2, k3, k4⟩

/-- The blocks when a tree's element is closed. -/
def closeH (H : HMap) (id : Nat) (B : Blk) (ns : List Nat) : HMap := fun n => if n = id then some B else if n ∈ ns then none else H n

theorem gh_close {H : HMap} {c id ver st : Nat} {ty : TypeId} {es : List (List V)} {i : Nat} {cs : List C} {e' : List V} {ns : List Nat} (hB : H id = some (.tree ver true st ty es (some (i, cs)))) (hm : moveCs H ty 0 cs = some (e', ns)) (hnd : ns.Nodup) (hni : id ∉ ns) :
    Gh H c (closeH H id (.tree ver true st ty (es.set i e') none) ns) c := by
  refine ⟨Nat.le_refl c, fun w imm L hH => ?_⟩
  have hne : H id ≠ none := by simp [hB]
  obtain ⟨hu, hst, hle, hop, hsi, hq⟩ := hH.blk id _ hB
  obtain ⟨_, hil, hcl⟩ := hop _ _ rfl
  rcases hq with ⟨_, hq⟩ | ⟨g, cur, part, hg, hh, hsz, hp, hd, hcells, hcs, hi⟩
  · rw [hq] at hil; simp at hil
  obtain ⟨m1, m2, f, m3, m4, m5⟩ := moveCs_ok hH hm (hcs _ _ rfl)
  let H' := closeH H id (.tree ver true st ty (es.set i e') none) ns
  let L' : Locs := ⟨fun n => if n ∈ ns then none else L n, fun n => if n = id then (fun b => L.sub id b ∨ OwnS imm L ns b) else if n ∈ ns then noB else L.sub n⟩
  have hHid : H' id = some (.tree ver true st ty (es.set i e') none) := by simp [H', closeH]
  have hHn : ∀ n, n ∈ ns → H' n = none := fun n hn => by
    have : n ≠ id := fun e => hni (e ▸ hn)
    simp only [H', closeH, if_neg this, if_pos hn]
  have hLid : L' id = some g := by simp [L', hni, hg]
  have hSid : L'.sub id = fun b => L.sub id b ∨ OwnS imm L ns b := by simp [L']
  have hcase : ∀ m, ¬ (m ≠ id ∧ m ∉ ns) → H' m ≠ none → m = id := fun m h h2 => by
    by_cases h1 : m = id
    · exact h1
    · by_cases h3 : m ∈ ns
      · exact absurd (hHn m h3) h2
      · exact absurd ⟨h1, h3⟩ h
  have hapart : ∀ b, L.Own id b → OwnS imm L ns b → False := fun b h1 ⟨n, h2, h3, _⟩ => hni (hH.inj id n b hne (m2 n h2) h1 h3 ▸ h2)
  obtain ⟨k1, k2, k3, k4⟩ := upd_many (w' := w) (imm' := imm) (H' := H') (L' := L') (U' := (· < c)) hH (fun n => n ≠ id ∧ n ∉ ns) rfl rfl rfl (Nat.le_refl _)
    (fun n hn => ⟨by simp only [H', closeH, if_neg hn.1, if_neg hn.2], by simp only [L', if_neg hn.2], by simp only [L', if_neg hn.1, if_neg hn.2]⟩) (fun _ _ _ => rfl) (fun _ _ h => ⟨h, rfl⟩) (fun _ _ h => .inl h)
    (fun m b hm hne' hO => by
      have := hcase m hm hne'
      subst this
      rcases hO with hO | hO
      · rw [hLid] at hO; exact ⟨.inl ⟨m, fun h => h.1 rfl, hne, .inl (hg.trans hO)⟩, hH.lt hne (.inl (hg.trans hO))⟩
      · rw [hSid] at hO
        rcases hO with hO | ⟨n, h1, h2, _⟩
        · exact ⟨.inl ⟨m, fun h => h.1 rfl, hne, .inr hO⟩, hH.lt hne (.inr hO)⟩
        · exact ⟨.inl ⟨n, fun h => h.2 h1, m2 n h1, h2⟩, hH.lt (m2 n h1) h2⟩)
    (fun n m g' hn hm hn1 hm1 _ _ => (hcase n hn hn1).trans (hcase m hm hm1).symm)
    (fun n g' hn hn1 hO e2 => by
      have := hcase n hn hn1
      subst this
      rw [hLid] at e2
      rw [hSid] at hO
      rcases hO with hO | hO
      · exact (hH.sub n g' hne hO).2 (hg.trans e2)
      · exact hapart g' (.inl (hg.trans e2)) hO)
    (fun v h => h)
    (fun n B hn hB' => by
      have := hcase n hn (by simp [hB'])
      subst this
      rw [hHid] at hB'; cases hB'
      exact .inr (.inr (.inr ⟨ver, true, st, ty, _, none, true, es, _, rfl, hB, by simp, hLid.trans hg.symm, fun g2 cur2 _ h => ⟨cur2, h, rfl⟩⟩)))
    (fun hE n B hn hB' => by
      have := hcase n hn (by simp [hB'])
      subst this
      rw [hHid] at hB'; cases hB'
      refine ⟨hu, hst, fun e he => ?_, fun i2 cs h => (by cases h), fun b o hb ho => ?_, .inr ⟨g, cur, fun i2 j2 b => (i2 = i ∧ OwnS imm L (f j2) b) ∨ (i2 ≠ i ∧ part i2 j2 b), hLid, hh, by simpa using hsz, fun i2 j2 b hb => ?_, fun i1 j1 i2 j2 b h1 h2 => ?_, fun i2 j2 x hx _ => ?_, fun i2 cs h => (by cases h), hi⟩⟩
      · rcases List.mem_or_eq_of_mem_set he with h | h
        · exact hle e h
        · rw [h, m1, hcl]
      · rw [hSid] at hb
        rcases hb with hb | ⟨_, _, _, hb⟩
        · exact hsi b o hb ho
        · exact absurd ho (hb o)
      · rw [hSid]
        rcases hb with ⟨_, n', h1, h2⟩ | ⟨_, hb⟩
        · exact .inr ⟨n', m3 j2 n' h1, h2⟩
        · exact .inl (hp _ _ _ hb)
      · rcases h1 with ⟨rfl, n1, a1, a2, _⟩ | ⟨h1, h3⟩ <;> rcases h2 with ⟨h2, n2, b1, b2, _⟩ | ⟨h2, h4⟩
        · have e1 := hH.inj n1 n2 b (m2 n1 (m3 _ _ a1)) (m2 n2 (m3 _ _ b1)) a2 b2
          subst e1
          exact ⟨h2.symm, m4 hnd _ _ _ a1 b1⟩
        · exact (hapart b (.inr (hp _ _ _ h4)) ⟨n1, m3 _ _ a1, a2, by assumption⟩).elim
        · exact (hapart b (.inr (hp _ _ _ h3)) ⟨n2, m3 _ _ b1, b2, by assumption⟩).elim
        · exact hd _ _ _ _ _ h3 h4
      · by_cases hi2 : i2 = i
        · subst hi2
          simp only [at2, List.getElem?_set_self hil, Option.bind_some] at hx
          obtain ⟨u, h1, h2⟩ := m5 j2 x hx
          rw [Nat.zero_add] at h2
          have hj : j2 < st := by have := (List.getElem?_eq_some_iff.1 hx).1; omega
          rw [List.getElem?_take_of_lt hj, List.getElem?_drop, Array.getElem?_toList] at h1
          exact ⟨u, h1, h2.frame (fun b hb => .inl ⟨rfl, hb⟩) fun _ _ => rfl⟩
        · have hx' : at2 es i2 j2 = some x := by
            simp only [at2] at hx ⊢
            rwa [List.getElem?_set_ne (Ne.symm hi2)] at hx
          obtain ⟨u, h1, h2⟩ := hcells i2 j2 x hx' (by simpa using Ne.symm hi2)
          exact ⟨u, h1, h2.frame (fun b hb => .inr ⟨hi2, hb⟩) fun _ _ => rfl⟩)
  exact ⟨L', k1, k2, k3, k4⟩

theorem thinFrom_at {ty : TypeId} : ∀ {e : List V} {k : Nat}, thinFrom ty k e = true → ∀ (j : Nat) x, e[j]? = some x → (∃ y, x = .s y ∧ tsub ty (k + j) = none) ∨ (x = .sl [] ∧ tsub ty (k + j) ≠ none)
  | [], _, _, j, x, hx => by simp at hx
  | .s y :: e, k, h, j, x, hx => by
    simp only [thinFrom, Bool.and_eq_true, Option.isNone_iff_eq_none] at h
    cases j with
    | zero => simp at hx; subst hx; exact .inl ⟨y, rfl, h.1⟩
    | succ j => have := thinFrom_at h.2 j x (by simpa using hx); rw [show k + 1 + j = k + (j + 1) from by omega] at this; exact this
  | .sl [] :: e, k, h, j, x, hx => by
    simp only [thinFrom, Bool.and_eq_true, Option.isSome_iff_ne_none] at h
    cases j with
    | zero => simp at hx; subst hx; exact .inr ⟨rfl, h.1⟩
    | succ j => have := thinFrom_at h.2 j x (by simpa using hx); rw [show k + 1 + j = k + (j + 1) from by omega] at this; exact this
  | .sl (_ :: _) :: e, k, h, j, x, hx => by simp [thinFrom] at h

/-- An own array as a tree: what refers to it is told anew. -/
theorem plant_ok {w : World} {imm : Imm} {H : HMap} {L : Locs} {c id v0 st : Nat} {ty : TypeId} {es : List (List V)} (hH : HOk w imm H L (· < c)) (hB : H id = some (.arr v0 true st ty es)) (ht : ∀ e ∈ es, thinFrom ty 0 e = true) :
    HOk w imm (upd H id (some (.tree c true st ty es none))) (L.up id (L id) noB) (· < c + 1) ∧ Ext w H L (· < c) w (upd H id (some (.tree c true st ty es none))) (L.up id (L id) noB) (· < c + 1) ∧ Step w imm (foot H L) w imm ∧ Near w (foot H L) (upd H id (some (.tree c true st ty es none))) (L.up id (L id) noB) ∧
      ∀ x n, CRep w imm H L (· < c) x (.own id v0 n) → CRep w imm (upd H id (some (.tree c true st ty es none))) (L.up id (L id) noB) (· < c + 1) x (.tr id c n) := by
  have hne : H id ≠ none := by simp [hB]
  obtain ⟨hu, hst, hle, hq⟩ := hH.blk id _ hB
  obtain ⟨h1, h2, h3, h4⟩ := upd_all (w' := w) (imm' := imm) (U' := (· < c + 1)) hH id (.tree c true st ty es none) (L id) noB rfl rfl rfl (Nat.le_refl _) (fun _ _ _ => rfl) (fun _ _ h => ⟨h, rfl⟩) (fun _ _ h => .inl h)
    (fun g hg => .inr ⟨hne, hg.elim .inl fun h => h.elim⟩) (fun _ h => h.elim) (fun _ h => Nat.lt_succ_of_lt h) (.inl (Nat.lt_irrefl c))
    (fun m he hm => by
      subst hm
      refine ⟨Nat.lt_succ_self c, hst, hle, fun i cs h => (by cases h), fun b o hb _ => ?_, ?_⟩
      · rw [Locs.up_sub] at hb; exact hb.elim
      · rcases hq with ⟨hq, h0⟩ | ⟨g, cur, hg, hh, hsz, hcs, hi⟩
        · exact .inl ⟨by rw [Locs.up_at]; exact hq, h0⟩
        · refine .inr ⟨g, cur, fun _ _ => noB, by rw [Locs.up_at]; exact hg, hh, hsz, fun _ _ _ h => h.elim, fun _ _ _ _ _ h => h.elim, fun i j x hx _ => ?_, fun i cs h => (by cases h), fun o ho => (hi o ho).1⟩
          rw [at2, Option.bind_eq_some_iff] at hx
          obtain ⟨e, he1, he2⟩ := hx
          obtain ⟨u, hu1, hu2⟩ := hcs i e he1 j x he2
          refine ⟨u, hu1, ?_⟩
          rcases thinFrom_at (ht e (List.mem_of_getElem? he1)) j x he2 with ⟨y, rfl, hk⟩ | ⟨rfl, hk⟩
          · rw [Nat.zero_add] at hk
            rw [hk]
            cases hu2 with
            | s _ ho => exact .s _ ho
          · rw [Nat.zero_add] at hk
            cases hk2 : tsub ty j with
            | none => exact absurd hk2 hk
            | some k =>
              cases hu2 with
              | nil a cap => exact .nil a cap
              | sl _ _ _ _ _ _ _ hne => exact absurd rfl hne)
  refine ⟨h1, h2, h3, h4, fun x n hx => ?_⟩
  obtain ⟨_, a2, a3⟩ := hx
  refine ⟨Nat.lt_succ_self c, a2, fun wr st' ty' es' op' h => ?_⟩
  rw [upd_same] at h; cases h
  rw [Locs.up_at]
  exact a3 _ _ _ _ hB

/-- An own array that a variable's cell holds becomes a tree. -/
theorem gh_plant {H : HMap} {c n j id v0 m st v : Nat} {aty ty : TypeId} {es : List (List V)} {cs : List C} (h1 : H n = some (.var v ty cs)) (h2 : cs[j]? = some (.own id v0 m)) (h3 : H id = some (.arr v0 true st aty es)) (ht : ∀ e ∈ es, thinFrom aty 0 e = true) :
    Gh H c (upd (upd H id (some (.tree c true st aty es none))) n (some (.var v ty (putC cs j [.tr id c m])))) (c + 1) := by
  refine ⟨Nat.le_succ c, fun w imm L hH => ?_⟩
  obtain ⟨a1, a2, a3, a4, a5⟩ := plant_ok hH h3 ht
  have hne : n ≠ id := fun e => by rw [e, h3] at h1; cases h1
  have h1' : upd H id (some (.tree c true st aty es none)) n = some (.var v ty cs) := by rw [upd_ne _ _ hne]; exact h1
  have hjl : j < cs.length := (List.getElem?_eq_some_iff.1 h2).1
  obtain ⟨_, g0, cur0, hg0, hh0, hrep0, _⟩ := hH.blk n _ h1
  have hb1 := a1.blk n _ h1'
  obtain ⟨b1, g, cur, b2, b3, b4, b5⟩ := hb1
  have hgg : g0 = g := by rw [Locs.up_ne _ _ _ hne] at b2; rw [hg0] at b2; exact Option.some.inj b2
  subst hgg
  rw [hh0] at b3; cases b3
  have hre : CsRep w imm (upd H id (some (.tree c true st aty es none))) (L.up id (L id) noB) (· < c + 1) cur0.toList (putC cs j [.tr id c m]) := by
    have hpl : (putC cs j [C.tr id c m]).length = cs.length := by simp [putC]; omega
    refine ⟨by rw [hpl]; exact b4.1, fun k u y hu hy => ?_⟩
    by_cases hk : k = j
    · subst hk
      have : y = .tr id c m := by
        simp only [putC, List.append_assoc] at hy
        rw [List.getElem?_append_right (by simp; omega)] at hy
        have e0 : k - (cs.take k).length = 0 := by simp; omega
        rw [e0] at hy
        simpa using hy.symm
      subst this
      exact a5 u m (hrep0.2 k u _ hu h2)
    · refine b4.2 k u y hu ?_
      rw [← hy]
      simp only [putC, List.append_assoc]
      rcases Nat.lt_or_ge k j with hlt | hge
      · rw [List.getElem?_append_left (by simp; omega), List.getElem?_take, if_pos hlt]
      · rw [List.getElem?_append_right (by simp; omega)]
        have e0 : k - (cs.take j).length = (k - j - 1) + 1 := by simp; omega
        rw [e0]
        simp only [List.singleton_append, List.getElem?_cons_succ, List.getElem?_drop, List.length_singleton]
        congr 1
        omega
  have hL : (L.up id (L id) noB).up n ((L.up id (L id) noB) n) ((L.up id (L id) noB).sub n) = L.up id (L id) noB := Locs.up_self _ _
  obtain ⟨k1, k2, k3, k4⟩ := upd_all (w' := w) (imm' := imm) (U' := (· < c + 1)) a1 n (.var v ty (putC cs j [.tr id c m])) ((L.up id (L id) noB) n) ((L.up id (L id) noB).sub n) rfl rfl rfl (Nat.le_refl _) (fun _ _ _ => rfl) (fun _ _ h => ⟨h, rfl⟩) (fun _ _ h => .inl h)
    (fun g hg => .inr ⟨by simp [h1'], hg⟩) (fun g h => (a1.sub n g (by simp [h1']) h).2) (fun _ h => h) (.inr (.inl ⟨v, ty, _, ty, cs, rfl, h1', rfl⟩))
    (fun m2 he hm => by
      subst hm
      rw [hL] at he ⊢
      exact ⟨b1, g0, cur0, b2, hh0, hre.mono (fun _ _ h => ⟨h, rfl⟩) he, b5⟩)
  rw [hL] at k1 k2 k4
  obtain ⟨s1, s2⟩ := Step.trans a3 a4 k3 k4
  exact ⟨_, k1, a2.trans k2, s1, s2⟩

theorem any_isTr_map (xs : List V) : (xs.map C.v).any isTr = false := by induction xs <;> simp_all [isTr]

/-- An own array that a temporary holds becomes a tree. -/
theorem oneW.plantT {P : Program} {X : Ctx} {ac : ACode} {Q : Exit → St → Prop} {t : Nat → T} {H : HMap} {c : Nat} (i : Nat) {id v0 m st : Nat} {aty : TypeId} {es : List (List V)} (h1 : t i = .c (.own id v0 m)) (h3 : H id = some (.arr v0 true st aty es)) (ht : ∀ e ∈ es, thinFrom aty 0 e = true)
    (h : oneW P X ac Q ⟨upd t i (.c (.tr id c m)), upd H id (some (.tree c true st aty es none)), c + 1⟩) : oneW P X ac Q ⟨t, H, c⟩ := by
  refine oneW.re (fun X Q h => ?_) h
  intro cd hcc hm a w hS
  refine h cd hcc hm a w ?_
  obtain ⟨imm, L, hS⟩ := hS
  obtain ⟨a1, a2, a3, a4, a5⟩ := plant_ok hS.hok h3 ht
  obtain ⟨s3, s4⟩ := Step.trans hS.step hS.near a3 a4
  refine ⟨imm, _, a1, fun j => ?_, hS.size, hS.defers, s3, s4, hS.ext.trans a2⟩
  by_cases hj : j = i
  · subst hj
    have hx : TRep w imm H L (· < c) (a.tmps.getD j undef) (t j) := hS.tmp j
    rw [h1] at hx
    show TRep w imm _ _ _ (a.tmps.getD j undef) (upd t j _ j)
    rw [upd_same]
    exact a5 _ m hx
  · show TRep w imm _ _ _ (a.tmps.getD j undef) (upd t i _ j)
    rw [upd_ne _ _ hj]
    exact (hS.tmp j).mono (fun _ _ h => ⟨h, rfl⟩) a2

/-- A loop that counts to n; ahead of each round what stands is told anew. -/
theorem AW.uptoG {P : Program} {X : Ctx} {Q : Exit → St → Prop} {t : Nat → T} {H : HMap} {c : Nat} {x : ACode} (n : Nat) (I J : Nat → St → Prop) (h0 : I 0 ⟨t, H, c⟩)
    (re : ∀ i t H c, i ≤ n → I i ⟨t, H, c⟩ → ∃ H' c', Gh H c H' c' ∧ J i ⟨t, H', c'⟩)
    (round : ∀ i t H c, i ≤ n → J i ⟨t, H, c⟩ → wpa P X x (thenA (fun σ => i < n ∧ I (i + 1) σ) Q) ⟨t, H, c⟩) : oneW P X (.loop x) Q ⟨t, H, c⟩ :=
  AW.uptoA n I h0 fun i t H c hi hI => by
    obtain ⟨H', c', hg, hJ⟩ := re i t H c hi hI
    exact hg.one (oneW.of (round i t H' c' hi hJ))
theorem Gh.refl (H : HMap) (c : Nat) : Gh H c H c := ⟨Nat.le_refl c, fun _ _ L h => ⟨L, h, Ext.refl _ _ _ _, Step.refl _ _ _, Near.refl _ _ _⟩⟩
theorem openH_id (H : HMap) (id ver st : Nat) (ty : TypeId) (es : List (List V)) (i : Nat) (e : List V) (base nv : Nat) : openH H id ver st ty es i e base nv id = some (.tree ver true st ty es (some (i, openCs ty base nv 0 e))) := if_pos rfl
theorem openH_in (H : HMap) (id ver st : Nat) (ty : TypeId) (es : List (List V)) (i : Nat) (e : List V) (base nv j : Nat) (h1 : base + j ≠ id) (h2 : j < st) : openH H id ver st ty es i e base nv (base + j) = openB ty nv e j := by
  simp only [openH, if_neg h1, if_pos (show base ≤ base + j ∧ base + j < base + st from ⟨by omega, by omega⟩), Nat.add_sub_cancel_left]
theorem closeH_id (H : HMap) (id : Nat) (B : Blk) (ns : List Nat) : closeH H id B ns id = some B := if_pos rfl
/-- A hand by which a callee gives a tree. -/
abbrev newT (c m st : Nat) (ty : TypeId) (es : List (List V)) : Hand := ⟨c, m, none, .tree 0 true st ty es none, false⟩
/-- A hand by which a callee works in place on a tree. -/
abbrev trH (n m v st : Nat) (ty : TypeId) (es es' : List (List V)) : Hand := ⟨n, m, some (.tree v true st ty es none), .tree v true st ty es' none, true⟩
end Go.V
namespace Go.V
attribute [go_sem] List.contains_nil List.getElem?_nil upd_at Nat.zero_ne_one Nat.one_ne_zero Nat.succ_ne_self or_true true_or and_true true_and or_false false_or decide_true decide_false Bool.not_true Bool.not_false Bool.false_eq_true ev_t ev_k grd_tt grd_ff grd_tf grd_ft grd_u wpa_skip wpa_regA wpa_seq wpa_cond wpa_block wpa_loop wpa_exit wpa_ret ifW_t ifW_f KontA_mk thenW_n thenW_e thenW_r inW_n inW_r inW_e thenA_n thenA_e thenA_r endA_n endA_r DRun_mk DRun_g_eq lenA_nil lenA_cons DRun_nil step_mv step_pick step_alloc step_box step_build step_bsl step_ld step_st step_nck step_bin step_binB step_cmpA eqK.eq_1 eqK.eq_2 eqK.eq_3 eqK.eq_4 step_un step_cnvI step_mkf step_mks step_slc step_slc0 step_slcS step_fa step_fl step_ia step_ix step_ext step_cnvBS step_cnvSB step_appS step_isnil step_len step_lenS step_mmx step_mm3 step_iap step_ixA step_cpy step_app fin_pure fin_mk0 fin_mk1 fin_mk2 chk_nil chk_ro noW_nil noW_0 noW_1 noW_u0 chk_pure updD_some updD_none updH_nil updH_cons argsT_zero argsT_1 argsT_2 argsT_3 argsT_4 argsT_nil hinOf_nil hinOf_cons load_v load_va at_zero at_1 at_2 at_3 at_4 Option.map_some Option.map_none Option.getD_some Option.getD_none List.length_cons List.length_nil List.map_cons List.map_nil List.take_nil List.drop_nil List.take_succ_cons List.take_zero List.drop_succ_cons List.drop_zero List.append_nil List.nil_append List.cons_append core.eq_1 core.eq_2 core.eq_3 core.eq_4 core.eq_5 core.eq_6 core.eq_7 core.eq_8 core.eq_9 core.eq_10 core.eq_11 core.eq_12 core.eq_13 core.eq_14 core.eq_15 core.eq_16 core.eq_17 core.eq_18 core.eq_19 core.eq_20 core.eq_21 core.eq_22 core.eq_23 core.eq_24 core.eq_25 core.eq_26 core.eq_27 core.eq_28 core.eq_29 core.eq_30 core.eq_31 core.eq_32 core.eq_33 core.eq_34 core.eq_35 core.eq_36 core.eq_37 core.eq_38 ptrC.eq_5 storeT.eq_4 sealC.eq_5 verC.eq_9 verC.eq_10 verB.eq_3 Blk.ver.eq_3 trOf.eq_1 trOf.eq_2 hasTr.eq_1 hasTr.eq_2 isTr.eq_1 isTr.eq_2 any_isTr_map List.any_cons List.any_nil moveC.eq_1 moveC.eq_2 moveC.eq_3 moveC.eq_4 moveC.eq_5 moveCs.eq_1 moveCs.eq_2 movePs.eq_1 movePs.eq_2 tsub.eq_1 T.c.eq_1 T.s.eq_1 T.b.eq_1 T.i.eq_1 sBin.eq_1 sBin.eq_2 sBin.eq_3 sInt.eq_1 sInt.eq_2 sInt.eq_3 sInt.eq_4 sInt.eq_5 sInt.eq_6 sInt.eq_7 sInt.eq_8 sInt.eq_9 sInt.eq_10 sInt.eq_11 sInt.eq_12 sInt.eq_13 sInt.eq_14 sInt.eq_15 sInt.eq_16 sInt.eq_17 sUn.eq_1 sUn.eq_2 sUn.eq_3 isShift.eq_1 isShift.eq_2 isShift.eq_3 asInt.eq_1 asInt.eq_2 P1.cells.eq_1 P1.cells.eq_2 loadT.eq_1 ptrC.eq_1 ptrC.eq_2 ptrC.eq_3 ptrC.eq_4 storeT.eq_1 storeT.eq_2 storeT.eq_3 putC.eq_1 fillP.eq_1 fillP.eq_2 Bool.and_true Bool.and_false Bool.true_and Bool.false_and Bool.or_true Bool.or_false Bool.true_or Bool.false_or lendCs_map verC_map FinC.eq_1 resPs.eq_1 resPs.eq_2 resP.eq_1 resP.eq_2 lendPl.eq_1 lendPl.eq_2 lendPl.eq_3 lendPl.eq_4 lendCs.eq_1 lendCs.eq_2 lendCs.eq_3 lendC.eq_1 lendC.eq_2 sealC.eq_1 sealC.eq_2 sealC.eq_3 sealC.eq_4 partsT.eq_1 partsT.eq_2 partsT.eq_3 finHs.eq_1 finHs.eq_2 tupT.eq_1 tupT.eq_2 verT.eq_1 verT.eq_2 verT.eq_3 verT.eq_4 verP.eq_1 verP.eq_2 verC.eq_1 verC.eq_2 verC.eq_3 verC.eq_4 verC.eq_5 verC.eq_6 verC.eq_7 verC.eq_8 verB.eq_1 verB.eq_2 verAt.eq_1 Blk.ver.eq_1 Blk.ver.eq_2 handsAre.eq_1 handsAre.eq_2 chk_nl chk_cons List.all_cons List.all_nil List.contains_cons List.contains_append Bool.and_self Bool.or_self sealCs_map Nat.le_refl List.take_length List.length_append List.length_singleton srcOf.eq_1 srcOf.eq_2 srcOf.eq_3 srcOf.eq_4 srcOf.eq_5 srcOf.eq_6 sealPs.eq_1 sealPs.eq_2 sealPs.eq_3 sealCs.eq_1 sealCs.eq_2 toVs.eq_1 toVs.eq_2 toVs.eq_3 toVs.eq_4 List.mem_singleton Int.toNat_natCast eq_self forall_const forall_const endE_n endE_r disj.eq_1 beq_self_eq_true forall_eq Nat.reduceAdd reduceIte Nat.reduceEqDiff Nat.reduceLT Nat.reduceLeDiff reduceCtorEq Nat.reduceBEq
end Go.V

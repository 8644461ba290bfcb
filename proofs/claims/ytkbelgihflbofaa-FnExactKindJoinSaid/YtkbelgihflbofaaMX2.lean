/- For all schemas the program's KindJoin gives what the reference's gives, leaves its arguments as they were and shares no memory: the law returns true for every input, and its arguments read as before. Conditions: none. -/
import Derived.Test.YtkbelgihflbofaaMX1
set_option linter.unusedVariables false
set_option linter.unusedSimpArgs false
set_option maxRecDepth 20000
namespace Go.V
open Go.Proofs
section
variable {P : Program} {t : Nat → T} {H : HMap} {c : Nat} {f : Opd} {args : List Opd} {fid : FuncId} {argsC : List T} {ws : List (Nat × Blk)} {ns : List Nat} {k : Nat} {d : Option Nat} {un : List Nat} {l : List AOper} {prev : List (Nat × List Nat × List Nat)} {K : St → Prop}
/-- A call that makes a row that owns what it holds. -/
theorem callTn {n m N st : Nat} {ty : TypeId} {es : List (List V)} (hC : ACallsF P fid argsC [newT n m st ty es] (.c (.tr n 0 N))) (hf : ev t f = .pt (.one (.fn fid []))) (hl : lendTs H argsC (args.map (ev t)) = some (argsC, ws, ns)) (ha : argsC.all closedA = true)
    (hk : chk prev un ⟨.c (.tr m (c + k) N), [(m, .tree (c + k) true st ty es none)], ns ++ [m], [m]⟩ = true ∧ DRun P l ((k, ns ++ [m], [m]) :: prev) K ⟨updD t d (.c (.tr m (c + k) N)), upd H m (some (.tree (c + k) true st ty es none)), c⟩) :
    step P k d un (.call f args) l prev K t H c := by
  have hN : renN [newT n m st ty es] n = some (newT n m st ty es) := by simp [renN]
  refine callF (r' := .c (.tr m (c + k) N)) (ob := [(m, .tree (c + k) true st ty es none)]) [newT n m st ty es] hC hf hl ha (by simp) (by simp) (by simp) ?_ ?_ ?_ ?_
  · rfl
  · simp only [renOT, renOP, renO, hN, Option.map_some, verOf]; rfl
  · simp only [renOBs, renOB, verOf]; rfl
  · simpa [updH] using hk
/-- A call that works in place on a row that owns what it holds. -/
theorem callTm {n m v N st : Nat} {ty : TypeId} {es es' : List (List V)} {x r : T}
    (hC : ACallsF P fid [.c (.tr n v N), x] [trH n m v st ty es es'] r) (hf : ev t f = .pt (.one (.fn fid []))) (hl : args.map (ev t) = [.c (.tr m v N), x]) (hH : H m = some (.tree v true st ty es none)) (hx : closedA x = true) (hr : closedT r = true)
    (hk : chk prev un ⟨r, [(m, .tree v true st ty es' none)], [m], [m]⟩ = true ∧ DRun P l ((k, [m], [m]) :: prev) K ⟨updD t d r, upd H m (some (.tree v true st ty es' none)), c⟩) :
    step P k d un (.call f args) l prev K t H c := by
  have hN : renN [trH n m v st ty es es'] n = some (trH n m v st ty es es') := by simp [renN]
  obtain ⟨x1, x2⟩ := closed_A [trH n m v st ty es es'] H x hx
  refine callW (caps := []) («as» := [.c (.tr m v N), x]) (ws := []) (ns := []) (r' := r) (ob := [(m, .tree v true st ty es' none)]) [trH n m v st ty es es'] hC hf ?_ ?_ ⟨?_, trivial⟩ (by simp) (by simp) (closed_T _ r hr _) ?_ ?_
  · rw [hl]
    have a1 : lendT H (.c (.tr n v N)) (.c (.tr m v N)) = some (.c (.tr m v N), [], []) := rfl
    simp only [List.map_nil, List.append_nil, lendTs, a1, x1]
  · have a1 : renIT [trH n m v st ty es es'] (.c (.tr n v N)) = some (.c (.tr m v N)) := by simp only [renIT, renI, inN, hN, Option.bind_some, Option.map_some]
    simp only [renITs, a1, x2]
  · show (match renIB [trH n m v st ty es es'] (.tree v true st ty es none) with | some B => (updH H []) m = some B | none => False)
    simp only [renIB, updH]
    exact hH
  · simp only [renOBs, renOB, verOf, if_true, Blk.ver]
  · have hq : quiet r [trH n m v st ty es es'] = false := by simp [quiet]
    simpa [hq, updH] using hk
end
mutual
/-- What a kind counts. -/
def wK : Kd → Nat
  | .mk s ns ks => ((ns.length + wsum wS ns) + (ks.length + wKs ks))
def wKs : List Kd → Nat
  | [] => 0
  | k :: ks => wK k + wKs ks
end
theorem wKs_eq : ∀ ks, wKs ks = wsum wK ks
  | [] => by simp [wKs, wsum]
  | k :: ks => by simp [wKs, wsum, wKs_eq ks]
theorem wKs_take {ks : List Kd} {i : Nat} {x : Kd} (h : ks[i]? = some x) : wKs (ks.take (i + 1)) = wKs (ks.take i) + wK x := by rw [wKs_eq, wKs_eq]; exact wsum_take wK h
theorem wKs_le (ks : List Kd) (n : Nat) : wKs (ks.take n) ≤ wKs ks := by rw [wKs_eq, wKs_eq]; exact wsum_le wK ks n
theorem wKs_mem {ks : List Kd} {x : Kd} (h : x ∈ ks) : wK x ≤ wKs ks := by rw [wKs_eq]; exact wsum_mem wK h
/-- What counts little is small. -/
theorem KB_of : ∀ (y : Kd) (N : Nat), wK y ≤ N → KB N y := by
  intro y
  induction y using Kd.ind with
  | _ s ns ks ih =>
    intro N h
    simp only [wK] at h
    exact .mk _ _ _  (by omega) (by omega) (fun x hx => by have h1 := wsum_mem wS hx; have h2 : wS x = x.size := rfl; omega) fun k hk => ih k hk N (by have := wKs_mem hk; omega)
def ok20 := okF.gu (P := Try.prog) tab Try.func20 Try.ntmps20 (by conv => lhs; cbv) (by kernel_rfl)
def inv20 (xs : List Kd) (left : Int) (i : Nat) (σ : St) : Prop := ((xs.length + wKs (xs.take i) : Nat) : Int) ≤ left ∧ σ.t 0 = tL (encKs xs) ∧ σ.t 1 = .i (left - ((xs.length + wKs (xs.take i) : Nat) : Int)) ∧ σ.t 5 = .i i
theorem szKs_ok (xs : List Kd) (left : Int) (h0 : 0 ≤ left ∧ left ≤ 1048576) (hl : xs.length ≤ 9223372036854775807) (ih : ∀ x ∈ xs, ∀ left : Int, 0 ≤ left ∧ left ≤ 1048576 → ACallsF Try.prog 5 [tK x, .i left] [] (.i (sub1 left (wK x)))) : ACallsF Try.prog 20 [tL (encKs xs), .i left] [] (.i (sub1 left (xs.length + wKs xs))) := by
  refine ACallsF.intro ok20 follows fun X c0 => ?_
  have gw0 : IntKind.i64.wrap (left - xs.length) = left - xs.length := wrap64 ⟨by omega, by omega⟩
  by_cases hA : (xs.length : Int) ≤ left
  · have k0 : ¬ left - (xs.length : Int) < 0 := by omega
    simp only [go_sem, gw0, k0]
    refine AW.upto xs.length (inv20 xs left) ⟨by simpa [wKs] using hA, rfl, by show T.i (left - (xs.length : Int)) = _; simp [wKs], rfl⟩ fun i t H c hi h => ?_
    obtain ⟨g, e0, e1, e5⟩ := h
    simp only [T.c, T.i, tL] at e0 e1 e5
    by_cases hlt : i < xs.length
    · obtain ⟨x, hx⟩ : ∃ x, xs[i]? = some x := ⟨_, List.getElem?_eq_getElem hlt⟩
      have ex := encKs_at hx
      have k1 : (i : Int) < xs.length := by omega
      have gz : (0 : Int) ≤ i := by omega
      have gw : IntKind.i64.wrap ((i : Int) + 1) = ((i + 1 : Nat) : Int) := wrap64 (x := (i : Int) + 1) ⟨by omega, by omega⟩
      have hs := wKs_take hx
      have hle := wKs_le xs (i + 1)
      simp only [go_sem, e0, e1, e5, k1, gz, ex, Int.toNat_natCast, List.length_map, encK_len, takeK, Nat.le_refl]
      refine callC (ih x (List.mem_of_getElem? hx) _ ⟨by omega, by omega⟩) rfl rfl (by simp [closedA, closedP, closedC]) rfl ?_
      by_cases hB : ((wK x : Nat) : Int) ≤ left - ((xs.length + wKs (xs.take i) : Nat) : Int)
      · have k2 : sub1 (left - ((xs.length + wKs (xs.take i) : Nat) : Int)) (wK x) = left - ((xs.length + wKs (xs.take (i + 1)) : Nat) : Int) := by rw [sub1, if_pos hB]; omega
        have k3 : ¬ left - ((xs.length + wKs (xs.take (i + 1)) : Nat) : Int) < 0 := by omega
        simp only [go_sem, e5, k2, k3, gw]
        exact ⟨hlt, by omega, e0, rfl, rfl⟩
      · have k2 : sub1 (left - ((xs.length + wKs (xs.take i) : Nat) : Int)) (wK x) = -1 := by rw [sub1, if_neg hB]
        have k3 : sub1 left (xs.length + wKs xs) = -1 := by rw [sub1, if_neg (by omega)]
        simp only [go_sem, k2, k3, Int.reduceLT]
    · have k1 : ¬ (i : Int) < xs.length := by omega
      have hi2 : i = xs.length := by omega
      subst hi2
      rw [List.take_length] at g e1
      have k3 : sub1 left (xs.length + wKs xs) = left - ((xs.length + wKs xs : Nat) : Int) := by rw [sub1, if_pos g]
      simp only [go_sem, e0, e1, e5, k1, k3]
  · have k0 : left - (xs.length : Int) < 0 := by omega
    have k3 : sub1 left (xs.length + wKs xs) = -1 := by rw [sub1, if_neg (by omega)]
    simp only [go_sem, gw0, k0, k3]
def ok5 := okF.gu (P := Try.prog) tab Try.func5 Try.ntmps5 (by conv => lhs; cbv) (by kernel_rfl)
theorem szK_ok : ∀ (y : Kd), KB 9223372036854775807 y → ∀ left : Int, 0 ≤ left ∧ left ≤ 1048576 → ACallsF Try.prog 5 [tK y, .i left] [] (.i (sub1 left (wK y))) := by
  intro y
  induction y using Kd.ind with
  | _ s ns ks ih =>
    intro hB left h0
    obtain ⟨b1, b2, b3, b4⟩ := hB.inv
    rw [wK]
    refine ACallsF.intro ok5 follows fun X c0 => ?_
    simp only [go_sem, encK_mk]
    refine callC (szSs_ok ns left h0 b1 b3) rfl rfl rfl rfl ?_
    by_cases hA : ((ns.length + wsum wS ns : Nat) : Int) ≤ left
    · have k1 : sub1 left (ns.length + wsum wS ns) = left - ((ns.length + wsum wS ns : Nat) : Int) := by rw [sub1, if_pos hA]
      have k2 : ¬ left - ((ns.length + wsum wS ns : Nat) : Int) < 0 := by omega
      simp only [go_sem, k1, k2]
      refine callC (szKs_ok ks _ ⟨by omega, by omega⟩ b2 fun x hx => ih x hx (b4 x hx)) rfl rfl rfl rfl ?_
      by_cases hB : ((ks.length + wKs ks : Nat) : Int) ≤ left - ((ns.length + wsum wS ns : Nat) : Int)
      · have k3 : sub1 (left - ((ns.length + wsum wS ns : Nat) : Int)) (ks.length + wKs ks) = sub1 left ((ns.length + wsum wS ns) + (ks.length + wKs ks)) := by rw [sub1, sub1, if_pos hB, if_pos (by omega)]; omega
        have k4 : ¬ sub1 left ((ns.length + wsum wS ns) + (ks.length + wKs ks)) < 0 := by rw [sub1, if_pos (by omega)]; omega
        simp only [go_sem, k3, k4]
      · have k3 : sub1 (left - ((ns.length + wsum wS ns : Nat) : Int)) (ks.length + wKs ks) = -1 := by rw [sub1, if_neg hB]
        have k4 : sub1 left ((ns.length + wsum wS ns) + (ks.length + wKs ks)) = -1 := by rw [sub1, if_neg (by omega)]
        simp only [go_sem, k3, k4, Int.reduceLT]
    · have k1 : sub1 left (ns.length + wsum wS ns) = -1 := by rw [sub1, if_neg hA]
      have k4 : sub1 left ((ns.length + wsum wS ns) + (ks.length + wKs ks)) = -1 := by rw [sub1, if_neg (by omega)]
      simp only [go_sem, k1, k4, Int.reduceLT]
def zKd : Kd := .mk 0 [] []
theorem enc_zKd : encK zKd = [.s (.int .i64 0), .sl [], .sl []] := by rw [zKd, encK_mk]; rfl
theorem movKd {H : HMap} {m1 v1 m2 v2 : Nat} {t : Kd} (h1 : H m1 = some (.arr v1 true 1 9 (encS t.n))) (h2 : H m2 = some (.tree v2 true 3 38 (encKs t.k) none)) :
    moveCs H 38 0 [.v (.s (.int .i64 t.s)), .own m1 v1 t.n.length, .tr m2 v2 t.k.length] = some (encK t, [m1, m2]) := by
  simp only [go_sem, h1, h2, take_encS, take_encKs, encK_eta]
theorem thin_zKd (e : List V) (n : Nat) (h : e ∈ List.replicate n (encK zKd)) : thinFrom 38 0 e = true := by
  have := (List.mem_replicate.1 h).2
  subst this
  rw [enc_zKd]; rfl
def ok27 := okF.gu (P := Try.prog) tab Try.func27 Try.ntmps27 (by conv => lhs; cbv) (by kernel_rfl)
def inv27 (xs : List Kd) (i : Nat) (σ : St) : Prop := σ.t 0 = tL (encKs xs) ∧ σ.t 4 = .i i ∧ ∃ v, σ.t 3 = .c (.tr 7 v xs.length) ∧
  ((i = 0 ∧ σ.H 7 = some (.tree v true 3 38 (encKs (part xs zKd 0)) none)) ∨ ∃ j x u1 u2, i = j + 1 ∧ xs[j]? = some x ∧ σ.H 7 = some (.tree v true 3 38 (encKs (part xs zKd j)) (some (j, [.v (.s (.int .i64 x.s)), .own 3003 u1 x.n.length, .tr 3004 u2 x.k.length]))) ∧ σ.H 3003 = some (.arr u1 true 1 9 (encS x.n)) ∧ σ.H 3004 = some (.tree u2 true 3 38 (encKs x.k) none))
def mid27 (xs : List Kd) (i : Nat) (σ : St) : Prop := σ.t 0 = tL (encKs xs) ∧ σ.t 4 = .i i ∧ ∃ v, σ.t 3 = .c (.tr 7 v xs.length) ∧
  (i < xs.length → ∃ cs, σ.H 7 = some (.tree v true 3 38 (encKs (part xs zKd i)) (some (i, cs))) ∧ cs.length = 3) ∧ (i = xs.length → σ.H 7 = some (.tree v true 3 38 (encKs xs) none))
theorem toKs_ok (xs : List Kd) (hl : xs.length ≤ 1048576) (ih : ∀ x ∈ xs, ∀ m1 m2, ACallsF Try.prog 8 [tK x] (kdH 2003 2004 m1 m2 x) (.pt (oKd 2003 0 2004 0 x))) (m : Nat) : ACallsF Try.prog 27 [tL (encKs xs)] [newT 7 m 3 38 (encKs xs)] (.c (.tr 7 0 xs.length)) := by
  refine ACallsF.intro ok27 follows fun X c0 => ?_
  have q0 : (0 : Int) ≤ xs.length := by omega
  have q1 : ((56 : Nat) : Int) * (xs.length : Int) ≤ 281474976710656 := by omega
  have q2 : (xs.length : Int) ≤ 9223372036854775807 := by omega
  have z1 : [.s (.int .i64 0), .sl [], .sl []] = encK zKd := (enc_zKd).symm
  have z2 : List.replicate xs.length (encK zKd) = encKs (part xs zKd 0) := by rw [part_zero, encKs_eq, List.map_replicate]
  simp only [go_sem, q0, q1, q2, Int.le_refl]
  rw [z1]
  refine oneW.plantT 3 rfl rfl (fun e he => thin_zKd e _ he) ?_
  rw [z2]
  refine AW.uptoG xs.length (inv27 xs) (mid27 xs) ⟨rfl, rfl, _, rfl, .inl ⟨rfl, rfl⟩⟩ (fun i t H c hi h => ?_) fun i t H c hi h => ?_
  · obtain ⟨e0, e4, v, e3, hH⟩ := h
    obtain ⟨H1, g1, k1⟩ : ∃ H1, Gh H c H1 c ∧ H1 7 = some (.tree v true 3 38 (encKs (part xs zKd i)) none) := by
      rcases hH with ⟨rfl, hH⟩ | ⟨j, x, u1, u2, rfl, hx, hH, h1, h2⟩
      · exact ⟨H, Gh.refl H c, hH⟩
      · have := gh_close (c := c) hH (movKd h1 h2) (by simp) (by decide)
        rw [set_encKs, part_set xs zKd hx] at this
        exact ⟨_, this, closeH_id _ _ _ _⟩
    by_cases hlt : i < xs.length
    · exact ⟨_, _, g1.trans (gh_open 5000 k1 (encKs_at (part_at xs zKd hlt)) (by decide)), e0, e4, v, e3, fun _ => ⟨_, openH_id H1 7 v 3 38 _ i (encK zKd) 5000 c, by rw [(openCs_at (k := 0)).1, encK_len]⟩, fun h => absurd h (by omega)⟩
    · have : i = xs.length := by omega
      subst this
      rw [part_end] at k1
      exact ⟨_, _, g1, e0, e4, v, e3, fun h => absurd h hlt, fun _ => k1⟩
  · obtain ⟨e0, e4, v, e3, hm, hn⟩ := h
    simp only [T.c, T.i, tL] at e0 e3 e4
    have hpl : (part xs zKd i).length = xs.length := part_len xs zKd hi
    by_cases hlt : i < xs.length
    · obtain ⟨cs, eH, hcs⟩ := hm hlt
      replace eH : H 7 = _ := eH
      have hd : cs.drop 3 = [] := List.drop_of_length_le (by omega)
      obtain ⟨x, hx⟩ : ∃ x, xs[i]? = some x := ⟨_, List.getElem?_eq_getElem hlt⟩
      have ex := encKs_at hx
      have k1 : (i : Int) < xs.length := by omega
      have gz : (0 : Int) ≤ i := by omega
      have gm : i < xs.length := hlt
      have gw : IntKind.i64.wrap ((i : Int) + 1) = ((i + 1 : Nat) : Int) := wrap64 (x := (i : Int) + 1) ⟨by omega, by omega⟩
      simp only [go_sem, e0, e3, e4, k1, gz, gm, ex, Int.toNat_natCast, List.length_map, encK_len, takeK, Nat.le_refl]
      refine callKd (m1 := 3003) (m2 := 3004) (ws := []) (ns := []) (ih x (List.mem_of_getElem? hx) 3003 3004) (by decide) (by decide) rfl (lendC1 (clKd x)) (by simp [clKd]) ⟨?_, ?_⟩
      · simp only [go_sem]
      simp only [go_sem, e0, e3, eH, e4, k1, gz, gm, Int.toNat_natCast, hpl, gw, hcs, hd]
      exact ⟨e0, rfl, v, e3, .inr ⟨i, x, _, _, rfl, hx, rfl, rfl, rfl⟩⟩
    · have k1 : ¬ (i : Int) < xs.length := by omega
      have hi2 : i = xs.length := by omega
      have eH : H 7 = _ := hn hi2
      subst hi2
      simp only [go_sem, e0, e3, eH, e4, k1, imp_self]
def ok8 := okF.gu (P := Try.prog) tab Try.func8 Try.ntmps8 (by conv => lhs; cbv) (by kernel_rfl)
theorem toK_ok : ∀ (y : Kd), KB 1048576 y → ∀ m1 m2, ACallsF Try.prog 8 [tK y] (kdH 2003 2004 m1 m2 y) (.pt (oKd 2003 0 2004 0 y)) := by
  intro y
  induction y using Kd.ind with
  | _ s ns ks ih =>
    intro hB m1 m2
    obtain ⟨b1, b2, b3, b4⟩ := hB.inv
    refine ACallsF.intro ok8 follows fun X c0 => ?_
    simp only [go_sem, encK_mk]
    refine callA1 (m := 2003) (ws := []) (ns := []) (toSs_ok ns b1 2003) rfl rfl rfl (encS_flat _) ⟨rfl, ?_⟩
    simp only [go_sem]
    refine callTn (m := 2004) (ws := []) (ns := []) (toKs_ok ks b2 (fun x hx => ih x hx (b4 x hx)) 2004) rfl rfl rfl ⟨rfl, ?_⟩
    simp only [go_sem, imp_self]
def ok35 := okF.gu (P := Try.prog) tab Try.func35 Try.ntmps35 (by conv => lhs; cbv) (by kernel_rfl)
def inv35 (xs : List Kd) (i : Nat) (σ : St) : Prop := σ.t 0 = tL (encKs xs) ∧ σ.t 1 = tL (encKs xs) ∧ σ.t 5 = .i i
theorem eqKs_ok (xs : List Kd) (hl : xs.length ≤ 9000000000000000000) (ih : ∀ x ∈ xs, ACallsF Try.prog 12 [tK x, tK x] [] (.b true)) : ACallsF Try.prog 35 [tL (encKs xs), tL (encKs xs)] [] (.b true) := by
  have n0 : ((xs.length : Int) != xs.length) = false := by simp
  refine ACallsF.intro ok35 follows fun X c0 => ?_
  simp only [go_sem, n0]
  refine AW.upto xs.length (inv35 xs) ⟨rfl, rfl, rfl⟩ fun i t H c hi h => ?_
  obtain ⟨e0, e1, e5⟩ := h
  simp only [T.c, T.i, tL] at e0 e1 e5
  by_cases hlt : i < xs.length
  · obtain ⟨x, hx⟩ : ∃ x, xs[i]? = some x := ⟨_, List.getElem?_eq_getElem hlt⟩
    have ex := encKs_at hx
    have k1 : (i : Int) < xs.length := by omega
    have gz : (0 : Int) ≤ i := by omega
    have gw : IntKind.i64.wrap ((i : Int) + 1) = ((i + 1 : Nat) : Int) := wrap64 (x := (i : Int) + 1) ⟨by omega, by omega⟩
    simp only [go_sem, e0, e1, e5, k1, gz, ex, Int.toNat_natCast, List.length_map, encK_len, takeK, Nat.le_refl]
    refine callC (ih x (List.mem_of_getElem? hx)) rfl rfl (by simp [closedA, closedP, closedC]) rfl ?_
    simp only [go_sem, e5, gw]
    exact ⟨hlt, e0, e1, rfl⟩
  · have k1 : ¬ (i : Int) < xs.length := by omega
    simp only [go_sem, e0, e1, e5, k1]
def ok12 := okF.gu (P := Try.prog) tab Try.func12 Try.ntmps12 (by conv => lhs; cbv) (by kernel_rfl)
theorem eqK_ok : ∀ (y : Kd), KB 9000000000000000000 y → ACallsF Try.prog 12 [tK y, tK y] [] (.b true) := by
  intro y
  induction y using Kd.ind with
  | _ s ns ks ih =>
    intro hB
    obtain ⟨b1, b2, b3, b4⟩ := hB.inv
    have n0 : (s != s) = false := by simp
    refine ACallsF.intro ok12 follows fun X c0 => ?_
    simp only [go_sem, encK_mk, n0]
    refine callC (eqSs_ok ns b1) rfl rfl rfl rfl ?_
    simp only [go_sem]
    refine callC (eqKs_ok ks b2 fun x hx => ih x hx (b4 x hx)) rfl rfl rfl rfl ?_
    simp only [go_sem]
mutual
/-- What a tree counts. -/
def wT : Tr → Nat
  | .mk s n x ns ks => x.size + ((ns.length + wsum wS ns) + (ks.length + wTs ks))
def wTs : List Tr → Nat
  | [] => 0
  | k :: ks => wT k + wTs ks
end
theorem wTs_eq : ∀ ks, wTs ks = wsum wT ks
  | [] => by simp [wTs, wsum]
  | k :: ks => by simp [wTs, wsum, wTs_eq ks]
theorem wTs_take {ks : List Tr} {i : Nat} {x : Tr} (h : ks[i]? = some x) : wTs (ks.take (i + 1)) = wTs (ks.take i) + wT x := by rw [wTs_eq, wTs_eq]; exact wsum_take wT h
theorem wTs_le (ks : List Tr) (n : Nat) : wTs (ks.take n) ≤ wTs ks := by rw [wTs_eq, wTs_eq]; exact wsum_le wT ks n
theorem wTs_mem {ks : List Tr} {x : Tr} (h : x ∈ ks) : wT x ≤ wTs ks := by rw [wTs_eq]; exact wsum_mem wT h
/-- What counts little is small. -/
theorem TB_of : ∀ (y : Tr) (N : Nat), wT y ≤ N → TB N y := by
  intro y
  induction y using Tr.ind with
  | _ s n x ns ks ih =>
    intro N h
    simp only [wT] at h
    exact .mk _ _ _ _ _ (by omega) (by omega) (by omega) (fun x hx => by have h1 := wsum_mem wS hx; have h2 : wS x = x.size := rfl; omega) fun k hk => ih k hk N (by have := wTs_mem hk; omega)
def ok21 := okF.gu (P := Try.prog) tab Try.func21 Try.ntmps21 (by conv => lhs; cbv) (by kernel_rfl)
def inv21 (xs : List Tr) (left : Int) (i : Nat) (σ : St) : Prop := ((xs.length + wTs (xs.take i) : Nat) : Int) ≤ left ∧ σ.t 0 = tL (encTs xs) ∧ σ.t 1 = .i (left - ((xs.length + wTs (xs.take i) : Nat) : Int)) ∧ σ.t 5 = .i i
theorem szTs_ok (xs : List Tr) (left : Int) (h0 : 0 ≤ left ∧ left ≤ 1048576) (hl : xs.length ≤ 9223372036854775807) (ih : ∀ x ∈ xs, ∀ left : Int, 0 ≤ left ∧ left ≤ 1048576 → ACallsF Try.prog 6 [tT x, .i left] [] (.i (sub1 left (wT x)))) : ACallsF Try.prog 21 [tL (encTs xs), .i left] [] (.i (sub1 left (xs.length + wTs xs))) := by
  refine ACallsF.intro ok21 follows fun X c0 => ?_
  have gw0 : IntKind.i64.wrap (left - xs.length) = left - xs.length := wrap64 ⟨by omega, by omega⟩
  by_cases hA : (xs.length : Int) ≤ left
  · have k0 : ¬ left - (xs.length : Int) < 0 := by omega
    simp only [go_sem, gw0, k0]
    refine AW.upto xs.length (inv21 xs left) ⟨by simpa [wTs] using hA, rfl, by show T.i (left - (xs.length : Int)) = _; simp [wTs], rfl⟩ fun i t H c hi h => ?_
    obtain ⟨g, e0, e1, e5⟩ := h
    simp only [T.c, T.i, tL] at e0 e1 e5
    by_cases hlt : i < xs.length
    · obtain ⟨x, hx⟩ : ∃ x, xs[i]? = some x := ⟨_, List.getElem?_eq_getElem hlt⟩
      have ex := encTs_at hx
      have k1 : (i : Int) < xs.length := by omega
      have gz : (0 : Int) ≤ i := by omega
      have gw : IntKind.i64.wrap ((i : Int) + 1) = ((i + 1 : Nat) : Int) := wrap64 (x := (i : Int) + 1) ⟨by omega, by omega⟩
      have hs := wTs_take hx
      have hle := wTs_le xs (i + 1)
      simp only [go_sem, e0, e1, e5, k1, gz, ex, Int.toNat_natCast, List.length_map, encT_len, takeT, Nat.le_refl]
      refine callC (ih x (List.mem_of_getElem? hx) _ ⟨by omega, by omega⟩) rfl rfl (by simp [closedA, closedP, closedC]) rfl ?_
      by_cases hB : ((wT x : Nat) : Int) ≤ left - ((xs.length + wTs (xs.take i) : Nat) : Int)
      · have k2 : sub1 (left - ((xs.length + wTs (xs.take i) : Nat) : Int)) (wT x) = left - ((xs.length + wTs (xs.take (i + 1)) : Nat) : Int) := by rw [sub1, if_pos hB]; omega
        have k3 : ¬ left - ((xs.length + wTs (xs.take (i + 1)) : Nat) : Int) < 0 := by omega
        simp only [go_sem, e5, k2, k3, gw]
        exact ⟨hlt, by omega, e0, rfl, rfl⟩
      · have k2 : sub1 (left - ((xs.length + wTs (xs.take i) : Nat) : Int)) (wT x) = -1 := by rw [sub1, if_neg hB]
        have k3 : sub1 left (xs.length + wTs xs) = -1 := by rw [sub1, if_neg (by omega)]
        simp only [go_sem, k2, k3, Int.reduceLT]
    · have k1 : ¬ (i : Int) < xs.length := by omega
      have hi2 : i = xs.length := by omega
      subst hi2
      rw [List.take_length] at g e1
      have k3 : sub1 left (xs.length + wTs xs) = left - ((xs.length + wTs xs : Nat) : Int) := by rw [sub1, if_pos g]
      simp only [go_sem, e0, e1, e5, k1, k3]
  · have k0 : left - (xs.length : Int) < 0 := by omega
    have k3 : sub1 left (xs.length + wTs xs) = -1 := by rw [sub1, if_neg (by omega)]
    simp only [go_sem, gw0, k0, k3]
def ok6 := okF.gu (P := Try.prog) tab Try.func6 Try.ntmps6 (by conv => lhs; cbv) (by kernel_rfl)
theorem szT_ok : ∀ (y : Tr), TB 9223372036854775807 y → ∀ left : Int, 0 ≤ left ∧ left ≤ 1048576 → ACallsF Try.prog 6 [tT y, .i left] [] (.i (sub1 left (wT y))) := by
  intro y
  induction y using Tr.ind with
  | _ s n x ns ks ih =>
    intro hB left h0
    obtain ⟨b0, b1, b2, b3, b4⟩ := hB.inv
    have gw0 : IntKind.i64.wrap (left - x.size) = left - x.size := wrap64 ⟨by omega, by omega⟩
    by_cases hX : ((x.size : Nat) : Int) ≤ left
    rotate_left
    · have k3 : sub1 left (wT (.mk s n x ns ks)) = -1 := by rw [sub1, wT, if_neg (by omega)]
      have k0 : left - (x.size : Int) < 0 := by omega
      refine ACallsF.intro ok6 follows fun X c0 => ?_
      simp only [go_sem, encT_mk, gw0, k0, k3]
    have k0 : ¬ left - (x.size : Int) < 0 := by omega
    have hL : sub1 left (wT (.mk s n x ns ks)) = sub1 (left - x.size) ((ns.length + wsum wS ns) + (ks.length + wTs ks)) := by
      unfold sub1; rw [wT]
      split
      · rw [if_pos (by omega)]; omega
      · rw [if_neg (by omega)]
    rw [hL]
    clear hL
    refine ACallsF.intro ok6 follows fun X c0 => ?_
    simp only [go_sem, encT_mk, gw0, k0]
    have h0 : 0 ≤ left - (x.size : Int) ∧ left - (x.size : Int) ≤ 1048576 := ⟨by omega, by omega⟩
    generalize left - (x.size : Int) = left at *
    refine callC (szSs_ok ns left h0 b1 b3) rfl rfl rfl rfl ?_
    by_cases hA : ((ns.length + wsum wS ns : Nat) : Int) ≤ left
    · have k1 : sub1 left (ns.length + wsum wS ns) = left - ((ns.length + wsum wS ns : Nat) : Int) := by rw [sub1, if_pos hA]
      have k2 : ¬ left - ((ns.length + wsum wS ns : Nat) : Int) < 0 := by omega
      simp only [go_sem, k1, k2]
      refine callC (szTs_ok ks _ ⟨by omega, by omega⟩ b2 fun x hx => ih x hx (b4 x hx)) rfl rfl rfl rfl ?_
      by_cases hB : ((ks.length + wTs ks : Nat) : Int) ≤ left - ((ns.length + wsum wS ns : Nat) : Int)
      · have k3 : sub1 (left - ((ns.length + wsum wS ns : Nat) : Int)) (ks.length + wTs ks) = sub1 left ((ns.length + wsum wS ns) + (ks.length + wTs ks)) := by rw [sub1, sub1, if_pos hB, if_pos (by omega)]; omega
        have k4 : ¬ sub1 left ((ns.length + wsum wS ns) + (ks.length + wTs ks)) < 0 := by rw [sub1, if_pos (by omega)]; omega
        simp only [go_sem, k3, k4]
      · have k3 : sub1 (left - ((ns.length + wsum wS ns : Nat) : Int)) (ks.length + wTs ks) = -1 := by rw [sub1, if_neg hB]
        have k4 : sub1 left ((ns.length + wsum wS ns) + (ks.length + wTs ks)) = -1 := by rw [sub1, if_neg (by omega)]
        simp only [go_sem, k3, k4, Int.reduceLT]
    · have k1 : sub1 left (ns.length + wsum wS ns) = -1 := by rw [sub1, if_neg hA]
      have k4 : sub1 left ((ns.length + wsum wS ns) + (ks.length + wTs ks)) = -1 := by rw [sub1, if_neg (by omega)]
      simp only [go_sem, k1, k4, Int.reduceLT]
def zTr : Tr := .mk 0 0 ⟨#[]⟩ [] []
theorem enc_zTr : encT zTr = [.s (.int .i64 0), .s (.int .i64 0), .s (.string ⟨#[]⟩), .sl [], .sl []] := by rw [zTr, encT_mk]; rfl
theorem movTr {H : HMap} {m1 v1 m2 v2 : Nat} {t : Tr} (h1 : H m1 = some (.arr v1 true 1 9 (encS t.n))) (h2 : H m2 = some (.tree v2 true 5 33 (encTs t.k) none)) :
    moveCs H 33 0 [.v (.s (.int .i64 t.s)), .v (.s (.int .i64 t.m)), .v (.s (.string t.x)), .own m1 v1 t.n.length, .tr m2 v2 t.k.length] = some (encT t, [m1, m2]) := by
  simp only [go_sem, h1, h2, take_encS, take_encTs, encT_eta]
theorem thin_zTr (e : List V) (n : Nat) (h : e ∈ List.replicate n (encT zTr)) : thinFrom 33 0 e = true := by
  have := (List.mem_replicate.1 h).2
  subst this
  rw [enc_zTr]; rfl
def ok28 := okF.gu (P := Try.prog) tab Try.func28 Try.ntmps28 (by conv => lhs; cbv) (by kernel_rfl)
def inv28 (xs : List Tr) (i : Nat) (σ : St) : Prop := σ.t 0 = tL (encTs xs) ∧ σ.t 4 = .i i ∧ ∃ v, σ.t 3 = .c (.tr 7 v xs.length) ∧
  ((i = 0 ∧ σ.H 7 = some (.tree v true 5 33 (encTs (part xs zTr 0)) none)) ∨ ∃ j x u1 u2, i = j + 1 ∧ xs[j]? = some x ∧ σ.H 7 = some (.tree v true 5 33 (encTs (part xs zTr j)) (some (j, [.v (.s (.int .i64 x.s)), .v (.s (.int .i64 x.m)), .v (.s (.string x.x)), .own 3003 u1 x.n.length, .tr 3004 u2 x.k.length]))) ∧ σ.H 3003 = some (.arr u1 true 1 9 (encS x.n)) ∧ σ.H 3004 = some (.tree u2 true 5 33 (encTs x.k) none))
def mid28 (xs : List Tr) (i : Nat) (σ : St) : Prop := σ.t 0 = tL (encTs xs) ∧ σ.t 4 = .i i ∧ ∃ v, σ.t 3 = .c (.tr 7 v xs.length) ∧
  (i < xs.length → ∃ cs, σ.H 7 = some (.tree v true 5 33 (encTs (part xs zTr i)) (some (i, cs))) ∧ cs.length = 5) ∧ (i = xs.length → σ.H 7 = some (.tree v true 5 33 (encTs xs) none))
theorem toTs_ok (xs : List Tr) (hl : xs.length ≤ 1048576) (ih : ∀ x ∈ xs, ∀ m1 m2, ACallsF Try.prog 9 [tT x] (trH2 2003 2004 m1 m2 x) (.pt (oTr 2003 0 2004 0 x))) (m : Nat) : ACallsF Try.prog 28 [tL (encTs xs)] [newT 7 m 5 33 (encTs xs)] (.c (.tr 7 0 xs.length)) := by
  refine ACallsF.intro ok28 follows fun X c0 => ?_
  have q0 : (0 : Int) ≤ xs.length := by omega
  have q1 : ((80 : Nat) : Int) * (xs.length : Int) ≤ 281474976710656 := by omega
  have q2 : (xs.length : Int) ≤ 9223372036854775807 := by omega
  have z1 : [.s (.int .i64 0), .s (.int .i64 0), .s (.string ⟨#[]⟩), .sl [], .sl []] = encT zTr := (enc_zTr).symm
  have z2 : List.replicate xs.length (encT zTr) = encTs (part xs zTr 0) := by rw [part_zero, encTs_eq, List.map_replicate]
  simp only [go_sem, q0, q1, q2, Int.le_refl]
  rw [z1]
  refine oneW.plantT 3 rfl rfl (fun e he => thin_zTr e _ he) ?_
  rw [z2]
  refine AW.uptoG xs.length (inv28 xs) (mid28 xs) ⟨rfl, rfl, _, rfl, .inl ⟨rfl, rfl⟩⟩ (fun i t H c hi h => ?_) fun i t H c hi h => ?_
  · obtain ⟨e0, e4, v, e3, hH⟩ := h
    obtain ⟨H1, g1, k1⟩ : ∃ H1, Gh H c H1 c ∧ H1 7 = some (.tree v true 5 33 (encTs (part xs zTr i)) none) := by
      rcases hH with ⟨rfl, hH⟩ | ⟨j, x, u1, u2, rfl, hx, hH, h1, h2⟩
      · exact ⟨H, Gh.refl H c, hH⟩
      · have := gh_close (c := c) hH (movTr h1 h2) (by simp) (by decide)
        rw [set_encTs, part_set xs zTr hx] at this
        exact ⟨_, this, closeH_id _ _ _ _⟩
    by_cases hlt : i < xs.length
    · exact ⟨_, _, g1.trans (gh_open 5000 k1 (encTs_at (part_at xs zTr hlt)) (by decide)), e0, e4, v, e3, fun _ => ⟨_, openH_id H1 7 v 5 33 _ i (encT zTr) 5000 c, by rw [(openCs_at (k := 0)).1, encT_len]⟩, fun h => absurd h (by omega)⟩
    · have : i = xs.length := by omega
      subst this
      rw [part_end] at k1
      exact ⟨_, _, g1, e0, e4, v, e3, fun h => absurd h hlt, fun _ => k1⟩
  · obtain ⟨e0, e4, v, e3, hm, hn⟩ := h
    simp only [T.c, T.i, tL] at e0 e3 e4
    have hpl : (part xs zTr i).length = xs.length := part_len xs zTr hi
    by_cases hlt : i < xs.length
    · obtain ⟨cs, eH, hcs⟩ := hm hlt
      replace eH : H 7 = _ := eH
      have hd : cs.drop 5 = [] := List.drop_of_length_le (by omega)
      obtain ⟨x, hx⟩ : ∃ x, xs[i]? = some x := ⟨_, List.getElem?_eq_getElem hlt⟩
      have ex := encTs_at hx
      have k1 : (i : Int) < xs.length := by omega
      have gz : (0 : Int) ≤ i := by omega
      have gm : i < xs.length := hlt
      have gw : IntKind.i64.wrap ((i : Int) + 1) = ((i + 1 : Nat) : Int) := wrap64 (x := (i : Int) + 1) ⟨by omega, by omega⟩
      simp only [go_sem, e0, e3, e4, k1, gz, gm, ex, Int.toNat_natCast, List.length_map, encT_len, takeT, Nat.le_refl]
      refine callTr (m1 := 3003) (m2 := 3004) (ws := []) (ns := []) (ih x (List.mem_of_getElem? hx) 3003 3004) (by decide) (by decide) rfl (lendC1 (clTr x)) (by simp [clTr]) ⟨?_, ?_⟩
      · simp only [go_sem]
      simp only [go_sem, e0, e3, eH, e4, k1, gz, gm, Int.toNat_natCast, hpl, gw, hcs, hd]
      exact ⟨e0, rfl, v, e3, .inr ⟨i, x, _, _, rfl, hx, rfl, rfl, rfl⟩⟩
    · have k1 : ¬ (i : Int) < xs.length := by omega
      have hi2 : i = xs.length := by omega
      have eH : H 7 = _ := hn hi2
      subst hi2
      simp only [go_sem, e0, e3, eH, e4, k1, imp_self]
def ok9 := okF.gu (P := Try.prog) tab Try.func9 Try.ntmps9 (by conv => lhs; cbv) (by kernel_rfl)
theorem toT_ok : ∀ (y : Tr), TB 1048576 y → ∀ m1 m2, ACallsF Try.prog 9 [tT y] (trH2 2003 2004 m1 m2 y) (.pt (oTr 2003 0 2004 0 y)) := by
  intro y
  induction y using Tr.ind with
  | _ s n x ns ks ih =>
    intro hB m1 m2
    obtain ⟨b0, b1, b2, b3, b4⟩ := hB.inv
    refine ACallsF.intro ok9 follows fun X c0 => ?_
    simp only [go_sem, encT_mk]
    refine callA1 (m := 2003) (ws := []) (ns := []) (toSs_ok ns b1 2003) rfl rfl rfl (encS_flat _) ⟨rfl, ?_⟩
    simp only [go_sem]
    refine callTn (m := 2004) (ws := []) (ns := []) (toTs_ok ks b2 (fun x hx => ih x hx (b4 x hx)) 2004) rfl rfl rfl ⟨rfl, ?_⟩
    simp only [go_sem, imp_self]
def ok34 := okF.gu (P := Try.prog) tab Try.func34 Try.ntmps34 (by conv => lhs; cbv) (by kernel_rfl)
def inv34 (xs : List Tr) (i : Nat) (σ : St) : Prop := σ.t 0 = tL (encTs xs) ∧ σ.t 1 = tL (encTs xs) ∧ σ.t 5 = .i i
theorem eqTs_ok (xs : List Tr) (hl : xs.length ≤ 9000000000000000000) (ih : ∀ x ∈ xs, ACallsF Try.prog 11 [tT x, tT x] [] (.b true)) : ACallsF Try.prog 34 [tL (encTs xs), tL (encTs xs)] [] (.b true) := by
  have n0 : ((xs.length : Int) != xs.length) = false := by simp
  refine ACallsF.intro ok34 follows fun X c0 => ?_
  simp only [go_sem, n0]
  refine AW.upto xs.length (inv34 xs) ⟨rfl, rfl, rfl⟩ fun i t H c hi h => ?_
  obtain ⟨e0, e1, e5⟩ := h
  simp only [T.c, T.i, tL] at e0 e1 e5
  by_cases hlt : i < xs.length
  · obtain ⟨x, hx⟩ : ∃ x, xs[i]? = some x := ⟨_, List.getElem?_eq_getElem hlt⟩
    have ex := encTs_at hx
    have k1 : (i : Int) < xs.length := by omega
    have gz : (0 : Int) ≤ i := by omega
    have gw : IntKind.i64.wrap ((i : Int) + 1) = ((i + 1 : Nat) : Int) := wrap64 (x := (i : Int) + 1) ⟨by omega, by omega⟩
    simp only [go_sem, e0, e1, e5, k1, gz, ex, Int.toNat_natCast, List.length_map, encT_len, takeT, Nat.le_refl]
    refine callC (ih x (List.mem_of_getElem? hx)) rfl rfl (by simp [closedA, closedP, closedC]) rfl ?_
    simp only [go_sem, e5, gw]
    exact ⟨hlt, e0, e1, rfl⟩
  · have k1 : ¬ (i : Int) < xs.length := by omega
    simp only [go_sem, e0, e1, e5, k1]
def ok11 := okF.gu (P := Try.prog) tab Try.func11 Try.ntmps11 (by conv => lhs; cbv) (by kernel_rfl)
theorem eqT_ok : ∀ (y : Tr), TB 9000000000000000000 y → ACallsF Try.prog 11 [tT y, tT y] [] (.b true) := by
  intro y
  induction y using Tr.ind with
  | _ s n x ns ks ih =>
    intro hB
    obtain ⟨b0, b1, b2, b3, b4⟩ := hB.inv
    have n0 : (s != s) = false := by simp
    have n1 : (n != n) = false := by simp
    refine ACallsF.intro ok11 follows fun X c0 => ?_
    simp only [go_sem, encT_mk, n0, n1, sStr, str_beq, decide_true]
    refine callC (eqSs_ok ns b1) rfl rfl rfl rfl ?_
    simp only [go_sem]
    refine callC (eqTs_ok ks b2 fun x hx => ih x hx (b4 x hx)) rfl rfl rfl rfl ?_
    simp only [go_sem]
end Go.V
set_option linter.unusedSimpArgs false
set_option maxRecDepth 20000
namespace Go.V
open Go.Proofs
theorem set_out {α : Type} {outs xs : List α} (hl : outs.length = xs.length) {i : Nat} {o : α} (ho : outs[i]? = some o) : (outs.take i ++ xs.drop i).set i o = outs.take (i + 1) ++ xs.drop (i + 1) := by
  have hi := (List.getElem?_eq_some_iff.1 ho).1
  rw [List.set_append_right _ _ (by rw [List.length_take]; omega), List.length_take, show i - min i outs.length = 0 from by omega, List.take_add_one, ho, List.drop_eq_getElem_cons (by omega : i < xs.length), List.set_cons_zero]
  simp
def OpS (H : HMap) (c : C) (id : Nat) (ns : List ByteArray) : Prop := (ns = [] ∧ c = .v (.sl [])) ∨ ∃ u, c = .own id u ns.length ∧ H id = some (.arr u true 1 9 (encS ns))
theorem OpS.re {H H' : HMap} {c : C} {id : Nat} {ns : List ByteArray} (h : OpS H c id ns) (e : H' id = H id) : OpS H' c id ns := by
  rcases h with h | ⟨u, h1, h2⟩
  · exact .inl h
  · exact .inr ⟨u, h1, e.trans h2⟩
theorem opCS (id nv : Nat) (y : ByteArray) (ys : List ByteArray) : openC (some (1, 9)) id nv (.sl (encS (y :: ys))) = .own id nv (y :: ys).length := by
  show C.own id nv ((encS ys).length + 1) = _
  rw [encS_len]; rfl
theorem callMS {P : Program} {t : Nat → T} {H : HMap} {c : Nat} {f : Opd} {args : List Opd} {fid : FuncId} {k : Nat} {d : Option Nat} {l : List AOper} {prev : List (Nat × List Nat × List Nat)} {K : St → Prop} {cN : C} {id : Nat} {ns ns' : List ByteArray} {x r : T} (hO : OpS H cN id ns) (hC : ∀ m v, ACallsF P fid [.c (.own 2001 v ns.length), x] [arH 2001 m v 1 9 (encS ns) (encS ns')] r) (hC0 : ns = [] → ACallsF P fid [tL [], x] [] r) (hlen : ns'.length = ns.length)
    (hf : ev t f = .pt (.one (.fn fid []))) (hl : args.map (ev t) = [.c cN, x]) (hx : closedA x = true) (hr : closedT r = true) (hk : ∀ H1 prev', (∀ n, n ≠ id → H1 n = H n) → OpS H1 cN id ns' → DRun P l prev' K ⟨updD t d r, H1, c⟩) : step P k d [] (.call f args) l prev K t H c := by
  rcases hO with ⟨h1, rfl⟩ | ⟨u, rfl, h2⟩
  · have : ns' = [] := by rw [h1] at hlen; exact List.length_eq_zero_iff.1 hlen
    exact callC (hC0 h1) hf hl (by simp only [List.all_cons, List.all_nil, hx, Bool.and_true]; rfl) hr (hk H prev (fun _ _ => rfl) (.inl ⟨this, rfl⟩))
  · exact callM1 (m := id) (hC id u) hf hl h2 hx hr ⟨rfl, hk _ _ (fun n hn => upd_ne _ _ hn) (.inr ⟨u, by rw [hlen], upd_same _ _ _⟩)⟩
theorem markSs0_ok (k : Nat) : ACallsF Try.prog 36 [tL [], .i k] [] (.i k) := by
  refine ACallsF.intro ok36 follows fun X c0 => ?_
  simp only [go_sem]
  refine AW.upto 0 (fun i σ => σ.t 0 = tL [] ∧ σ.t 1 = .i k ∧ σ.t 5 = .i i) ⟨rfl, rfl, rfl⟩ fun i t H c hi h => ?_
  obtain ⟨e0, e1, e5⟩ := h
  simp only [T.c, T.i, tL] at e0 e1 e5
  have k1 : ¬ (i : Int) < 0 := by omega
  simp only [go_sem, e0, e1, e5, k1, Int.ofNat_zero, Int.cast_ofNat_Int]
mutual
/-- How many marks are written into a kind of a row. -/
def mK : Kd → Nat
  | .mk s ns ks => 1 + ns.length + mKs ks
def mKs : List Kd → Nat
  | [] => 0
  | k :: ks => mK k + mKs ks
end
mutual
/-- A kind of a row, with its marks. -/
def mkK (k : Nat) : Kd → Kd
  | .mk _ ns ks => .mk ((k : Nat) : Int) (marks mS 1 (k + 1) ns.length) (mkKs (k + 1 + ns.length) ks)
def mkKs (k : Nat) : List Kd → List Kd
  | [] => []
  | x :: xs => mkK k x :: mkKs (k + mK x) xs
end
theorem mKs_eq : ∀ ks, mKs ks = wsum mK ks
  | [] => by simp [mKs, wsum]
  | k :: ks => by simp [mKs, wsum, mKs_eq ks]
theorem mKs_take {ks : List Kd} {i : Nat} {x : Kd} (h : ks[i]? = some x) : mKs (ks.take (i + 1)) = mKs (ks.take i) + mK x := by rw [mKs_eq, mKs_eq]; exact wsum_take mK h
theorem mKs_le (ks : List Kd) (n : Nat) : mKs (ks.take n) ≤ mKs ks := by rw [mKs_eq, mKs_eq]; exact wsum_le mK ks n
theorem mKs_mem {ks : List Kd} {x : Kd} (h : x ∈ ks) : mK x ≤ mKs ks := by rw [mKs_eq]; exact wsum_mem mK h
theorem mK_pos (x : Kd) : 1 ≤ mK x := by cases x; simp only [mK]; omega
theorem mKs_len : ∀ ks, ks.length ≤ mKs ks
  | [] => Nat.zero_le _
  | k :: ks => by have := mK_pos k; have := mKs_len ks; simp only [List.length_cons, mKs]; omega
theorem mKs_of : ∀ (ks : List Kd), (∀ k ∈ ks, mK k ≤ 1 + 1 * wK k) → mKs ks ≤ 1 * ks.length + 1 * wKs ks
  | [], _ => by simp [mKs]
  | k :: ks, ih => by
    have h1 := ih k (by simp)
    have h2 := mKs_of ks fun x hx => ih x (by simp [hx])
    simp only [mKs, wKs, List.length_cons]; omega
theorem mK_w : ∀ y : Kd, mK y ≤ 1 + 1 * wK y := by
  intro y
  induction y using Kd.ind with
  | _ s ns ks ih =>
    have h := mKs_of ks ih
    simp only [mK, wK]
    omega
theorem mKs_w (ks : List Kd) : mKs ks ≤ 1 * ks.length + 1 * wKs ks := mKs_of ks fun k _ => mK_w k
theorem mkKs_len : ∀ (xs : List Kd) (k : Nat), (mkKs k xs).length = xs.length
  | [], _ => rfl
  | x :: xs, k => by simp [mkKs, mkKs_len xs]
theorem mkKs_at : ∀ {xs : List Kd} {k j : Nat} {x : Kd}, xs[j]? = some x → (mkKs k xs)[j]? = some (mkK (k + mKs (xs.take j)) x)
  | [], _, _, _, h => by simp at h
  | y :: xs, k, 0, x, h => by simp at h; subst h; simp [mkKs, mKs]
  | y :: xs, k, j + 1, x, h => by
    have := mkKs_at (k := k + mK y) (show xs[j]? = some x by simpa using h)
    simp only [mkKs, List.getElem?_cons_succ, this, List.take_succ_cons, mKs]
    congr 2; omega
def OpRK (H : HMap) (c : C) (id : Nat) (ks : List Kd) : Prop := (ks = [] ∧ c = .v (.sl [])) ∨ ∃ u, c = .tr id u ks.length ∧ H id = some (.tree u true 3 38 (encKs ks) none)
theorem OpRK.re {H H' : HMap} {c : C} {id : Nat} {ks : List Kd} (h : OpRK H c id ks) (e : H' id = H id) : OpRK H' c id ks := by
  rcases h with h | ⟨u, h1, h2⟩
  · exact .inl h
  · exact .inr ⟨u, h1, e.trans h2⟩
theorem encKs_cons (y : Kd) (ys : List Kd) : encKs (y :: ys) = encK y :: encKs ys := by simp [encKs_eq]
theorem opCK (id nv : Nat) (y : Kd) (ys : List Kd) : openC (some (3, 38)) id nv (.sl (encKs (y :: ys))) = .tr id nv (y :: ys).length := by
  rw [encKs_cons]
  show C.tr id nv ((encKs ys).length + 1) = _
  rw [encKs_len]; rfl
theorem opBK (nv : Nat) (s : Int) (ns : List ByteArray)  (y : Kd) (ys : List Kd) : openB 38 nv (encK (.mk s ns (y :: ys))) 2 = some (.tree nv true 3 38 (encKs (y :: ys)) none) := by
  rw [encK_mk, encKs_cons]; rfl
theorem openK (x : Kd) (nv : Nat) : ∃ cN cK, openCs 38 5000 nv 0 (encK x) = [.v (.s (.int .i64 x.s)), cN, cK] ∧ ∀ H' : HMap, (∀ j, j < 3 → H' (5000 + j) = openB 38 nv (encK x) j) → OpS H' cN 5001 x.n ∧ OpRK H' cK 5002 x.k := by
  obtain ⟨s, ns, ks⟩ := x
  refine ⟨openC (some (1, 9)) 5001 nv (.sl (encS ns)), openC (some (3, 38)) 5002 nv (.sl (encKs ks)), by rw [encK_mk]; rfl, fun H' h => ⟨?_, ?_⟩⟩
  · cases ns with
    | nil => exact .inl ⟨rfl, rfl⟩
    | cons z zs => exact .inr ⟨nv, opCS _ _ z zs, (h 1 (by decide)).trans (by rw [encK_mk]; rfl)⟩
  · cases ks with
    | nil => exact .inl ⟨rfl, by rw [encKs_nil]; rfl⟩
    | cons y ys => exact .inr ⟨nv, opCK _ _ y ys, (h 2 (by decide)).trans (opBK nv s ns y ys)⟩
theorem mopK {H : HMap} {cN cK : C} {s : Int} {ns : List ByteArray} {ks : List Kd} (h1 : OpS H cN 5001 ns) (h2 : OpRK H cK 5002 ks) : ∃ nms, moveCs H 38 0 [.v (.s (.int .i64 s)), cN, cK] = some (encK (.mk s ns ks), nms) ∧ nms.Nodup ∧ 2001 ∉ nms := by
  rcases h1 with ⟨rfl, rfl⟩ | ⟨u, rfl, h1⟩ <;> rcases h2 with ⟨rfl, rfl⟩ | ⟨u', rfl, h2⟩
  · exact ⟨[], by simp only [go_sem, encK_mk], by decide, by decide⟩
  · exact ⟨[5002], by simp only [go_sem, encK_mk, h2, take_encKs], by decide, by decide⟩
  · exact ⟨[5001], by simp only [go_sem, encK_mk, h1, take_encS], by decide, by decide⟩
  · exact ⟨[5001, 5002], by simp only [go_sem, encK_mk, h1, h2, take_encS, take_encKs], by decide, by decide⟩
theorem callMRK {P : Program} {t : Nat → T} {H : HMap} {c : Nat} {f : Opd} {args : List Opd} {fid : FuncId} {k : Nat} {d : Option Nat} {l : List AOper} {prev : List (Nat × List Nat × List Nat)} {K : St → Prop} {cN : C} {id : Nat} {ks ks' : List Kd} {x r : T} (hO : OpRK H cN id ks) (hC : ∀ m v, ACallsF P fid [.c (.tr 2001 v ks.length), x] [trH 2001 m v 3 38 (encKs ks) (encKs ks')] r) (hC0 : ks = [] → ACallsF P fid [tL [], x] [] r) (hlen : ks'.length = ks.length)
    (hf : ev t f = .pt (.one (.fn fid []))) (hl : args.map (ev t) = [.c cN, x]) (hx : closedA x = true) (hr : closedT r = true) (hk : ∀ H1 prev', (∀ n, n ≠ id → H1 n = H n) → OpRK H1 cN id ks' → DRun P l prev' K ⟨updD t d r, H1, c⟩) : step P k d [] (.call f args) l prev K t H c := by
  rcases hO with ⟨h1, rfl⟩ | ⟨u, rfl, h2⟩
  · have : ks' = [] := by rw [h1] at hlen; exact List.length_eq_zero_iff.1 hlen
    exact callC (hC0 h1) hf hl (by simp only [List.all_cons, List.all_nil, hx, Bool.and_true]; rfl) hr (hk H prev (fun _ _ => rfl) (.inl ⟨this, rfl⟩))
  · exact callTm (m := id) (hC id u) hf hl h2 hx hr ⟨rfl, hk _ _ (fun n hn => upd_ne _ _ hn) (.inr ⟨u, by rw [hlen], upd_same _ _ _⟩)⟩
def ok37 := okF.gu (P := Try.prog) tab Try.func37 Try.ntmps37 (by conv => lhs; cbv) (by kernel_rfl)
theorem markKs0_ok (k : Nat) : ACallsF Try.prog 37 [tL [], .i k] [] (.i k) := by
  refine ACallsF.intro ok37 follows fun X c0 => ?_
  simp only [go_sem]
  refine AW.upto 0 (fun i σ => σ.t 0 = tL [] ∧ σ.t 1 = .i k ∧ σ.t 5 = .i i) ⟨rfl, rfl, rfl⟩ fun i t H c hi h => ?_
  obtain ⟨e0, e1, e5⟩ := h
  simp only [T.c, T.i, tL] at e0 e1 e5
  have k1 : ¬ (i : Int) < 0 := by omega
  simp only [go_sem, e0, e1, e5, k1, Int.ofNat_zero, Int.cast_ofNat_Int]
def mkdK (xs : List Kd) (k j : Nat) : List Kd := (mkKs k xs).take j ++ xs.drop j
theorem mkdK_at {xs : List Kd} {k i : Nat} {x : Kd} (h : xs[i]? = some x) : (mkdK xs k i)[i]? = some x := by
  have hi := (List.getElem?_eq_some_iff.1 h).1
  rw [mkdK, List.getElem?_append_right (by rw [List.length_take]; omega), List.length_take, mkKs_len, List.getElem?_drop, show i + (i - min i xs.length) = i from by omega]; exact h
def inv37 (xs : List Kd) (k v : Nat) (i : Nat) (σ : St) : Prop := σ.t 0 = .c (.tr 2001 v xs.length) ∧ σ.t 1 = .i ((k + mKs (xs.take i) : Nat) : Int) ∧ σ.t 5 = .i i ∧
  ((i = 0 ∧ σ.H 2001 = some (.tree v true 3 38 (encKs xs) none)) ∨ ∃ j x cs nms, i = j + 1 ∧ xs[j]? = some x ∧ σ.H 2001 = some (.tree v true 3 38 (encKs (mkdK xs k j)) (some (j, cs))) ∧ moveCs σ.H 38 0 cs = some (encK (mkK (k + mKs (xs.take j)) x), nms) ∧ nms.Nodup ∧ 2001 ∉ nms)
def mid37 (xs : List Kd) (k v : Nat) (i : Nat) (σ : St) : Prop := σ.t 0 = .c (.tr 2001 v xs.length) ∧ σ.t 1 = .i ((k + mKs (xs.take i) : Nat) : Int) ∧ σ.t 5 = .i i ∧
  (i < xs.length → ∃ x cN cK, xs[i]? = some x ∧ σ.H 2001 = some (.tree v true 3 38 (encKs (mkdK xs k i)) (some (i, [.v (.s (.int .i64 x.s)), cN, cK]))) ∧ OpS σ.H cN 5001 x.n ∧ OpRK σ.H cK 5002 x.k) ∧ (i = xs.length → σ.H 2001 = some (.tree v true 3 38 (encKs (mkKs k xs)) none))
def MRK (ks : List Kd) : Prop := ∀ (k m v : Nat), 1 ≤ k → k + mKs ks ≤ 100000000 → ACallsF Try.prog 37 [.c (.tr 2001 v ks.length), .i k] [trH 2001 m v 3 38 (encKs ks) (encKs (mkKs k ks))] (.i ((k + mKs ks : Nat) : Int))
set_option maxHeartbeats 1000000 in
theorem markKs_of (xs : List Kd) (ih : ∀ x ∈ xs, MRK x.k) : MRK xs := by
  intro k m v h1 hk
  have hxl := mKs_len xs
  refine ACallsF.intro ok37 follows fun X c0 => ?_
  simp only [go_sem]
  refine AW.uptoG xs.length (inv37 xs k v) (mid37 xs k v) ⟨rfl, by simp [mKs]; rfl, rfl, .inl ⟨rfl, rfl⟩⟩ (fun i t H c hi h => ?_) fun i t H c hi h => ?_
  · obtain ⟨e0, e1, e5, hH⟩ := h
    obtain ⟨H1, g1, q1⟩ : ∃ H1, Gh H c H1 c ∧ H1 2001 = some (.tree v true 3 38 (encKs (mkdK xs k i)) none) := by
      rcases hH with ⟨rfl, hH⟩ | ⟨j, x, cs, nms, rfl, hx, hH, hM, hn1, hn2⟩
      · exact ⟨H, Gh.refl H c, by simpa [mkdK] using hH⟩
      · have := gh_close (c := c) hH hM hn1 hn2
        rw [set_encKs, mkdK, set_out (mkKs_len xs k) (mkKs_at hx)] at this
        exact ⟨_, this, closeH_id _ _ _ _⟩
    by_cases hlt : i < xs.length
    · obtain ⟨x, hx⟩ : ∃ x, xs[i]? = some x := ⟨_, List.getElem?_eq_getElem hlt⟩
      obtain ⟨cN, cK, o1, o2⟩ := openK x c
      have a1 := openH_id H1 2001 v 3 38 (encKs (mkdK xs k i)) i (encK x) 5000 c
      rw [o1] at a1
      obtain ⟨a2, a3⟩ := o2 (openH H1 2001 v 3 38 (encKs (mkdK xs k i)) i (encK x) 5000 c) fun j hj => openH_in H1 2001 v 3 38 (encKs (mkdK xs k i)) i (encK x) 5000 c j (by omega) hj
      exact ⟨_, _, g1.trans (gh_open 5000 q1 (encKs_at (mkdK_at hx)) (by decide)), e0, e1, e5, fun _ => ⟨x, cN, cK, hx, a1, a2, a3⟩, fun h => absurd h (by omega)⟩
    · have : i = xs.length := by omega
      subst this
      rw [mkdK, List.drop_length, List.append_nil, ← mkKs_len xs k, List.take_length] at q1
      exact ⟨_, _, g1, e0, e1, e5, fun h => absurd h hlt, fun _ => q1⟩
  · obtain ⟨e0, e1, e5, hm, hn⟩ := h
    simp only [T.c, T.i] at e0 e1 e5
    have hpl : (mkdK xs k i).length = xs.length := by rw [mkdK, List.length_append, List.length_take, List.length_drop, mkKs_len]; omega
    by_cases hlt : i < xs.length
    · obtain ⟨x, cN, cK, hx, eH, hON, hOK⟩ := hm hlt
      replace eH : H 2001 = _ := eH
      have k1 : (i : Int) < xs.length := by omega
      have gz : (0 : Int) ≤ i := by omega
      have gm : i < xs.length := hlt
      have gw : IntKind.i64.wrap ((i : Int) + 1) = ((i + 1 : Nat) : Int) := wrap64 (x := (i : Int) + 1) ⟨by omega, by omega⟩
      have hs := mKs_take hx
      have hle := mKs_le xs (i + 1)
      have hmx := List.mem_of_getElem? hx
      obtain ⟨K, hK⟩ : ∃ K, K = k + mKs (xs.take i) := ⟨_, rfl⟩
      rw [← hK] at e1
      have hww : mK x = 1 + x.n.length + mKs x.k := by cases x; rfl
      have g0 : IntKind.i64.wrap ((K : Int) + 1) = ((K + 1 : Nat) : Int) := (wrap64 (x := (K : Int) + 1) ⟨by omega, by omega⟩).trans (by omega)
      simp only [go_sem, e0, eH, e1, e5, k1, gz, gm, hpl, g0, Int.toNat_natCast]
      refine callMS (id := 5001) (hON.re rfl) (fun m v => markSs_ok x.n (K + 1) (by omega) (by omega) m v) (fun h => by rw [h]; exact markSs0_ok (K + 1)) (marks_len mS 1 (K + 1) x.n.length) rfl rfl rfl rfl fun H1 p1 hH1 hO1 => ?_
      have f1 : H1 2001 = some (.tree v true 3 38 (encKs (mkdK xs k i)) (some (i, [.v (.s (.int .i64 ((K : Nat) : Int))), cN, cK]))) := hH1 2001 (by decide)
      simp only [go_sem, e0, f1, e5, k1, gz, gm, hpl, Int.toNat_natCast]
      refine callMRK (id := 5002) (hOK.re (hH1 5002 (by decide))) (fun m v => ih x hmx (K + 1 + 1 * x.n.length) m v (by omega) (by omega)) (fun h => by rw [h]; exact markKs0_ok (K + 1 + 1 * x.n.length)) (mkKs_len x.k (K + 1 + 1 * x.n.length)) rfl rfl rfl rfl fun H2 p2 hH2 hO2 => ?_
      have f2 : H2 2001 = some (.tree v true 3 38 (encKs (mkdK xs k i)) (some (i, [.v (.s (.int .i64 ((K : Nat) : Int))), cN, cK]))) := (hH2 2001 (by decide)).trans f1
      simp only [go_sem, e0, f2, e5, gw]
      obtain ⟨nms, n1, n2, n3⟩ := mopK (s := ((K : Nat) : Int)) (hO1.re (hH2 5001 (by decide))) hO2
      have key : K + 1 + 1 * x.n.length + mKs x.k = k + mKs (xs.take (i + 1)) := by omega
      refine ⟨e0, by rw [← key]; rfl, rfl, .inr ⟨i, x, _, nms, rfl, hx, f2, ?_, n2, n3⟩⟩
      rw [← hK, n1, Nat.one_mul]
      cases x; rfl
    · have k1 : ¬ (i : Int) < xs.length := by omega
      have hi2 : i = xs.length := by omega
      have eH : H 2001 = _ := hn hi2
      subst hi2
      rw [List.take_length] at e1
      simp only [go_sem, e0, eH, e1, e5, k1, imp_self]
theorem markK_all : ∀ x : Kd, MRK x.k := by
  intro x
  induction x using Kd.ind with
  | _ s ns ks ih => exact markKs_of ks ih
theorem markKs_ok (xs : List Kd) : MRK xs := markKs_of xs fun x _ => markK_all x
mutual
/-- How many marks are written into a tree of a row. -/
def mT : Tr → Nat
  | .mk s n x ns ks => 3 + ns.length + mTs ks
def mTs : List Tr → Nat
  | [] => 0
  | k :: ks => mT k + mTs ks
end
mutual
/-- A tree of a row, with its marks. -/
def mkT (k : Nat) : Tr → Tr
  | .mk _ _ _ ns ks => .mk ((k : Nat) : Int) ((k + 1 : Nat) : Int) (mt (k + 2)) (marks mS 1 (k + 3) ns.length) (mkTs (k + 3 + ns.length) ks)
def mkTs (k : Nat) : List Tr → List Tr
  | [] => []
  | x :: xs => mkT k x :: mkTs (k + mT x) xs
end
theorem mTs_eq : ∀ ks, mTs ks = wsum mT ks
  | [] => by simp [mTs, wsum]
  | k :: ks => by simp [mTs, wsum, mTs_eq ks]
theorem mTs_take {ks : List Tr} {i : Nat} {x : Tr} (h : ks[i]? = some x) : mTs (ks.take (i + 1)) = mTs (ks.take i) + mT x := by rw [mTs_eq, mTs_eq]; exact wsum_take mT h
theorem mTs_le (ks : List Tr) (n : Nat) : mTs (ks.take n) ≤ mTs ks := by rw [mTs_eq, mTs_eq]; exact wsum_le mT ks n
theorem mTs_mem {ks : List Tr} {x : Tr} (h : x ∈ ks) : mT x ≤ mTs ks := by rw [mTs_eq]; exact wsum_mem mT h
theorem mT_pos (x : Tr) : 1 ≤ mT x := by cases x; simp only [mT]; omega
theorem mTs_len : ∀ ks, ks.length ≤ mTs ks
  | [] => Nat.zero_le _
  | k :: ks => by have := mT_pos k; have := mTs_len ks; simp only [List.length_cons, mTs]; omega
theorem mTs_of : ∀ (ks : List Tr), (∀ k ∈ ks, mT k ≤ 3 + 3 * wT k) → mTs ks ≤ 3 * ks.length + 3 * wTs ks
  | [], _ => by simp [mTs]
  | k :: ks, ih => by
    have h1 := ih k (by simp)
    have h2 := mTs_of ks fun x hx => ih x (by simp [hx])
    simp only [mTs, wTs, List.length_cons]; omega
theorem mT_w : ∀ y : Tr, mT y ≤ 3 + 3 * wT y := by
  intro y
  induction y using Tr.ind with
  | _ s n x ns ks ih =>
    have h := mTs_of ks ih
    simp only [mT, wT]
    omega
theorem mTs_w (ks : List Tr) : mTs ks ≤ 3 * ks.length + 3 * wTs ks := mTs_of ks fun k _ => mT_w k
theorem mkTs_len : ∀ (xs : List Tr) (k : Nat), (mkTs k xs).length = xs.length
  | [], _ => rfl
  | x :: xs, k => by simp [mkTs, mkTs_len xs]
theorem mkTs_at : ∀ {xs : List Tr} {k j : Nat} {x : Tr}, xs[j]? = some x → (mkTs k xs)[j]? = some (mkT (k + mTs (xs.take j)) x)
  | [], _, _, _, h => by simp at h
  | y :: xs, k, 0, x, h => by simp at h; subst h; simp [mkTs, mTs]
  | y :: xs, k, j + 1, x, h => by
    have := mkTs_at (k := k + mT y) (show xs[j]? = some x by simpa using h)
    simp only [mkTs, List.getElem?_cons_succ, this, List.take_succ_cons, mTs]
    congr 2; omega
def OpRT (H : HMap) (c : C) (id : Nat) (ks : List Tr) : Prop := (ks = [] ∧ c = .v (.sl [])) ∨ ∃ u, c = .tr id u ks.length ∧ H id = some (.tree u true 5 33 (encTs ks) none)
theorem OpRT.re {H H' : HMap} {c : C} {id : Nat} {ks : List Tr} (h : OpRT H c id ks) (e : H' id = H id) : OpRT H' c id ks := by
  rcases h with h | ⟨u, h1, h2⟩
  · exact .inl h
  · exact .inr ⟨u, h1, e.trans h2⟩
theorem encTs_cons (y : Tr) (ys : List Tr) : encTs (y :: ys) = encT y :: encTs ys := by simp [encTs_eq]
theorem opCT (id nv : Nat) (y : Tr) (ys : List Tr) : openC (some (5, 33)) id nv (.sl (encTs (y :: ys))) = .tr id nv (y :: ys).length := by
  rw [encTs_cons]
  show C.tr id nv ((encTs ys).length + 1) = _
  rw [encTs_len]; rfl
theorem opBT (nv : Nat) (s : Int) (n : Int) (x : ByteArray) (ns : List ByteArray)  (y : Tr) (ys : List Tr) : openB 33 nv (encT (.mk s n x ns (y :: ys))) 4 = some (.tree nv true 5 33 (encTs (y :: ys)) none) := by
  rw [encT_mk, encTs_cons]; rfl
theorem openT (x : Tr) (nv : Nat) : ∃ cN cK, openCs 33 5000 nv 0 (encT x) = [.v (.s (.int .i64 x.s)), .v (.s (.int .i64 x.m)), .v (.s (.string x.x)), cN, cK] ∧ ∀ H' : HMap, (∀ j, j < 5 → H' (5000 + j) = openB 33 nv (encT x) j) → OpS H' cN 5003 x.n ∧ OpRT H' cK 5004 x.k := by
  obtain ⟨s, n, x, ns, ks⟩ := x
  refine ⟨openC (some (1, 9)) 5003 nv (.sl (encS ns)), openC (some (5, 33)) 5004 nv (.sl (encTs ks)), by rw [encT_mk]; rfl, fun H' h => ⟨?_, ?_⟩⟩
  · cases ns with
    | nil => exact .inl ⟨rfl, rfl⟩
    | cons z zs => exact .inr ⟨nv, opCS _ _ z zs, (h 3 (by decide)).trans (by rw [encT_mk]; rfl)⟩
  · cases ks with
    | nil => exact .inl ⟨rfl, by rw [encTs_nil]; rfl⟩
    | cons y ys => exact .inr ⟨nv, opCT _ _ y ys, (h 4 (by decide)).trans (opBT nv s n x ns y ys)⟩
theorem mopT {H : HMap} {cN cK : C} {s : Int} {n : Int} {x : ByteArray} {ns : List ByteArray} {ks : List Tr} (h1 : OpS H cN 5003 ns) (h2 : OpRT H cK 5004 ks) : ∃ nms, moveCs H 33 0 [.v (.s (.int .i64 s)), .v (.s (.int .i64 n)), .v (.s (.string x)), cN, cK] = some (encT (.mk s n x ns ks), nms) ∧ nms.Nodup ∧ 2001 ∉ nms := by
  rcases h1 with ⟨rfl, rfl⟩ | ⟨u, rfl, h1⟩ <;> rcases h2 with ⟨rfl, rfl⟩ | ⟨u', rfl, h2⟩
  · exact ⟨[], by simp only [go_sem, encT_mk], by decide, by decide⟩
  · exact ⟨[5004], by simp only [go_sem, encT_mk, h2, take_encTs], by decide, by decide⟩
  · exact ⟨[5003], by simp only [go_sem, encT_mk, h1, take_encS], by decide, by decide⟩
  · exact ⟨[5003, 5004], by simp only [go_sem, encT_mk, h1, h2, take_encS, take_encTs], by decide, by decide⟩
theorem callMRT {P : Program} {t : Nat → T} {H : HMap} {c : Nat} {f : Opd} {args : List Opd} {fid : FuncId} {k : Nat} {d : Option Nat} {l : List AOper} {prev : List (Nat × List Nat × List Nat)} {K : St → Prop} {cN : C} {id : Nat} {ks ks' : List Tr} {x r : T} (hO : OpRT H cN id ks) (hC : ∀ m v, ACallsF P fid [.c (.tr 2001 v ks.length), x] [trH 2001 m v 5 33 (encTs ks) (encTs ks')] r) (hC0 : ks = [] → ACallsF P fid [tL [], x] [] r) (hlen : ks'.length = ks.length)
    (hf : ev t f = .pt (.one (.fn fid []))) (hl : args.map (ev t) = [.c cN, x]) (hx : closedA x = true) (hr : closedT r = true) (hk : ∀ H1 prev', (∀ n, n ≠ id → H1 n = H n) → OpRT H1 cN id ks' → DRun P l prev' K ⟨updD t d r, H1, c⟩) : step P k d [] (.call f args) l prev K t H c := by
  rcases hO with ⟨h1, rfl⟩ | ⟨u, rfl, h2⟩
  · have : ks' = [] := by rw [h1] at hlen; exact List.length_eq_zero_iff.1 hlen
    exact callC (hC0 h1) hf hl (by simp only [List.all_cons, List.all_nil, hx, Bool.and_true]; rfl) hr (hk H prev (fun _ _ => rfl) (.inl ⟨this, rfl⟩))
  · exact callTm (m := id) (hC id u) hf hl h2 hx hr ⟨rfl, hk _ _ (fun n hn => upd_ne _ _ hn) (.inr ⟨u, by rw [hlen], upd_same _ _ _⟩)⟩
def ok38 := okF.gu (P := Try.prog) tab Try.func38 Try.ntmps38 (by conv => lhs; cbv) (by kernel_rfl)
theorem markTs0_ok (k : Nat) : ACallsF Try.prog 38 [tL [], .i k] [] (.i k) := by
  refine ACallsF.intro ok38 follows fun X c0 => ?_
  simp only [go_sem]
  refine AW.upto 0 (fun i σ => σ.t 0 = tL [] ∧ σ.t 1 = .i k ∧ σ.t 5 = .i i) ⟨rfl, rfl, rfl⟩ fun i t H c hi h => ?_
  obtain ⟨e0, e1, e5⟩ := h
  simp only [T.c, T.i, tL] at e0 e1 e5
  have k1 : ¬ (i : Int) < 0 := by omega
  simp only [go_sem, e0, e1, e5, k1, Int.ofNat_zero, Int.cast_ofNat_Int]
def mkdT (xs : List Tr) (k j : Nat) : List Tr := (mkTs k xs).take j ++ xs.drop j
theorem mkdT_at {xs : List Tr} {k i : Nat} {x : Tr} (h : xs[i]? = some x) : (mkdT xs k i)[i]? = some x := by
  have hi := (List.getElem?_eq_some_iff.1 h).1
  rw [mkdT, List.getElem?_append_right (by rw [List.length_take]; omega), List.length_take, mkTs_len, List.getElem?_drop, show i + (i - min i xs.length) = i from by omega]; exact h
def inv38 (xs : List Tr) (k v : Nat) (i : Nat) (σ : St) : Prop := σ.t 0 = .c (.tr 2001 v xs.length) ∧ σ.t 1 = .i ((k + mTs (xs.take i) : Nat) : Int) ∧ σ.t 5 = .i i ∧
  ((i = 0 ∧ σ.H 2001 = some (.tree v true 5 33 (encTs xs) none)) ∨ ∃ j x cs nms, i = j + 1 ∧ xs[j]? = some x ∧ σ.H 2001 = some (.tree v true 5 33 (encTs (mkdT xs k j)) (some (j, cs))) ∧ moveCs σ.H 33 0 cs = some (encT (mkT (k + mTs (xs.take j)) x), nms) ∧ nms.Nodup ∧ 2001 ∉ nms)
def mid38 (xs : List Tr) (k v : Nat) (i : Nat) (σ : St) : Prop := σ.t 0 = .c (.tr 2001 v xs.length) ∧ σ.t 1 = .i ((k + mTs (xs.take i) : Nat) : Int) ∧ σ.t 5 = .i i ∧
  (i < xs.length → ∃ x cN cK, xs[i]? = some x ∧ σ.H 2001 = some (.tree v true 5 33 (encTs (mkdT xs k i)) (some (i, [.v (.s (.int .i64 x.s)), .v (.s (.int .i64 x.m)), .v (.s (.string x.x)), cN, cK]))) ∧ OpS σ.H cN 5003 x.n ∧ OpRT σ.H cK 5004 x.k) ∧ (i = xs.length → σ.H 2001 = some (.tree v true 5 33 (encTs (mkTs k xs)) none))
def MRT (ks : List Tr) : Prop := ∀ (k m v : Nat), 1 ≤ k → k + mTs ks ≤ 100000000 → ACallsF Try.prog 38 [.c (.tr 2001 v ks.length), .i k] [trH 2001 m v 5 33 (encTs ks) (encTs (mkTs k ks))] (.i ((k + mTs ks : Nat) : Int))
set_option maxHeartbeats 1000000 in
theorem markTs_of (xs : List Tr) (ih : ∀ x ∈ xs, MRT x.k) : MRT xs := by
  intro k m v h1 hk
  have hxl := mTs_len xs
  refine ACallsF.intro ok38 follows fun X c0 => ?_
  simp only [go_sem]
  refine AW.uptoG xs.length (inv38 xs k v) (mid38 xs k v) ⟨rfl, by simp [mTs]; rfl, rfl, .inl ⟨rfl, rfl⟩⟩ (fun i t H c hi h => ?_) fun i t H c hi h => ?_
  · obtain ⟨e0, e1, e5, hH⟩ := h
    obtain ⟨H1, g1, q1⟩ : ∃ H1, Gh H c H1 c ∧ H1 2001 = some (.tree v true 5 33 (encTs (mkdT xs k i)) none) := by
      rcases hH with ⟨rfl, hH⟩ | ⟨j, x, cs, nms, rfl, hx, hH, hM, hn1, hn2⟩
      · exact ⟨H, Gh.refl H c, by simpa [mkdT] using hH⟩
      · have := gh_close (c := c) hH hM hn1 hn2
        rw [set_encTs, mkdT, set_out (mkTs_len xs k) (mkTs_at hx)] at this
        exact ⟨_, this, closeH_id _ _ _ _⟩
    by_cases hlt : i < xs.length
    · obtain ⟨x, hx⟩ : ∃ x, xs[i]? = some x := ⟨_, List.getElem?_eq_getElem hlt⟩
      obtain ⟨cN, cK, o1, o2⟩ := openT x c
      have a1 := openH_id H1 2001 v 5 33 (encTs (mkdT xs k i)) i (encT x) 5000 c
      rw [o1] at a1
      obtain ⟨a2, a3⟩ := o2 (openH H1 2001 v 5 33 (encTs (mkdT xs k i)) i (encT x) 5000 c) fun j hj => openH_in H1 2001 v 5 33 (encTs (mkdT xs k i)) i (encT x) 5000 c j (by omega) hj
      exact ⟨_, _, g1.trans (gh_open 5000 q1 (encTs_at (mkdT_at hx)) (by decide)), e0, e1, e5, fun _ => ⟨x, cN, cK, hx, a1, a2, a3⟩, fun h => absurd h (by omega)⟩
    · have : i = xs.length := by omega
      subst this
      rw [mkdT, List.drop_length, List.append_nil, ← mkTs_len xs k, List.take_length] at q1
      exact ⟨_, _, g1, e0, e1, e5, fun h => absurd h hlt, fun _ => q1⟩
  · obtain ⟨e0, e1, e5, hm, hn⟩ := h
    simp only [T.c, T.i] at e0 e1 e5
    have hpl : (mkdT xs k i).length = xs.length := by rw [mkdT, List.length_append, List.length_take, List.length_drop, mkTs_len]; omega
    by_cases hlt : i < xs.length
    · obtain ⟨x, cN, cK, hx, eH, hON, hOK⟩ := hm hlt
      replace eH : H 2001 = _ := eH
      have k1 : (i : Int) < xs.length := by omega
      have gz : (0 : Int) ≤ i := by omega
      have gm : i < xs.length := hlt
      have gw : IntKind.i64.wrap ((i : Int) + 1) = ((i + 1 : Nat) : Int) := wrap64 (x := (i : Int) + 1) ⟨by omega, by omega⟩
      have hs := mTs_take hx
      have hle := mTs_le xs (i + 1)
      have hmx := List.mem_of_getElem? hx
      obtain ⟨K, hK⟩ : ∃ K, K = k + mTs (xs.take i) := ⟨_, rfl⟩
      rw [← hK] at e1
      have hww : mT x = 3 + x.n.length + mTs x.k := by cases x; rfl
      have g0 : IntKind.i64.wrap ((K : Int) + 1) = ((K + 1 : Nat) : Int) := (wrap64 (x := (K : Int) + 1) ⟨by omega, by omega⟩).trans (by omega)
      have g1 : IntKind.i64.wrap (((K + 1 : Nat) : Int) + 1) = ((K + 2 : Nat) : Int) := (wrap64 (x := ((K + 1 : Nat) : Int) + 1) ⟨by omega, by omega⟩).trans (by omega)
      have g2 : IntKind.i64.wrap (((K + 2 : Nat) : Int) + 1) = ((K + 3 : Nat) : Int) := (wrap64 (x := ((K + 2 : Nat) : Int) + 1) ⟨by omega, by omega⟩).trans (by omega)
      simp only [go_sem, e0, eH, e1, e5, k1, gz, gm, hpl, g0, g1, g2, Int.toNat_natCast]
      refine callC (mark_ok (K + 2) (by omega) (by omega)) rfl rfl rfl rfl ?_
      simp only [go_sem, e0, eH, e1, e5, k1, gz, gm, hpl, g0, g1, g2, Int.toNat_natCast]
      refine callMS (id := 5003) (hON.re rfl) (fun m v => markSs_ok x.n (K + 3) (by omega) (by omega) m v) (fun h => by rw [h]; exact markSs0_ok (K + 3)) (marks_len mS 1 (K + 3) x.n.length) rfl rfl rfl rfl fun H1 p1 hH1 hO1 => ?_
      have f1 : H1 2001 = some (.tree v true 5 33 (encTs (mkdT xs k i)) (some (i, [.v (.s (.int .i64 ((K : Nat) : Int))), .v (.s (.int .i64 ((K + 1 : Nat) : Int))), .v (.s (.string (mt (K + 2)))), cN, cK]))) := hH1 2001 (by decide)
      simp only [go_sem, e0, f1, e5, k1, gz, gm, hpl, Int.toNat_natCast]
      refine callMRT (id := 5004) (hOK.re (hH1 5004 (by decide))) (fun m v => ih x hmx (K + 3 + 1 * x.n.length) m v (by omega) (by omega)) (fun h => by rw [h]; exact markTs0_ok (K + 3 + 1 * x.n.length)) (mkTs_len x.k (K + 3 + 1 * x.n.length)) rfl rfl rfl rfl fun H2 p2 hH2 hO2 => ?_
      have f2 : H2 2001 = some (.tree v true 5 33 (encTs (mkdT xs k i)) (some (i, [.v (.s (.int .i64 ((K : Nat) : Int))), .v (.s (.int .i64 ((K + 1 : Nat) : Int))), .v (.s (.string (mt (K + 2)))), cN, cK]))) := (hH2 2001 (by decide)).trans f1
      simp only [go_sem, e0, f2, e5, gw]
      obtain ⟨nms, n1, n2, n3⟩ := mopT (s := ((K : Nat) : Int)) (n := ((K + 1 : Nat) : Int)) (x := mt (K + 2)) (hO1.re (hH2 5003 (by decide))) hO2
      have key : K + 3 + 1 * x.n.length + mTs x.k = k + mTs (xs.take (i + 1)) := by omega
      refine ⟨e0, by rw [← key]; rfl, rfl, .inr ⟨i, x, _, nms, rfl, hx, f2, ?_, n2, n3⟩⟩
      rw [← hK, n1, Nat.one_mul]
      cases x; rfl
    · have k1 : ¬ (i : Int) < xs.length := by omega
      have hi2 : i = xs.length := by omega
      have eH : H 2001 = _ := hn hi2
      subst hi2
      rw [List.take_length] at e1
      simp only [go_sem, e0, eH, e1, e5, k1, imp_self]
theorem markT_all : ∀ x : Tr, MRT x.k := by
  intro x
  induction x using Tr.ind with
  | _ s n x ns ks ih => exact markTs_of ks ih
theorem markTs_ok (xs : List Tr) : MRT xs := markTs_of xs fun x _ => markT_all x
end Go.V
set_option linter.unusedSimpArgs false
set_option maxRecDepth 20000
namespace Go.V
open Go.Proofs
theorem enc_mkK (K : Nat) (x : Kd) : encK (mkK K x) = [.s (.int .i64 ((K : Nat) : Int)), .sl (encS (marks mS 1 (K + 1) x.n.length)), .sl (encKs (mkKs (K + 1 + x.n.length) x.k))] := by
  obtain ⟨_, ns, ks⟩ := x
  simp only [mkK, encK_mk]; rfl
def ok45 := okF.gu (P := Try.prog) tab Try.func45 Try.ntmps45 (by conv => lhs; cbv) (by kernel_rfl)
def HRK (ks : List Kd) : Prop := ∀ (k : Nat), 1 ≤ k → k + mKs ks ≤ 100000000 → ACallsF Try.prog 45 [tL (encKs (mkKs k ks)), .i k] [] (.i ((k + mKs ks : Nat) : Int))
def inv45 (xs : List Kd) (k : Nat) (i : Nat) (σ : St) : Prop := σ.t 0 = tL (encKs (mkKs k xs)) ∧ σ.t 1 = .i ((k + mKs (xs.take i) : Nat) : Int) ∧ σ.t 5 = .i i
set_option maxHeartbeats 1000000 in
theorem heldKs_of (xs : List Kd) (ih : ∀ x ∈ xs, HRK x.k) : HRK xs := by
  intro k h1 hk
  have hxl := mKs_len xs
  have hpl := mkKs_len xs k
  refine ACallsF.intro ok45 follows fun X c0 => ?_
  simp only [go_sem]
  refine AW.upto xs.length (inv45 xs k) ⟨rfl, by simp [mKs]; rfl, rfl⟩ fun i t H c hi h => ?_
  obtain ⟨e0, e1, e5⟩ := h
  simp only [T.c, T.i, tL] at e0 e1 e5
  by_cases hlt : i < xs.length
  · obtain ⟨x, hx⟩ : ∃ x, xs[i]? = some x := ⟨_, List.getElem?_eq_getElem hlt⟩
    have ex := encKs_at (mkKs_at (k := k) hx)
    have k1 : (i : Int) < xs.length := by omega
    have gz : (0 : Int) ≤ i := by omega
    have gw : IntKind.i64.wrap ((i : Int) + 1) = ((i + 1 : Nat) : Int) := wrap64 (x := (i : Int) + 1) ⟨by omega, by omega⟩
    have hs := mKs_take hx
    have hle := mKs_le xs (i + 1)
    have hmx := List.mem_of_getElem? hx
    have hww : mK x = 1 + x.n.length + mKs x.k := by cases x; rfl
    obtain ⟨K, hK⟩ : ∃ K, K = k + mKs (xs.take i) := ⟨_, rfl⟩
    rw [← hK] at e1 ex
    rw [enc_mkK] at ex
    have g0 : IntKind.i64.wrap ((K : Int) + 1) = ((K + 1 : Nat) : Int) := (wrap64 (x := (K : Int) + 1) ⟨by omega, by omega⟩).trans (by omega)
    have n0 : ((K : Int) != (K : Int)) = false := by simp
    have b1 : ¬ ((K + 1 + 1 * x.n.length : Nat) : Int) < 0 := by omega
    have b2 : ¬ ((K + 1 + 1 * x.n.length + mKs x.k : Nat) : Int) < 0 := by omega
    have hC := ih x hmx (K + 1 + x.n.length) (by omega) (by omega)
    have hC1 := heldSs_ok x.n.length (K + 1) (by omega) (by omega)
    rw [show K + 1 + x.n.length = K + 1 + 1 * x.n.length by omega] at hC ex
    simp only [go_sem, e0, e1, e5, k1, gz, hpl, ex, g0, n0, Int.toNat_natCast]
    refine callC hC1 rfl rfl rfl rfl ?_
    simp only [go_sem, e0, e5, b1, gz, ex, Int.toNat_natCast]
    refine callC hC rfl rfl rfl rfl ?_
    simp only [go_sem, e5, b2, gw]
    have key : K + 1 + 1 * x.n.length + mKs x.k = k + mKs (xs.take (i + 1)) := by omega
    exact ⟨hlt, e0, by rw [← key]; rfl, rfl⟩
  · have k1 : ¬ (i : Int) < xs.length := by omega
    have hi2 : i = xs.length := by omega
    subst hi2
    rw [List.take_length] at e1
    simp only [go_sem, e0, e1, e5, k1, hpl]
theorem heldK_all : ∀ x : Kd, HRK x.k := by
  intro x
  induction x using Kd.ind with
  | _ s ns ks ih => exact heldKs_of ks ih
theorem heldKs_ok (xs : List Kd) : HRK xs := heldKs_of xs fun x _ => heldK_all x
/-- A kind whose rows are marked. -/
def topK (k : Nat) : Kd → Kd
  | .mk s ns ks => .mk s (marks mS 1 k ns.length) (mkKs (k + 1 * ns.length) ks)
def topNK (k : Nat) (y : Kd) : Nat := k + 1 * y.n.length + mKs y.k
theorem topNK_le (k : Nat) (y : Kd) : topNK k y ≤ k + 1 * wK y := by
  obtain ⟨s, ns, ks⟩ := y
  have := mKs_w ks
  simp only [topNK, wK]
  show k + 1 * ns.length + mKs ks ≤ _
  omega
theorem topNK_ge (k : Nat) (y : Kd) : k ≤ topNK k y := by unfold topNK; omega
theorem topK_n (k : Nat) (y : Kd) : (topK k y).n = marks mS 1 k y.n.length := by cases y; rfl
theorem topK_k (k : Nat) (y : Kd) : (topK k y).k = mkKs (k + 1 * y.n.length) y.k := by cases y; rfl
abbrev mkKH (m1 m2 v1 v2 : Nat) (y y' : Kd) : List Hand := [arH 2001 m1 v1 1 9 (encS y.n) (encS y'.n), trH 2002 m2 v2 3 38 (encKs y.k) (encKs y'.k)]
def ok13 := okF.gu (P := Try.prog) tab Try.func13 Try.ntmps13 (by conv => lhs; cbv) (by kernel_rfl)
theorem markK_ok (y : Kd) (k : Nat) (h1 : 1 ≤ k) (hk : topNK k y ≤ 100000000) (m1 m2 v1 v2 : Nat) : ACallsF Try.prog 13 [.pt (oKd 2001 v1 2002 v2 y), .i k] (mkKH m1 m2 v1 v2 y (topK k y)) (.i (topNK k y : Nat)) := by
  unfold topNK at *
  unfold mkKH
  rw [topK_n, topK_k]
  refine ACallsF.intro ok13 follows fun X c0 => ?_
  simp only [go_sem]
  refine callM1 (m := 2001) (markSs_ok y.n k h1 (by omega) 2001 v1) rfl rfl rfl rfl rfl ⟨rfl, ?_⟩
  simp only [go_sem]
  refine callTm (m := 2002) (markKs_ok y.k (k + 1 * y.n.length) 2002 v2 (by omega) (by omega)) rfl rfl rfl rfl rfl ⟨rfl, ?_⟩
  simp only [go_sem, imp_self]
def ok18 := okF.gu (P := Try.prog) tab Try.func18 Try.ntmps18 (by conv => lhs; cbv) (by kernel_rfl)
theorem heldK_ok (y : Kd) (k : Nat) (h1 : 1 ≤ k) (hk : topNK k y ≤ 100000000) : ACallsF Try.prog 18 [tK (topK k y), .i k] [] (.i (topNK k y : Nat)) := by
  unfold topNK at *
  have b1 : ¬ ((k + 1 * y.n.length : Nat) : Int) < 0 := by omega
  have b2 : ¬ ((k + 1 * y.n.length + mKs y.k : Nat) : Int) < 0 := by omega
  have e := encK_eta (topK k y)
  rw [topK_n, topK_k] at e
  refine ACallsF.intro ok18 follows fun X c0 => ?_
  simp only [go_sem, e]
  refine callC (heldSs_ok y.n.length k h1 (by omega)) rfl rfl rfl rfl ?_
  simp only [go_sem, b1]
  refine callC (heldKs_ok y.k (k + 1 * y.n.length) (by omega) (by omega)) rfl rfl rfl rfl ?_
  simp only [go_sem, b2]
/-- A call that works in place on a kind. -/
theorem callMkK {P : Program} {t : Nat → T} {H : HMap} {c : Nat} {f : Opd} {args : List Opd} {fid : FuncId} {k : Nat} {d : Option Nat} {un : List Nat} {l : List AOper} {prev : List (Nat × List Nat × List Nat)} {K : St → Prop} {m1 m2 v1 v2 : Nat} {y y' : Kd} {x r : T} (hC : ACallsF P fid [.pt (oKd 2001 v1 2002 v2 y), x] (mkKH m1 m2 v1 v2 y y') r) (hf : ev t f = .pt (.one (.fn fid []))) (hl : args.map (ev t) = [.pt (oKd m1 v1 m2 v2 y), x]) (hx : closedA x = true) (hr : closedT r = true)
    (hm : m1 ≠ m2) (h1 : H m1 = some (.arr v1 true 1 9 (encS y.n))) (h2 : H m2 = some (.tree v2 true 3 38 (encKs y.k) none))
    (hk : chk prev un ⟨r, [(m1, .arr v1 true 1 9 (encS y'.n)), (m2, .tree v2 true 3 38 (encKs y'.k) none)], [m1, m2], [m1, m2]⟩ = true ∧
      DRun P l ((k, [m1, m2], [m1, m2]) :: prev) K ⟨updD t d r, upd (upd H m1 (some (.arr v1 true 1 9 (encS y'.n)))) m2 (some (.tree v2 true 3 38 (encKs y'.k) none)), c⟩) :
    step P k d un (.call f args) l prev K t H c := by
  generalize hhs : mkKH m1 m2 v1 v2 y y' = hs at hC
  have R1 : renN hs 2001 = some (arH 2001 m1 v1 1 9 (encS y.n) (encS y'.n)) := by rw [← hhs]; rfl
  have R2 : renN hs 2002 = some (trH 2002 m2 v2 3 38 (encKs y.k) (encKs y'.k)) := by rw [← hhs]; rfl
  have I1 : inN hs 2001 = some m1 := by simp [inN, R1]
  have I2 : inN hs 2002 = some m2 := by simp [inN, R2]
  obtain ⟨x1, x2⟩ := closed_A hs H x hx
  refine callW (caps := []) («as» := [.pt (oKd m1 v1 m2 v2 y), x]) (ws := []) (ns := []) (r' := r) (ob := [(m1, .arr v1 true 1 9 (encS y'.n)), (m2, .tree v2 true 3 38 (encKs y'.k) none)]) hs hC hf ?_ ?_ ?_ (by rw [← hhs]; simp [hm]) (by rw [← hhs]; simp) (closed_T _ r hr _) ?_ ?_
  · have a1 : lendT H (.pt (oKd 2001 v1 2002 v2 y)) (.pt (oKd m1 v1 m2 v2 y)) = some (.pt (oKd m1 v1 m2 v2 y), [], []) := rfl
    rw [hl]
    simp only [List.map_nil, List.append_nil, lendTs, a1, x1]
  · have a1 : renIT hs (.pt (oKd 2001 v1 2002 v2 y)) = some (.pt (oKd m1 v1 m2 v2 y)) := by simp only [renIT, renIs, renI, I1, I2, Option.map_some]
    simp only [renITs, a1, x2]
  · have B1 : ∀ v wr st ty es, renIB hs (.arr v wr st ty es) = some (.arr v wr st ty es) := fun _ _ _ _ _ => rfl
    have B2 : ∀ v wr st ty es, renIB hs (.tree v wr st ty es none) = some (.tree v wr st ty es none) := fun _ _ _ _ _ => rfl
    have key : handsIn (updH H []) hs (mkKH m1 m2 v1 v2 y y') := by
      simp only [handsIn, B1, B2, updH, h1, h2, and_self]
    rw [hhs] at key
    exact key
  · have key : renOBs hs (c + k) (mkKH m1 m2 v1 v2 y y') = some [(m1, .arr v1 true 1 9 (encS y'.n)), (m2, .tree v2 true 3 38 (encKs y'.k) none)] := by
      simp only [renOBs, renOB, verOf, if_true, Blk.ver]
    rw [hhs] at key
    exact key
  · have hq : quiet r hs = false := by rw [← hhs]; simp [quiet]
    have hms : hs.map (·.m) = [m1, m2] := by rw [← hhs]; rfl
    rw [hq, hms]
    simpa [updH] using hk
theorem enc_mkT (K : Nat) (x : Tr) : encT (mkT K x) = [.s (.int .i64 ((K : Nat) : Int)), .s (.int .i64 ((K + 1 : Nat) : Int)), .s (.string (mt (K + 2))), .sl (encS (marks mS 1 (K + 3) x.n.length)), .sl (encTs (mkTs (K + 3 + x.n.length) x.k))] := by
  obtain ⟨_, _, _, ns, ks⟩ := x
  simp only [mkT, encT_mk]; rfl
def ok40 := okF.gu (P := Try.prog) tab Try.func40 Try.ntmps40 (by conv => lhs; cbv) (by kernel_rfl)
def HRT (ks : List Tr) : Prop := ∀ (k : Nat), 1 ≤ k → k + mTs ks ≤ 100000000 → ACallsF Try.prog 40 [tL (encTs (mkTs k ks)), .i k] [] (.i ((k + mTs ks : Nat) : Int))
def inv40 (xs : List Tr) (k : Nat) (i : Nat) (σ : St) : Prop := σ.t 0 = tL (encTs (mkTs k xs)) ∧ σ.t 1 = .i ((k + mTs (xs.take i) : Nat) : Int) ∧ σ.t 5 = .i i
set_option maxHeartbeats 1000000 in
theorem heldTs_of (xs : List Tr) (ih : ∀ x ∈ xs, HRT x.k) : HRT xs := by
  intro k h1 hk
  have hxl := mTs_len xs
  have hpl := mkTs_len xs k
  refine ACallsF.intro ok40 follows fun X c0 => ?_
  simp only [go_sem]
  refine AW.upto xs.length (inv40 xs k) ⟨rfl, by simp [mTs]; rfl, rfl⟩ fun i t H c hi h => ?_
  obtain ⟨e0, e1, e5⟩ := h
  simp only [T.c, T.i, tL] at e0 e1 e5
  by_cases hlt : i < xs.length
  · obtain ⟨x, hx⟩ : ∃ x, xs[i]? = some x := ⟨_, List.getElem?_eq_getElem hlt⟩
    have ex := encTs_at (mkTs_at (k := k) hx)
    have k1 : (i : Int) < xs.length := by omega
    have gz : (0 : Int) ≤ i := by omega
    have gw : IntKind.i64.wrap ((i : Int) + 1) = ((i + 1 : Nat) : Int) := wrap64 (x := (i : Int) + 1) ⟨by omega, by omega⟩
    have hs := mTs_take hx
    have hle := mTs_le xs (i + 1)
    have hmx := List.mem_of_getElem? hx
    have hww : mT x = 3 + x.n.length + mTs x.k := by cases x; rfl
    obtain ⟨K, hK⟩ : ∃ K, K = k + mTs (xs.take i) := ⟨_, rfl⟩
    rw [← hK] at e1 ex
    rw [enc_mkT] at ex
    have g0 : IntKind.i64.wrap ((K : Int) + 1) = ((K + 1 : Nat) : Int) := (wrap64 (x := (K : Int) + 1) ⟨by omega, by omega⟩).trans (by omega)
    have n0 : ((K : Int) != (K : Int)) = false := by simp
    have g1 : IntKind.i64.wrap (((K + 1 : Nat) : Int) + 1) = ((K + 2 : Nat) : Int) := (wrap64 (x := ((K + 1 : Nat) : Int) + 1) ⟨by omega, by omega⟩).trans (by omega)
    have n1 : (((K + 1 : Nat) : Int) != ((K + 1 : Nat) : Int)) = false := by simp
    have g2 : IntKind.i64.wrap (((K + 2 : Nat) : Int) + 1) = ((K + 3 : Nat) : Int) := (wrap64 (x := ((K + 2 : Nat) : Int) + 1) ⟨by omega, by omega⟩).trans (by omega)
    have b1 : ¬ ((K + 3 + 1 * x.n.length : Nat) : Int) < 0 := by omega
    have b2 : ¬ ((K + 3 + 1 * x.n.length + mTs x.k : Nat) : Int) < 0 := by omega
    have hC := ih x hmx (K + 3 + x.n.length) (by omega) (by omega)
    have hC1 := heldSs_ok x.n.length (K + 3) (by omega) (by omega)
    rw [show K + 3 + x.n.length = K + 3 + 1 * x.n.length by omega] at hC ex
    simp only [go_sem, e0, e1, e5, k1, gz, hpl, ex, g0, n0, g1, n1, g2, Int.toNat_natCast]
    refine callC (mark_ok (K + 2) (by omega) (by omega)) rfl rfl rfl rfl ?_
    simp only [go_sem, e0, e5, k1, gz, hpl, ex, g0, n0, g1, n1, g2, sStr, str_beq, decide_true, Int.toNat_natCast]
    refine callC hC1 rfl rfl rfl rfl ?_
    simp only [go_sem, e0, e5, b1, gz, ex, Int.toNat_natCast]
    refine callC hC rfl rfl rfl rfl ?_
    simp only [go_sem, e5, b2, gw]
    have key : K + 3 + 1 * x.n.length + mTs x.k = k + mTs (xs.take (i + 1)) := by omega
    exact ⟨hlt, e0, by rw [← key]; rfl, rfl⟩
  · have k1 : ¬ (i : Int) < xs.length := by omega
    have hi2 : i = xs.length := by omega
    subst hi2
    rw [List.take_length] at e1
    simp only [go_sem, e0, e1, e5, k1, hpl]
theorem heldT_all : ∀ x : Tr, HRT x.k := by
  intro x
  induction x using Tr.ind with
  | _ s n x ns ks ih => exact heldTs_of ks ih
theorem heldTs_ok (xs : List Tr) : HRT xs := heldTs_of xs fun x _ => heldT_all x
/-- A tree whose rows are marked. -/
def topT (k : Nat) : Tr → Tr
  | .mk s n x ns ks => .mk s n x (marks mS 1 k ns.length) (mkTs (k + 1 * ns.length) ks)
def topNT (k : Nat) (y : Tr) : Nat := k + 1 * y.n.length + mTs y.k
theorem topNT_le (k : Nat) (y : Tr) : topNT k y ≤ k + 3 * wT y := by
  obtain ⟨s, n, x, ns, ks⟩ := y
  have := mTs_w ks
  simp only [topNT, wT]
  show k + 1 * ns.length + mTs ks ≤ _
  omega
theorem topNT_ge (k : Nat) (y : Tr) : k ≤ topNT k y := by unfold topNT; omega
theorem topT_n (k : Nat) (y : Tr) : (topT k y).n = marks mS 1 k y.n.length := by cases y; rfl
theorem topT_k (k : Nat) (y : Tr) : (topT k y).k = mkTs (k + 1 * y.n.length) y.k := by cases y; rfl
abbrev mkTH (m1 m2 v1 v2 : Nat) (y y' : Tr) : List Hand := [arH 2001 m1 v1 1 9 (encS y.n) (encS y'.n), trH 2002 m2 v2 5 33 (encTs y.k) (encTs y'.k)]
def ok14 := okF.gu (P := Try.prog) tab Try.func14 Try.ntmps14 (by conv => lhs; cbv) (by kernel_rfl)
theorem markT_ok (y : Tr) (k : Nat) (h1 : 1 ≤ k) (hk : topNT k y ≤ 100000000) (m1 m2 v1 v2 : Nat) : ACallsF Try.prog 14 [.pt (oTr 2001 v1 2002 v2 y), .i k] (mkTH m1 m2 v1 v2 y (topT k y)) (.i (topNT k y : Nat)) := by
  unfold topNT at *
  unfold mkTH
  rw [topT_n, topT_k]
  refine ACallsF.intro ok14 follows fun X c0 => ?_
  simp only [go_sem]
  refine callM1 (m := 2001) (markSs_ok y.n k h1 (by omega) 2001 v1) rfl rfl rfl rfl rfl ⟨rfl, ?_⟩
  simp only [go_sem]
  refine callTm (m := 2002) (markTs_ok y.k (k + 1 * y.n.length) 2002 v2 (by omega) (by omega)) rfl rfl rfl rfl rfl ⟨rfl, ?_⟩
  simp only [go_sem, imp_self]
def ok15 := okF.gu (P := Try.prog) tab Try.func15 Try.ntmps15 (by conv => lhs; cbv) (by kernel_rfl)
theorem heldT_ok (y : Tr) (k : Nat) (h1 : 1 ≤ k) (hk : topNT k y ≤ 100000000) : ACallsF Try.prog 15 [tT (topT k y), .i k] [] (.i (topNT k y : Nat)) := by
  unfold topNT at *
  have b1 : ¬ ((k + 1 * y.n.length : Nat) : Int) < 0 := by omega
  have b2 : ¬ ((k + 1 * y.n.length + mTs y.k : Nat) : Int) < 0 := by omega
  have e := encT_eta (topT k y)
  rw [topT_n, topT_k] at e
  refine ACallsF.intro ok15 follows fun X c0 => ?_
  simp only [go_sem, e]
  refine callC (heldSs_ok y.n.length k h1 (by omega)) rfl rfl rfl rfl ?_
  simp only [go_sem, b1]
  refine callC (heldTs_ok y.k (k + 1 * y.n.length) (by omega) (by omega)) rfl rfl rfl rfl ?_
  simp only [go_sem, b2]
/-- A call that works in place on a tree. -/
theorem callMkT {P : Program} {t : Nat → T} {H : HMap} {c : Nat} {f : Opd} {args : List Opd} {fid : FuncId} {k : Nat} {d : Option Nat} {un : List Nat} {l : List AOper} {prev : List (Nat × List Nat × List Nat)} {K : St → Prop} {m1 m2 v1 v2 : Nat} {y y' : Tr} {x r : T} (hC : ACallsF P fid [.pt (oTr 2001 v1 2002 v2 y), x] (mkTH m1 m2 v1 v2 y y') r) (hf : ev t f = .pt (.one (.fn fid []))) (hl : args.map (ev t) = [.pt (oTr m1 v1 m2 v2 y), x]) (hx : closedA x = true) (hr : closedT r = true)
    (hm : m1 ≠ m2) (h1 : H m1 = some (.arr v1 true 1 9 (encS y.n))) (h2 : H m2 = some (.tree v2 true 5 33 (encTs y.k) none))
    (hk : chk prev un ⟨r, [(m1, .arr v1 true 1 9 (encS y'.n)), (m2, .tree v2 true 5 33 (encTs y'.k) none)], [m1, m2], [m1, m2]⟩ = true ∧
      DRun P l ((k, [m1, m2], [m1, m2]) :: prev) K ⟨updD t d r, upd (upd H m1 (some (.arr v1 true 1 9 (encS y'.n)))) m2 (some (.tree v2 true 5 33 (encTs y'.k) none)), c⟩) :
    step P k d un (.call f args) l prev K t H c := by
  generalize hhs : mkTH m1 m2 v1 v2 y y' = hs at hC
  have R1 : renN hs 2001 = some (arH 2001 m1 v1 1 9 (encS y.n) (encS y'.n)) := by rw [← hhs]; rfl
  have R2 : renN hs 2002 = some (trH 2002 m2 v2 5 33 (encTs y.k) (encTs y'.k)) := by rw [← hhs]; rfl
  have I1 : inN hs 2001 = some m1 := by simp [inN, R1]
  have I2 : inN hs 2002 = some m2 := by simp [inN, R2]
  obtain ⟨x1, x2⟩ := closed_A hs H x hx
  refine callW (caps := []) («as» := [.pt (oTr m1 v1 m2 v2 y), x]) (ws := []) (ns := []) (r' := r) (ob := [(m1, .arr v1 true 1 9 (encS y'.n)), (m2, .tree v2 true 5 33 (encTs y'.k) none)]) hs hC hf ?_ ?_ ?_ (by rw [← hhs]; simp [hm]) (by rw [← hhs]; simp) (closed_T _ r hr _) ?_ ?_
  · have a1 : lendT H (.pt (oTr 2001 v1 2002 v2 y)) (.pt (oTr m1 v1 m2 v2 y)) = some (.pt (oTr m1 v1 m2 v2 y), [], []) := rfl
    rw [hl]
    simp only [List.map_nil, List.append_nil, lendTs, a1, x1]
  · have a1 : renIT hs (.pt (oTr 2001 v1 2002 v2 y)) = some (.pt (oTr m1 v1 m2 v2 y)) := by simp only [renIT, renIs, renI, I1, I2, Option.map_some]
    simp only [renITs, a1, x2]
  · have B1 : ∀ v wr st ty es, renIB hs (.arr v wr st ty es) = some (.arr v wr st ty es) := fun _ _ _ _ _ => rfl
    have B2 : ∀ v wr st ty es, renIB hs (.tree v wr st ty es none) = some (.tree v wr st ty es none) := fun _ _ _ _ _ => rfl
    have key : handsIn (updH H []) hs (mkTH m1 m2 v1 v2 y y') := by
      simp only [handsIn, B1, B2, updH, h1, h2, and_self]
    rw [hhs] at key
    exact key
  · have key : renOBs hs (c + k) (mkTH m1 m2 v1 v2 y y') = some [(m1, .arr v1 true 1 9 (encS y'.n)), (m2, .tree v2 true 5 33 (encTs y'.k) none)] := by
      simp only [renOBs, renOB, verOf, if_true, Blk.ver]
    rw [hhs] at key
    exact key
  · have hq : quiet r hs = false := by rw [← hhs]; simp [quiet]
    have hms : hs.map (·.m) = [m1, m2] := by rw [← hhs]; rfl
    rw [hq, hms]
    simpa [updH] using hk
end Go.V
set_option linter.unusedSimpArgs false
namespace Go.V
open Go.Proofs
theorem sclK (k : Kd) : ((encK k).map C.v).all scalarC = false := by rw [encK_eta]; rfl
theorem sclT (k : Tr) : ((encT k).map C.v).all scalarC = false := by rw [encT_eta]; rfl
attribute [go_sem] sclK sclT
theorem lendKdC {H : HMap} {ma1 ma2 va1 va2 na1 na2 : Nat} {wa1 wa2 : Bool} {y : Kd} (ha1 : H ma1 = some (.arr va1 wa1 1 9 (encS y.n))) (ha2 : H ma2 = some (.tree va2 wa2 3 38 (encKs y.k) none)) (ea1 : na1 = y.n.length) (ea2 : na2 = y.k.length) :
    lendTs H [tK y, tK y] [.pt (.agg [.v (.s (.int .i64 y.s)), .own ma1 va1 na1, .tr ma2 va2 na2]), tK y] = some ([tK y, tK y], kdL ma1 va1 ma2 va2 y, [ma1, ma2]) := by
  have hc := (closed_A [] H (tK y) (clKd y)).1
  simp only [lendTs, lendKd ha1 ha2 ea1 ea2, hc, List.append_nil]
theorem lendKd2 {H : HMap} {ma1 ma2 va1 va2 na1 na2 : Nat} {wa1 wa2 : Bool} {mb1 mb2 vb1 vb2 nb1 nb2 : Nat} {wb1 wb2 : Bool} {y : Kd} (ha1 : H ma1 = some (.arr va1 wa1 1 9 (encS y.n))) (ha2 : H ma2 = some (.tree va2 wa2 3 38 (encKs y.k) none)) (ea1 : na1 = y.n.length) (ea2 : na2 = y.k.length) (hb1 : H mb1 = some (.arr vb1 wb1 1 9 (encS y.n))) (hb2 : H mb2 = some (.tree vb2 wb2 3 38 (encKs y.k) none)) (eb1 : nb1 = y.n.length) (eb2 : nb2 = y.k.length) :
    lendTs H [tK y, tK y] [.pt (.agg [.v (.s (.int .i64 y.s)), .own ma1 va1 na1, .tr ma2 va2 na2]), .pt (.agg [.v (.s (.int .i64 y.s)), .own mb1 vb1 nb1, .tr mb2 vb2 nb2])] = some ([tK y, tK y], kdL ma1 va1 ma2 va2 y ++ kdL mb1 vb1 mb2 vb2 y, [ma1, ma2, mb1, mb2]) := by
  simp only [lendTs, lendKd ha1 ha2 ea1 ea2, lendKd hb1 hb2 eb1 eb2, List.append_nil, List.cons_append, List.nil_append]
/-- A marked one, lent beside a number. -/
theorem lendKdT {H : HMap} {m1 m2 v1 v2 : Nat} {w1 w2 : Bool} {k : Nat} {z : Int} {y : Kd} (h1 : H m1 = some (.arr v1 w1 1 9 (encS (topK k y).n))) (h2 : H m2 = some (.tree v2 w2 3 38 (encKs (topK k y).k) none)) :
    lendTs H [tK (topK k y), .i z] [.pt (.agg [.v (.s (.int .i64 y.s)), .own m1 v1 y.n.length, .tr m2 v2 y.k.length]), .i z] = some ([tK (topK k y), .i z], kdL m1 v1 m2 v2 (topK k y), [m1, m2]) := by
  have hc := (closed_A [] H (.i z) rfl).1
  have h3 := lendKd h1 h2 (n1 := y.n.length) (n2 := y.k.length) (by rw [topK_n, marks_len]) (by rw [topK_k, mkKs_len])
  have e : (topK k y).s = y.s := by cases y; rfl
  rw [e] at h3
  simp only [lendTs, h3, hc, List.append_nil]
theorem lendTrC {H : HMap} {ma1 ma2 va1 va2 na1 na2 : Nat} {wa1 wa2 : Bool} {y : Tr} (ha1 : H ma1 = some (.arr va1 wa1 1 9 (encS y.n))) (ha2 : H ma2 = some (.tree va2 wa2 5 33 (encTs y.k) none)) (ea1 : na1 = y.n.length) (ea2 : na2 = y.k.length) :
    lendTs H [tT y, tT y] [.pt (.agg [.v (.s (.int .i64 y.s)), .v (.s (.int .i64 y.m)), .v (.s (.string y.x)), .own ma1 va1 na1, .tr ma2 va2 na2]), tT y] = some ([tT y, tT y], trL ma1 va1 ma2 va2 y, [ma1, ma2]) := by
  have hc := (closed_A [] H (tT y) (clTr y)).1
  simp only [lendTs, lendTr ha1 ha2 ea1 ea2, hc, List.append_nil]
theorem lendTr2 {H : HMap} {ma1 ma2 va1 va2 na1 na2 : Nat} {wa1 wa2 : Bool} {mb1 mb2 vb1 vb2 nb1 nb2 : Nat} {wb1 wb2 : Bool} {y : Tr} (ha1 : H ma1 = some (.arr va1 wa1 1 9 (encS y.n))) (ha2 : H ma2 = some (.tree va2 wa2 5 33 (encTs y.k) none)) (ea1 : na1 = y.n.length) (ea2 : na2 = y.k.length) (hb1 : H mb1 = some (.arr vb1 wb1 1 9 (encS y.n))) (hb2 : H mb2 = some (.tree vb2 wb2 5 33 (encTs y.k) none)) (eb1 : nb1 = y.n.length) (eb2 : nb2 = y.k.length) :
    lendTs H [tT y, tT y] [.pt (.agg [.v (.s (.int .i64 y.s)), .v (.s (.int .i64 y.m)), .v (.s (.string y.x)), .own ma1 va1 na1, .tr ma2 va2 na2]), .pt (.agg [.v (.s (.int .i64 y.s)), .v (.s (.int .i64 y.m)), .v (.s (.string y.x)), .own mb1 vb1 nb1, .tr mb2 vb2 nb2])] = some ([tT y, tT y], trL ma1 va1 ma2 va2 y ++ trL mb1 vb1 mb2 vb2 y, [ma1, ma2, mb1, mb2]) := by
  simp only [lendTs, lendTr ha1 ha2 ea1 ea2, lendTr hb1 hb2 eb1 eb2, List.append_nil, List.cons_append, List.nil_append]
/-- A marked one, lent beside a number. -/
theorem lendTrT {H : HMap} {m1 m2 v1 v2 : Nat} {w1 w2 : Bool} {k : Nat} {z : Int} {y : Tr} (h1 : H m1 = some (.arr v1 w1 1 9 (encS (topT k y).n))) (h2 : H m2 = some (.tree v2 w2 5 33 (encTs (topT k y).k) none)) :
    lendTs H [tT (topT k y), .i z] [.pt (.agg [.v (.s (.int .i64 y.s)), .v (.s (.int .i64 y.m)), .v (.s (.string y.x)), .own m1 v1 y.n.length, .tr m2 v2 y.k.length]), .i z] = some ([tT (topT k y), .i z], trL m1 v1 m2 v2 (topT k y), [m1, m2]) := by
  have hc := (closed_A [] H (.i z) rfl).1
  have h3 := lendTr h1 h2 (n1 := y.n.length) (n2 := y.k.length) (by rw [topT_n, marks_len]) (by rw [topT_k, mkTs_len])
  have e : (topT k y).s = y.s := by cases y; rfl
  have e' : (topT k y).m = y.m := by cases y; rfl
  have e'' : (topT k y).x = y.x := by cases y; rfl
  rw [e, e', e''] at h3
  simp only [lendTs, h3, hc, List.append_nil]
theorem lendAll3_KKT {H : HMap} {ma1 ma2 va1 va2 na1 na2 : Nat} {wa1 wa2 : Bool} {ya : Kd} (ha1 : H ma1 = some (.arr va1 wa1 1 9 (encS ya.n))) (ha2 : H ma2 = some (.tree va2 wa2 3 38 (encKs ya.k) none)) (ea1 : na1 = ya.n.length) (ea2 : na2 = ya.k.length) {mb1 mb2 vb1 vb2 nb1 nb2 : Nat} {wb1 wb2 : Bool} {yb : Kd} (hb1 : H mb1 = some (.arr vb1 wb1 1 9 (encS yb.n))) (hb2 : H mb2 = some (.tree vb2 wb2 3 38 (encKs yb.k) none)) (eb1 : nb1 = yb.n.length) (eb2 : nb2 = yb.k.length) {mc1 mc2 vc1 vc2 nc1 nc2 : Nat} {wc1 wc2 : Bool} {yc : Tr} (hc1 : H mc1 = some (.arr vc1 wc1 1 9 (encS yc.n))) (hc2 : H mc2 = some (.tree vc2 wc2 5 33 (encTs yc.k) none)) (ec1 : nc1 = yc.n.length) (ec2 : nc2 = yc.k.length) :
    lendTs H [tK ya, tK yb, tT yc] [.pt (.agg [.v (.s (.int .i64 ya.s)), .own ma1 va1 na1, .tr ma2 va2 na2]), .pt (.agg [.v (.s (.int .i64 yb.s)), .own mb1 vb1 nb1, .tr mb2 vb2 nb2]), .pt (.agg [.v (.s (.int .i64 yc.s)), .v (.s (.int .i64 yc.m)), .v (.s (.string yc.x)), .own mc1 vc1 nc1, .tr mc2 vc2 nc2])] = some ([tK ya, tK yb, tT yc], kdL ma1 va1 ma2 va2 ya ++ kdL mb1 vb1 mb2 vb2 yb ++ trL mc1 vc1 mc2 vc2 yc, [ma1, ma2, mb1, mb2, mc1, mc2]) := by
  simp only [lendTs, lendKd ha1 ha2 ea1 ea2, lendKd hb1 hb2 eb1 eb2, lendTr hc1 hc2 ec1 ec2, List.append_nil, List.cons_append, List.nil_append, List.append_assoc]
theorem lendAll2_KK {H : HMap} {ma1 ma2 va1 va2 na1 na2 : Nat} {wa1 wa2 : Bool} {ya : Kd} (ha1 : H ma1 = some (.arr va1 wa1 1 9 (encS ya.n))) (ha2 : H ma2 = some (.tree va2 wa2 3 38 (encKs ya.k) none)) (ea1 : na1 = ya.n.length) (ea2 : na2 = ya.k.length) {mb1 mb2 vb1 vb2 nb1 nb2 : Nat} {wb1 wb2 : Bool} {yb : Kd} (hb1 : H mb1 = some (.arr vb1 wb1 1 9 (encS yb.n))) (hb2 : H mb2 = some (.tree vb2 wb2 3 38 (encKs yb.k) none)) (eb1 : nb1 = yb.n.length) (eb2 : nb2 = yb.k.length) :
    lendTs H [tK ya, tK yb] [.pt (.agg [.v (.s (.int .i64 ya.s)), .own ma1 va1 na1, .tr ma2 va2 na2]), .pt (.agg [.v (.s (.int .i64 yb.s)), .own mb1 vb1 nb1, .tr mb2 vb2 nb2])] = some ([tK ya, tK yb], kdL ma1 va1 ma2 va2 ya ++ kdL mb1 vb1 mb2 vb2 yb, [ma1, ma2, mb1, mb2]) := by
  simp only [lendTs, lendKd ha1 ha2 ea1 ea2, lendKd hb1 hb2 eb1 eb2, List.append_nil, List.cons_append, List.nil_append, List.append_assoc]
end Go.V

/- The program's StoreOpen returns what the reference's returns, for every disk: no condition but the ones of the given statement. -/
import Derived.Test.YtmcekakcogcckaaGreatDoorMX3
import Derived.Test.YtmcekakcogcckaaGreatDoorMK1
set_option linter.unusedVariables false
set_option linter.unusedSimpArgs false
namespace Go.V
open Go.Proofs Go.RowKit
/-! Contracts of the kit, told over abstract values. -/
theorem lift_vs {w : World} {imm : Imm} {H : HMap} {L : Locs} {U : Nat → Prop} : ∀ {args vs : List Value}, TsRep w imm H L U vs (args.map T.s) → vs = args
  | [], vs, h => by have := h.1; simpa using this
  | a :: l, [], h => by have := h.1; simp at this
  | a :: l, v :: vs, h => by
    have h0 : v = a := rep_s (h.2 0 v (T.s a) rfl rfl)
    have h1 := lift_vs (args := l) (vs := vs) ⟨by have := h.1; simpa using this, fun k x y hx hy => h.2 (k + 1) x y (by simpa using hx) (by simpa using hy)⟩
    rw [h0, h1]
theorem keep_below {w w' : World} {imm : Imm} (hb : Below w.heap.size w w') (hi : ∀ b o, imm b o → b < w.heap.size) : ∀ b o, imm b o → imm b o ∧ w'.cell? ⟨b, o, none⟩ = w.cell? ⟨b, o, none⟩ := fun b o h =>
  ⟨h, by simp only [World.cell?, hb.block b (hi b o h)]⟩
theorem lift0 {P : Program} {f : FuncId} {args : List Value} {r : T} {x : Value} (hfn : isFn P f = true) (hr : closedT r = true) (hx : ∀ w imm H L U, TRep w imm H L U x r)
    (h : ∀ w imm, Glob w imm → Calls P f args.toArray w fun e w' => e = .returned x ∧ Below w.heap.size w w') : ACallsF P f (args.map T.s) [] r := by
  refine ⟨hfn, fun w imm L c vs hH hT => ?_⟩
  rw [lift_vs hT]
  refine (h w imm hH.glob).mono ?_
  rintro e w' ⟨rfl, hb⟩
  have hk := keep_below hb hH.imm
  exact ⟨x, r, fun _ => none, imm, L, c, rfl, ⟨fun v => v, (closedT_ver _ hr).symm, fun n q hn => by simp [renN] at hn⟩, hx _ _ _ _ _,
    ⟨fun n B hB => (by cases hB), fun n m g hn => absurd rfl hn, fun n g hn => absurd rfl hn, hH.glob.keep hk, fun b o h => Nat.lt_of_lt_of_le (hH.imm b o h) hb.size⟩,
    ⟨hb.os, hb.tape, hb.output, hb.size, fun b hlt _ => hb.block b hlt, hk, fun b o h => .inl h⟩, fun n g hn => absurd rfl hn,
    ⟨fun _ h => h, fun n ver ty cs _ hB => (by cases hB), fun n ver wr st ty es _ hB => (by cases hB), fun n ver wr st ty es g cur _ hB => (by cases hB), fun n ver wr st ty es op _ hB => (by cases hB), fun n ver wr st ty es op g cur _ hB => (by cases hB)⟩⟩
theorem rep_str (s : ByteArray) : ∀ w imm H L U, TRep w imm H L U (.string s) (tS s) := fun _ _ _ _ _ => .s _ rfl
theorem tab_of {w : World} {imm : Imm} (h : Glob w imm) : Lib.TabIs Tryz.prog w "internal/strconv.uint64pow10" .u64 Lib.pow10Tab := by
  have h0 := h (0, _) (List.mem_cons_self)
  have hg : Tryz.prog.globalNamed "internal/strconv.uint64pow10" = some 0 := by kernel_rfl
  unfold Lib.TabIs World.var?
  rw [hg, Option.bind_some]
  have hl : ((List.range 20).map fun i => Value.int .u64 ((10 ^ i : Nat) : Int)) = Lib.pow10Tab.map fun z => Value.int .u64 z := by simp [Lib.pow10Tab, Function.comp_def]
  have hc : ∀ o, w.cell? ⟨0, o, none⟩ = (Lib.pow10Tab.map fun z => Value.int .u64 z)[o]? := fun o => (h0 o).2.trans (by rw [hl])
  unfold World.cell? at hc
  cases hb : w.heap[0]? with
  | none => have := hc 0; simp [hb, Lib.pow10Tab] at this
  | some b =>
    cases b with
    | cells cs e fr =>
      simp only [Option.some.injEq]
      apply Array.ext_getElem?
      intro i
      have := hc i
      simp only [hb] at this
      rw [List.getElem?_toArray]
      simpa using this
    | _ => have := hc 0; simp [hb, Lib.pow10Tab] at this
theorem iface1 {w : World} {imm : Imm} (h : Glob w imm) : ∃ a b, w.cell? ⟨1, 0, none⟩ = some (.iface a b) := (h (1, _) (List.mem_cons_of_mem _ List.mem_cons_self) 0).2 rfl
theorem iface2 {w : World} {imm : Imm} (h : Glob w imm) : ∃ a b, w.cell? ⟨2, 0, none⟩ = some (.iface a b) := (h (2, _) (List.mem_cons_of_mem _ (List.mem_cons_of_mem _ List.mem_cons_self)) 0).2 rfl
theorem int3 {w : World} {imm : Imm} (h : Glob w imm) : ∃ m, w.cell? ⟨3, 0, none⟩ = some (.int .i64 m) := (h (3, _) (List.mem_cons_of_mem _ (List.mem_cons_of_mem _ (List.mem_cons_of_mem _ List.mem_cons_self))) 0).2 rfl
theorem itoa_ok (n : Int) (h : -9223372036854775808 ≤ n ∧ n ≤ 9223372036854775807) : ACallsF Tryz.prog 99 [.i n] [] (tS (dc n)) :=
  lift0 (args := [.int .i64 n]) (x := .string (dc n)) (by kernel_rfl) rfl (rep_str _) fun w imm hg => (Any.strconv_Itoa laysItoa n h.1 h.2 w (tab_of hg)).mono fun e w' ⟨h1, k, os, h2⟩ => ⟨h1, by
    subst h2
    refine ⟨rfl, rfl, rfl, by simp [Go.Sort.grow, World.drewN], fun j hj => ?_⟩
    show (w.heap ++ os)[j]? = _
    rw [Array.getElem?_append_left hj]⟩
theorem readNum_ok (s : ByteArray) (hs : s.size ≤ 281474976710656) : ACallsF Tryz.prog 113 [tS s] [] (.tup [.one (.v (.s (.int .i64 (rnN s)))), .one (.v (.s (.bool (rnB s))))]) :=
  lift0 (args := [.string s]) (x := .tuple #[.int .i64 (rnN s), .bool (rnB s)]) (by kernel_rfl) rfl (fun w imm H L U => ⟨[_, _], rfl, rfl, fun k u y hu hy => by
      rcases k with _ | _ | k
      · simp at hu hy; subst hu hy; exact .s _ rfl
      · simp at hu hy; subst hu hy; exact .s _ rfl
      · simp at hu⟩) fun w imm hg => by
    exact readNum_kit s hs w (tab_of hg) (iface1 hg) (iface2 hg)
end Go.V
set_option linter.unusedSimpArgs false
set_option maxRecDepth 20000
namespace Go.V
open Go.Proofs Go.RowKit
def joinB (s : ByteArray) : List Int → ByteArray
  | [] => s
  | n :: ns => joinB (s ++ (⟨#[32]⟩ ++ dc n)) ns
theorem dc_le (n : Int) (h : -9223372036854775808 ≤ n ∧ n ≤ 9223372036854775807) : (dc n).size ≤ 20 := by
  rw [dc, ofL_size, Lib.itoa]
  split
  · have := dd_len 18 n.natAbs (by omega)
    rw [List.length_cons]; omega
  · have := dd_len 18 n.toNat (by omega)
    omega
def ok146 := okF.gu (P := Tryz.prog) tab Tryz.func146 Tryz.ntmps146 (by conv => lhs; cbv) (by kernel_rfl)
def inv146 (s : ByteArray) (ns : List Int) (i : Nat) (σ : St) : Prop := ∃ c : ByteArray, joinB s ns = joinB c (ns.drop i) ∧ c.size ≤ s.size + 21 * i ∧ σ.t 0 = tS c ∧ σ.t 7 = tL (en eI ns) ∧ σ.t 8 = .i ns.length ∧ σ.t 9 = .i i
theorem joined_ok (s : ByteArray) (ns : List Int) (hn : ∀ n ∈ ns, -9223372036854775808 ≤ n ∧ n ≤ 9223372036854775807) (hs : s.size ≤ 1000000) (hl : ns.length ≤ 1000000) : ACallsF Tryz.prog 146 [tS s, tL (en eI ns)] [] (tS (joinB s ns)) := by
  refine ACallsF.intro ok146 follows fun X c0 => ?_
  simp only [go_sem]
  refine AW.upto ns.length (inv146 s ns) ⟨s, rfl, Nat.le_refl _, rfl, rfl, rfl, rfl⟩ fun i t H c hi h => ?_
  obtain ⟨cur, hj, hz, e0, e7, e8, e9⟩ := h
  simp only [T.c, T.i, T.s, tL] at e0 e7 e8 e9
  by_cases hlt : i < ns.length
  · obtain ⟨n, hn1⟩ : ∃ n, ns[i]? = some n := ⟨_, List.getElem?_eq_getElem hlt⟩
    have en1 := en_at eI hn1
    have hn2 := hn n (List.mem_of_getElem? hn1)
    have k1 : (i : Int) < ns.length := by omega
    have gz : (0 : Int) ≤ i := by omega
    have gw : IntKind.i64.wrap ((i : Int) + 1) = ((i + 1 : Nat) : Int) := wrap64 (x := (i : Int) + 1) ⟨by omega, by omega⟩
    have hd := dc_le n hn2
    have h1 : (⟨#[32]⟩ : ByteArray).size = 1 := rfl
    have f1 : fits ⟨#[32]⟩ (dc n) := by rw [fits, h1]; omega
    have f2 : fits cur (⟨#[32]⟩ ++ dc n) := by rw [fits, ByteArray.size_append, h1]; omega
    simp only [go_sem, e0, e7, e8, e9, k1, gz, en1, eI]
    refine callC (itoa_ok n hn2) rfl rfl rfl rfl ?_
    simp only [go_sem, e0, e7, e8, e9, sStr, f1, f2, gw]
    refine ⟨hlt, _, ?_, ?_, rfl, e7, e8, rfl⟩
    · rw [hj, drop_at hn1, joinB]
    · rw [ByteArray.size_append, ByteArray.size_append, h1]; omega
  · have hi2 : i = ns.length := by omega
    subst hi2
    have k1 : ¬ (ns.length : Int) < ns.length := by omega
    rw [List.drop_length, joinB] at hj
    rw [hj]
    simp only [go_sem, e0, e7, e8, e9, k1]
/-- A contract at a world that is known. -/
theorem ACallsF.kit {P : Program} {f : FuncId} {args : List T} {r : T} {W : World} {imm : Imm} {vs : List Value} (hC : ACallsF P f args [] r) (hr : closedT r = true) (hg : Glob W imm) (hi : ∀ b o, imm b o → b < W.heap.size) (ht : TsRep W imm (fun _ => none) ⟨fun _ => none, fun _ _ => False⟩ (· < 0) vs args) :
    Calls P f vs.toArray W fun e W' => ∃ x imm', e = .returned x ∧ TRep W' imm' (fun _ => none) ⟨fun _ => none, fun _ _ => False⟩ (fun _ => False) x r ∧ Below W.heap.size W W' := by
  have hin : hinOf [] = fun _ => none := rfl
  refine (hC.2 W imm ⟨fun _ => none, fun _ _ => False⟩ 0 vs ⟨fun n B hB => (by cases hB), fun n m g hn => absurd rfl hn, fun n g hn => absurd rfl hn, hg, hi⟩ ht).mono ?_
  rintro e W' ⟨x, r', h', imm', L', c', rfl, ⟨ν, hr', _⟩, hx, hok, hst, _, _⟩
  rw [hr', closedT_ver ν hr] at hx
  refine ⟨x, imm', rfl, closedT_rep (fun _ _ h => ⟨h, rfl⟩) hr hx, hst.os, hst.tape, hst.output, hst.size, fun k hk => hst.frame k hk ?_⟩
  rintro ⟨n, hn, _⟩
  exact hn rfl
/-- .. of a row of numbers in a block of its own. -/
theorem joined_kit (s : ByteArray) (ns : List Int) (hn : ∀ n ∈ ns, -9223372036854775808 ≤ n ∧ n ≤ 9223372036854775807) (hs : s.size ≤ 1000000) (hl : ns.length ≤ 1000000) (h0 : ns ≠ []) (W : World) (g : Nat) (hg : W.heap[g]? = some (.cells (ns.map fun n => Value.int .i64 n).toArray 3 (0, 0))) (imm : Imm) (hG : Glob W imm) (hi : ∀ b o, imm b o → b < W.heap.size) :
    Calls Tryz.prog 146 #[.string s, .slice (some ⟨g, 0, none⟩) ns.length ns.length] W fun e W' => e = .returned (.string (joinB s ns)) ∧ Below W.heap.size W W' := by
  have hlt : g < W.heap.size := (Array.getElem?_eq_some_iff.1 hg).1
  refine (ACallsF.kit (vs := [.string s, .slice (some ⟨g, 0, none⟩) ns.length ns.length]) (imm := fun b o => imm b o ∨ b = g) (joined_ok s ns hn hs hl) rfl (hG.keep fun b o h => ⟨.inl h, rfl⟩) (fun b o h => by rcases h with h | rfl; exact hi b o h; exact hlt) ⟨rfl, fun k x y hx hy => ?_⟩).mono ?_
  · rcases k with _ | _ | k
    · simp at hx hy; subst hx hy; exact .s _ rfl
    · simp at hx hy
      subst hx hy
      have hlen : ns.length = (en eI ns).length := (en_len eI ns).symm
      show VRep W _ (.slice (some ⟨g, 0, none⟩) ns.length ns.length) (.sl (en eI ns))
      rw [hlen]
      refine .sl (en eI ns) 1 g 0 _ (fun i _ => (ns[i]?).elim (.bool false) fun n => .int .i64 n) Nat.one_pos (by simp [en, h0]) (Nat.le_refl _) (fun e he => (by
          simp only [en, List.mem_map] at he; obtain ⟨n, _, rfl⟩ := he; rfl)) (fun i j x hx => ?_) fun i j x hx => ?_
      all_goals
        unfold at2 at hx
        cases hni : ns[i]? with
        | none => rw [show (en eI ns)[i]? = none from by simp [en, hni]] at hx; simp at hx
        | some n =>
          rw [en_at eI hni] at hx
          cases j with
          | succ j => simp [eI] at hx
          | zero =>
            simp [eI] at hx
            subst hx
            first
              | exact .s _ rfl
              | exact ⟨by simp [World.cell?, hg, hni], .inr rfl⟩
    · simp at hx
  · rintro e W' ⟨x, imm', rfl, hx, hb⟩
    have hx' : x = .string (joinB s ns) := rep_s hx
    exact ⟨by rw [hx'], hb⟩
end Go.V
set_option linter.unusedSimpArgs false
namespace Go.V
open Go.Proofs Go.RowKit
/-! The text of a plan. -/
def wSeal : ByteArray := ⟨#[115, 101, 97, 108]⟩
def wOpen : ByteArray := ⟨#[111, 112, 101, 110]⟩
def lineB (x : LP) : ByteArray := joinB wSeal [x.num, x.first, x.next, x.size] ++ ⟨#[10]⟩
def endB (p : Pl) : ByteArray := joinB wOpen [p.opn, p.first] ++ ⟨#[10, 101, 110, 100, 10]⟩
def linesL (xs : List LP) : List UInt8 := xs.flatMap fun x => (lineB x).data.toList
/-- The text of a plan. -/
def planT (p : Pl) : ByteArray := ofL (linesL p.parts ++ (endB p).data.toList)
def kOf (x : LP) : KP := ⟨x.num, x.first, x.next, x.size⟩
theorem kText_of (xs : List LP) : kText joinB (xs.map kOf) = linesL xs := by
  induction xs with
  | nil => rfl
  | cons x xs ih => rw [List.map_cons, kText, ih]; rfl
def i64 (n : Int) : Prop := -9223372036854775808 ≤ n ∧ n ≤ 9223372036854775807
structure okPl (p : Pl) : Prop where
  len : p.parts.length ≤ 100000
  part : ∀ x ∈ p.parts, i64 x.num ∧ i64 x.first ∧ i64 x.next ∧ i64 x.size
  opn : i64 p.opn
  first : i64 p.first
theorem joinB_le : ∀ (ns : List Int) (s : ByteArray), (∀ n ∈ ns, i64 n) → (joinB s ns).size ≤ s.size + 21 * ns.length
  | [], s, _ => Nat.le_refl _
  | n :: ns, s, h => by
    have h1 := dc_le n (h n List.mem_cons_self)
    have h2 := joinB_le ns (s ++ (⟨#[32]⟩ ++ dc n)) fun m hm => h m (List.mem_cons_of_mem _ hm)
    have h3 : (⟨#[32]⟩ : ByteArray).size = 1 := rfl
    rw [ByteArray.size_append, ByteArray.size_append, h3] at h2
    rw [joinB, List.length_cons]; omega
/-- joinB where it is short. -/
def jB (s : ByteArray) (ns : List Int) : ByteArray := if (joinB s ns).size ≤ 1000 then joinB s ns else ⟨#[]⟩
theorem jB_le (s : ByteArray) (ns : List Int) : (jB s ns).size ≤ 1000 := by
  unfold jB
  split
  · assumption
  · exact Nat.zero_le _
theorem jB_eq {s : ByteArray} {ns : List Int} (h : ∀ n ∈ ns, i64 n) (hs : s.size ≤ 10) (hl : ns.length ≤ 10) : jB s ns = joinB s ns := if_pos (by have := joinB_le ns s h; omega)
theorem i64_4 {a b c d : Int} (h : i64 a ∧ i64 b ∧ i64 c ∧ i64 d) : ∀ n ∈ [a, b, c, d], i64 n := by
  intro n hn
  simp only [List.mem_cons, List.not_mem_nil, or_false] at hn
  rcases hn with rfl | rfl | rfl | rfl
  · exact h.1
  · exact h.2.1
  · exact h.2.2.1
  · exact h.2.2.2
theorem i64_2 {a b : Int} (h : i64 a ∧ i64 b) : ∀ n ∈ [a, b], i64 n := by
  intro n hn
  simp only [List.mem_cons, List.not_mem_nil, or_false] at hn
  rcases hn with rfl | rfl
  · exact h.1
  · exact h.2
theorem kText_jB {xs : List LP} (h : ∀ x ∈ xs, i64 x.num ∧ i64 x.first ∧ i64 x.next ∧ i64 x.size) : kText jB (xs.map kOf) = linesL xs := by
  rw [← kText_of]
  induction xs with
  | nil => rfl
  | cons x xs ih =>
    rw [List.map_cons, kText, kText, ih fun y hy => h y (List.mem_cons_of_mem _ hy)]
    have : kLine jB (kOf x) = kLine joinB (kOf x) := by
      have e := jB_eq (s := wSeal) (i64_4 (h x List.mem_cons_self)) (Nat.le_of_ble_eq_true rfl) (by simp)
      exact congrArg (· ++ (⟨#[10]⟩ : ByteArray)) e
    rw [this]
theorem planText_ok (p : Pl) (hp : okPl p) : ACallsF Tryz.prog 129 [tPl p] [] (tS (planT p)) := by
  have hJ4 := fun x hx => i64_4 (hp.part x hx)
  have hJ2 := i64_2 ⟨hp.opn, hp.first⟩
  refine ⟨by kernel_rfl, fun w imm L c vs hH hT => ?_⟩
  obtain ⟨v, rfl⟩ : ∃ v, vs = [v] := by
    have := hT.1
    match vs, this with
    | [v], _ => exact ⟨v, rfl⟩
  have hv : PRep w imm _ L _ v (.agg (cPl p)) := hT.2 0 v _ rfl rfl
  obtain ⟨us, rfl, hul, hu⟩ := hv
  obtain ⟨u0, u1, u2, rfl⟩ : ∃ u0 u1 u2, us = [u0, u1, u2] := by
    match us, hul with
    | [u0, u1, u2], _ => exact ⟨u0, u1, u2, rfl⟩
  have h1 : u1 = .int .i64 p.opn := rep_s (H := hinOf []) (L := L) (U := (· < c)) (hu 1 u1 _ rfl rfl)
  have h2 : u2 = .int .i64 p.first := rep_s (H := hinOf []) (L := L) (U := (· < c)) (hu 2 u2 _ rfl rfl)
  have h0 : VRep w imm u0 (.sl (en eP p.parts)) := hu 0 u0 _ rfl rfl
  subst h1 h2
  obtain ⟨ad, cap, rfl, hcell⟩ : ∃ ad cap, u0 = .slice ad (p.parts.map kOf).length cap ∧ ∀ k x, (p.parts.map kOf)[k]? = some x → ∃ b off, ad = some ⟨b, off, none⟩ ∧ b < w.heap.size ∧ w.cell? ⟨b, off + k * 4, none⟩ = some (.int .i64 x.a) ∧ w.cell? ⟨b, off + k * 4 + 1, none⟩ = some (.int .i64 x.b) ∧ w.cell? ⟨b, off + k * 4 + 2, none⟩ = some (.int .i64 x.c) ∧ w.cell? ⟨b, off + k * 4 + 3, none⟩ = some (.int .i64 x.d) := by
    generalize hes : en eP p.parts = es at h0
    have hlen : es.length = (p.parts.map kOf).length := by rw [← hes, en_len, List.length_map]
    cases h0 with
    | nil a cap =>
      have : (p.parts.map kOf) = [] := List.length_eq_zero_iff.1 (by rw [← hlen]; rfl)
      rw [this]
      exact ⟨a, cap, rfl, fun k x hx => by simp at hx⟩
    | sl _ st b o cap vals hst hne hcap hl hc hr =>
      rw [hlen]
      refine ⟨_, cap, rfl, fun k x hx => ⟨b, o, rfl, ?_⟩⟩
      rw [List.getElem?_map, Option.map_eq_some_iff] at hx
      obtain ⟨y, hy, rfl⟩ := hx
      have hek : es[k]? = some (eP y) := by rw [← hes]; exact en_at eP hy
      have hst4 : st = 4 := by rw [← hl _ (List.mem_of_getElem? hek)]; rfl
      subst hst4
      have hat : ∀ j z, (eP y)[j]? = some z → at2 es k j = some z := fun j z hz => by simp [at2, hek, hz]
      have key : ∀ (j : Nat) (z : Int), (eP y)[j]? = some (.s (.int .i64 z)) → w.cell? ⟨b, o + k * 4 + j, none⟩ = some (.int .i64 z) ∧ b < w.heap.size := fun j z hz => by
        obtain ⟨g1, g2⟩ := hc k j _ (hat j _ hz)
        have g3 := hr k j _ (hat j _ hz)
        generalize vals k j = q at g1 g3
        cases g3 with
        | s _ _ => exact ⟨g1, hH.imm b _ g2⟩
      exact ⟨(key 0 _ rfl).2, (key 0 _ rfl).1, (key 1 _ rfl).1, (key 2 _ rfl).1, (key 3 _ rfl).1⟩
  have hkit := planText_kit jB (p.parts.map kOf) p.opn p.first ad cap w (by rw [List.length_map]; exact hp.len) jB_le hcell
    (fun x hx W g hb hg => by
      obtain ⟨y, hy, rfl⟩ := List.mem_map.1 hx
      have e := jB_eq (s := wSeal) (hJ4 y hy) (Nat.le_of_ble_eq_true rfl) (by simp)
      have hk := joined_kit wSeal [y.num, y.first, y.next, y.size] (hJ4 y hy) (Nat.le_of_ble_eq_true rfl) (by simp) (by simp) W g hg imm (hH.glob.keep (keep_below hb hH.imm)) (fun b o h => Nat.lt_of_lt_of_le (hH.imm b o h) hb.size)
      rw [← e] at hk
      exact hk)
    (fun W g hb hg => by
      have e := jB_eq (s := wOpen) hJ2 (Nat.le_of_ble_eq_true rfl) (by simp)
      have hk := joined_kit wOpen [p.opn, p.first] hJ2 (Nat.le_of_ble_eq_true rfl) (by simp) (by simp) W g hg imm (hH.glob.keep (keep_below hb hH.imm)) (fun b o h => Nat.lt_of_lt_of_le (hH.imm b o h) hb.size)
      rw [← e] at hk
      exact hk)
  have e2 : jB ⟨#[111, 112, 101, 110]⟩ [p.opn, p.first] = joinB wOpen [p.opn, p.first] := jB_eq hJ2 (Nat.le_of_ble_eq_true rfl) (by simp)
  rw [kText_jB hp.part, kEnd, e2] at hkit
  refine hkit.mono ?_
  rintro e w' ⟨rfl, hb⟩
  have hk := keep_below hb hH.imm
  exact ⟨_, tS (planT p), fun _ => none, imm, L, c, rfl, ⟨fun v => v, rfl, fun n q hn => by simp [renN] at hn⟩, .s _ rfl,
    ⟨fun n B hB => (by cases hB), fun n m g hn => absurd rfl hn, fun n g hn => absurd rfl hn, hH.glob.keep hk, fun b o h => Nat.lt_of_lt_of_le (hH.imm b o h) hb.size⟩,
    ⟨hb.os, hb.tape, hb.output, hb.size, fun b hlt _ => hb.block b hlt, hk, fun b o h => .inl h⟩, fun n g hn => absurd rfl hn,
    ⟨fun _ h => h, fun n ver ty cs _ hB => (by cases hB), fun n ver wr st ty es _ hB => (by cases hB), fun n ver wr st ty es g cur _ hB => (by cases hB), fun n ver wr st ty es op _ hB => (by cases hB), fun n ver wr st ty es op g cur _ hB => (by cases hB)⟩⟩
end Go.V
set_option linter.unusedSimpArgs false
set_option maxRecDepth 20000
namespace Go.V
open Go.Proofs
theorem ba_assoc (a b c : ByteArray) : a ++ b ++ c = a ++ (b ++ c) := by
  apply ByteArray.ext
  simp [Array.append_assoc]
/-- What an ok plan's parts are. -/
structure LPok (x : LP) : Prop where
  num : 1 ≤ x.num ∧ x.num ≤ 999999
  first : 1 ≤ x.first ∧ x.first ≤ 1000000
  next : x.first ≤ x.next ∧ x.next ≤ 1000000
  size : 0 ≤ x.size ∧ x.size ≤ 20000
theorem plGo_ok : ∀ (xs : List LP) (seen : List Int) (nx f : Int), plGo seen nx xs = some f → 1 ≤ nx ∧ nx ≤ 1000000 → (∀ x ∈ xs, LPok x) ∧ 1 ≤ f ∧ f ≤ 1000000
  | [], _, nx, f, h, hn => by
    rw [plGo] at h; cases h; exact ⟨fun x hx => (by cases hx), hn⟩
  | x :: xs, seen, nx, f, h, hn => by
    rw [plGo] at h
    split at h
    · rename_i ho
      obtain ⟨h1, h2, h3, h4, h5, h6⟩ := ho
      obtain ⟨g1, g2⟩ := plGo_ok xs _ _ f h ⟨by omega, h5⟩
      refine ⟨fun y hy => ?_, g2⟩
      rcases List.mem_cons.1 hy with rfl | hy
      · exact ⟨h1, by omega, ⟨h4, h5⟩, h6⟩
      · exact g1 y hy
    · cases h
theorem planOk_ok {p : Pl} (h : planOk p = true) : p.parts.length ≤ 40 ∧ (∀ x ∈ p.parts, LPok x) ∧ (1 ≤ p.opn ∧ p.opn ≤ 999999) ∧ 1 ≤ p.first ∧ p.first ≤ 1000000 := by
  obtain ⟨h1, h2, h3⟩ := (planOk_iff p).1 h
  obtain ⟨h4, h5⟩ := plGo_ok _ _ _ _ h3 ⟨by omega, by omega⟩
  exact ⟨h1, h4, h2, h5⟩
theorem planOk_pl {p : Pl} (h : planOk p = true) : okPl p := by
  obtain ⟨h1, h2, h3, h4⟩ := planOk_ok h
  refine ⟨by omega, fun x hx => ?_, ⟨by omega, by omega⟩, ⟨by omega, by omega⟩⟩
  obtain ⟨g1, g2, g3, g4⟩ := h2 x hx
  exact ⟨⟨by omega, by omega⟩, ⟨by omega, by omega⟩, ⟨by omega, by omega⟩, ⟨by omega, by omega⟩⟩
theorem decI (n : Int) (h : 0 ≤ n ∧ n ≤ 1000000) : ACallsF Tryz.prog 38 [.i n] [] (tS (dc n)) := by
  obtain ⟨k, rfl⟩ : ∃ k : Nat, n = k := ⟨n.toNat, (Int.toNat_of_nonneg h.1).symm⟩
  exact dec_ok 6 k (by omega) (by omega)
theorem dc_le7 (n : Int) (h : 0 ≤ n ∧ n ≤ 1000000) : (dc n).size ≤ 7 := by
  obtain ⟨k, rfl⟩ : ∃ k : Nat, n = k := ⟨n.toNat, (Int.toNat_of_nonneg h.1).symm⟩
  have hn : ¬ (k : Int) < 0 := by omega
  rw [dc, ofL_size, Lib.itoa, if_neg hn, Int.toNat_natCast]
  exact dd_len 6 k (by omega)
/-- What LogPlanWrite makes. -/
def planW (p : Pl) : ByteArray := if planOk p = true then planT p else ⟨#[]⟩
def ok116 := okF.gu (P := Tryz.prog) tab Tryz.func116 Tryz.ntmps116 (by conv => lhs; cbv) (by kernel_rfl)
theorem planWI_ok (p : Pl) (hl : p.parts.length ≤ 1000000000000) : ACallsF Tryz.prog 116 [tPl p] [] (tS (planW p)) := by
  refine ACallsF.intro ok116 follows fun X c0 => ?_
  simp only [go_sem]
  refine callC (planOkI_ok p hl) rfl rfl rfl rfl ?_
  cases h : planOk p with
  | false =>
    have e : planW p = ⟨#[]⟩ := if_neg (by rw [h]; decide)
    simp only [go_sem, e]
  | true =>
    have e : planW p = planT p := if_pos h
    simp only [go_sem]
    refine callC (planText_ok p (planOk_pl h)) rfl rfl rfl rfl ?_
    simp only [go_sem, e]
theorem lineB_eq (x : LP) : lineB x = (⟨#[115, 101, 97, 108, 32]⟩ : ByteArray) ++ dc x.num ++ ⟨#[32]⟩ ++ dc x.first ++ ⟨#[32]⟩ ++ dc x.next ++ ⟨#[32]⟩ ++ dc x.size ++ ⟨#[10]⟩ := by
  have e : (⟨#[115, 101, 97, 108, 32]⟩ : ByteArray) = wSeal ++ ⟨#[32]⟩ := by decide
  rw [e, lineB]
  simp only [joinB, ba_assoc]
theorem endB_eq (p : Pl) : endB p = (⟨#[111, 112, 101, 110, 32]⟩ : ByteArray) ++ dc p.opn ++ ⟨#[32]⟩ ++ dc p.first ++ ⟨#[10, 101, 110, 100, 10]⟩ := by
  have e : (⟨#[111, 112, 101, 110, 32]⟩ : ByteArray) = wOpen ++ ⟨#[32]⟩ := by decide
  rw [e, endB]
  simp only [joinB, ba_assoc]
theorem data_ofL (b : ByteArray) : ofL b.data.toList = b := ofL_data b
theorem planT_step (xs : List LP) (x : LP) : ofL (linesL (xs ++ [x])) = ofL (linesL xs) ++ lineB x := by
  rw [linesL, List.flatMap_append, ofL_app]
  congr 1
  simp only [List.flatMap_cons, List.flatMap_nil, List.append_nil]
  exact ofL_data _
theorem planT_end (p : Pl) : planT p = ofL (linesL p.parts) ++ endB p := by rw [planT, ofL_app, data_ofL]
theorem sz_seal : (⟨#[115, 101, 97, 108, 32]⟩ : ByteArray).size = 5 := rfl
theorem sz_sp : (⟨#[32]⟩ : ByteArray).size = 1 := rfl
theorem sz_nl : (⟨#[10]⟩ : ByteArray).size = 1 := rfl
theorem sz_open : (⟨#[111, 112, 101, 110, 32]⟩ : ByteArray).size = 5 := rfl
theorem sz_end : (⟨#[10, 101, 110, 100, 10]⟩ : ByteArray).size = 5 := rfl
def ok89 := okF.gu (P := Tryz.prog) tab Tryz.func89 Tryz.ntmps89 (by conv => lhs; cbv) (by kernel_rfl)
def inv89 (p : Pl) (i : Nat) (σ : St) : Prop := (ofL (linesL (p.parts.take i))).size ≤ 50 * i ∧ (∃ u, σ.t 1 = .c (.ptr 1 u 0) ∧ σ.H 1 = some (.var u 47 (cPl p))) ∧ σ.t 3 = tS (ofL (linesL (p.parts.take i))) ∧ σ.t 4 = .i i
set_option maxHeartbeats 1000000 in
theorem planWS_ok (p : Pl) (hl : p.parts.length ≤ 9000000000000000000) : ACallsF Tryz.prog 89 [tPl p] [] (tS (planW p)) := by
  refine ACallsF.intro ok89 follows fun X c0 => ?_
  simp only [go_sem]
  refine callC (planOkS_ok p hl) rfl rfl rfl rfl ?_
  cases h : planOk p with
  | false =>
    have e : planW p = ⟨#[]⟩ := if_neg (by rw [h]; decide)
    simp only [go_sem, e]
  | true =>
  have e : planW p = planT p := if_pos h
  obtain ⟨hl40, hparts, hopn, hfirst⟩ := planOk_ok h
  rw [e, planT_end, endB_eq]
  simp only [go_sem]
  refine AW.upto p.parts.length (inv89 p) ⟨Nat.zero_le _, ⟨_, rfl, rfl⟩, rfl, rfl⟩ fun i t H c hi h => ?_
  obtain ⟨ho, ⟨u, e1, eH⟩, e3, e4⟩ := h
  simp only [T.c, T.i, T.s] at e1 eH e3 e4
  by_cases k1 : (i : Int) < p.parts.length
  · obtain ⟨x, hx⟩ : ∃ x, p.parts[i]? = some x := ⟨_, List.getElem?_eq_getElem (by omega)⟩
    have ex := en_at eP hx
    obtain ⟨x1, x2, x3, x4⟩ := hparts x (List.mem_of_getElem? hx)
    have gz : (0 : Int) ≤ i := by omega
    have w2 : IntKind.i64.wrap ((i : Int) + 1) = ((i + 1 : Nat) : Int) := wrap64 (x := (i : Int) + 1) ⟨by omega, by omega⟩
    have C1 := decI x.num ⟨by omega, by omega⟩
    have C2 := decI x.first ⟨by omega, by omega⟩
    have C3 := decI x.next ⟨by omega, by omega⟩
    have C4 := decI x.size ⟨by omega, by omega⟩
    have z1 := dc_le7 x.num ⟨by omega, by omega⟩
    have z2 := dc_le7 x.first ⟨by omega, by omega⟩
    have z3 := dc_le7 x.next ⟨by omega, by omega⟩
    have z4 := dc_le7 x.size ⟨by omega, by omega⟩
    have hs := planT_step (p.parts.take i) x
    rw [← take_snoc hx, lineB_eq] at hs
    generalize hout : ofL (linesL (p.parts.take i)) = o at ho e3 hs
    simp only [← ba_assoc] at hs
    generalize hd1 : dc x.num = s1 at *
    generalize hd2 : dc x.first = s2 at *
    generalize hd3 : dc x.next = s3 at *
    generalize hd4 : dc x.size = s4 at *
    have q0 : fits o (⟨#[115, 101, 97, 108, 32]⟩ : ByteArray) := by simp only [fits, ByteArray.size_append, sz_seal, sz_sp, sz_nl]; omega
    have q1 : fits (o ++ (⟨#[115, 101, 97, 108, 32]⟩ : ByteArray)) s1 := by simp only [fits, ByteArray.size_append, sz_seal, sz_sp, sz_nl]; omega
    have q2 : fits (o ++ (⟨#[115, 101, 97, 108, 32]⟩ : ByteArray) ++ s1) (⟨#[32]⟩ : ByteArray) := by simp only [fits, ByteArray.size_append, sz_seal, sz_sp, sz_nl]; omega
    have q3 : fits (o ++ (⟨#[115, 101, 97, 108, 32]⟩ : ByteArray) ++ s1 ++ (⟨#[32]⟩ : ByteArray)) s2 := by simp only [fits, ByteArray.size_append, sz_seal, sz_sp, sz_nl]; omega
    have q4 : fits (o ++ (⟨#[115, 101, 97, 108, 32]⟩ : ByteArray) ++ s1 ++ (⟨#[32]⟩ : ByteArray) ++ s2) (⟨#[32]⟩ : ByteArray) := by simp only [fits, ByteArray.size_append, sz_seal, sz_sp, sz_nl]; omega
    have q5 : fits (o ++ (⟨#[115, 101, 97, 108, 32]⟩ : ByteArray) ++ s1 ++ (⟨#[32]⟩ : ByteArray) ++ s2 ++ (⟨#[32]⟩ : ByteArray)) s3 := by simp only [fits, ByteArray.size_append, sz_seal, sz_sp, sz_nl]; omega
    have q6 : fits (o ++ (⟨#[115, 101, 97, 108, 32]⟩ : ByteArray) ++ s1 ++ (⟨#[32]⟩ : ByteArray) ++ s2 ++ (⟨#[32]⟩ : ByteArray) ++ s3) (⟨#[32]⟩ : ByteArray) := by simp only [fits, ByteArray.size_append, sz_seal, sz_sp, sz_nl]; omega
    have q7 : fits (o ++ (⟨#[115, 101, 97, 108, 32]⟩ : ByteArray) ++ s1 ++ (⟨#[32]⟩ : ByteArray) ++ s2 ++ (⟨#[32]⟩ : ByteArray) ++ s3 ++ (⟨#[32]⟩ : ByteArray)) s4 := by simp only [fits, ByteArray.size_append, sz_seal, sz_sp, sz_nl]; omega
    have q8 : fits (o ++ (⟨#[115, 101, 97, 108, 32]⟩ : ByteArray) ++ s1 ++ (⟨#[32]⟩ : ByteArray) ++ s2 ++ (⟨#[32]⟩ : ByteArray) ++ s3 ++ (⟨#[32]⟩ : ByteArray) ++ s4) (⟨#[10]⟩ : ByteArray) := by simp only [fits, ByteArray.size_append, sz_seal, sz_sp, sz_nl]; omega
    simp only [go_sem, e1, eH, e3, e4, k1, ex, gz, eP, sStr, q0]
    refine callC C1 rfl rfl rfl rfl ?_
    simp only [go_sem, e1, eH, e3, e4, eP, sStr, q1, q2]
    refine callC C2 rfl rfl rfl rfl ?_
    simp only [go_sem, e1, eH, e3, e4, eP, sStr, q3, q4]
    refine callC C3 rfl rfl rfl rfl ?_
    simp only [go_sem, e1, eH, e3, e4, eP, sStr, q5, q6]
    refine callC C4 rfl rfl rfl rfl ?_
    simp only [go_sem, e1, eH, e3, e4, eP, sStr, q7, q8, w2]
    refine ⟨by omega, ?_, ⟨u, e1, eH⟩, ?_, rfl⟩
    · rw [hs]; simp only [ByteArray.size_append, sz_seal, sz_sp, sz_nl]; omega
    · rw [hs]; rfl
  · have hi2 : i = p.parts.length := by omega
    subst hi2
    rw [List.take_length] at ho e3
    have C1 := decI p.opn ⟨by omega, by omega⟩
    have C2 := decI p.first ⟨by omega, by omega⟩
    have z1 := dc_le7 p.opn ⟨by omega, by omega⟩
    have z2 := dc_le7 p.first ⟨by omega, by omega⟩
    simp only [← ba_assoc]
    generalize hout : ofL (linesL p.parts) = o at ho e3 ⊢
    generalize hd1 : dc p.opn = s1 at *
    generalize hd2 : dc p.first = s2 at *
    have q0 : fits o (⟨#[111, 112, 101, 110, 32]⟩ : ByteArray) := by simp only [fits, ByteArray.size_append, sz_open, sz_sp, sz_end]; omega
    have q1 : fits (o ++ (⟨#[111, 112, 101, 110, 32]⟩ : ByteArray)) s1 := by simp only [fits, ByteArray.size_append, sz_open, sz_sp, sz_end]; omega
    have q2 : fits (o ++ (⟨#[111, 112, 101, 110, 32]⟩ : ByteArray) ++ s1) (⟨#[32]⟩ : ByteArray) := by simp only [fits, ByteArray.size_append, sz_open, sz_sp, sz_end]; omega
    have q3 : fits (o ++ (⟨#[111, 112, 101, 110, 32]⟩ : ByteArray) ++ s1 ++ (⟨#[32]⟩ : ByteArray)) s2 := by simp only [fits, ByteArray.size_append, sz_open, sz_sp, sz_end]; omega
    have q4 : fits (o ++ (⟨#[111, 112, 101, 110, 32]⟩ : ByteArray) ++ s1 ++ (⟨#[32]⟩ : ByteArray) ++ s2) (⟨#[10, 101, 110, 100, 10]⟩ : ByteArray) := by simp only [fits, ByteArray.size_append, sz_open, sz_sp, sz_end]; omega
    simp only [go_sem, e1, eH, e3, e4, k1, sStr, q0]
    refine callC C1 rfl rfl rfl rfl ?_
    simp only [go_sem, e1, eH, e3, e4, sStr, q1, q2]
    refine callC C2 rfl rfl rfl rfl ?_
    simp only [go_sem, e1, eH, e3, e4, sStr, q3, q4]
end Go.V
set_option linter.unusedSimpArgs false
set_option maxRecDepth 20000
namespace Go.V
open Go.Proofs Go.RowKit
/-- The pieces of a text between bytes. -/
def splitL (s : ByteArray) (c : UInt8) : List ByteArray := Lib.splitB ⟨#[c]⟩ 0 (Lib.countB s ⟨#[c]⟩) s
theorem splitL_len (s : ByteArray) (c : UInt8) : (splitL s c).length = Lib.countB s ⟨#[c]⟩ + 1 := Lib.splitB_all ⟨#[c]⟩ (Nat.le_refl 1) 0 _ s rfl
theorem splitL_le (s : ByteArray) (c : UInt8) : (splitL s c).length ≤ s.size + 1 := by
  rw [splitL_len]
  have := Lib.countB_le ⟨#[c]⟩ (Nat.le_refl 1) s.size s (Nat.le_refl _)
  omega
theorem splitB_size (sep : ByteArray) : ∀ (k : Nat) (s x : ByteArray), x ∈ Lib.splitB sep 0 k s → x.size ≤ s.size
  | 0, s, x, h => by rw [Lib.splitB_zero] at h; rw [List.mem_singleton.1 h]; exact Nat.le_refl _
  | k + 1, s, x, h => by
    unfold Lib.splitB at h
    split at h
    · rw [List.mem_singleton.1 h]; exact Nat.le_refl _
    · rcases List.mem_cons.1 h with rfl | h
      · rw [ByteArray.size_extract]; omega
      · have := splitB_size sep k _ x h
        rw [ByteArray.size_extract] at this; omega
theorem splitL_size (s : ByteArray) (c : UInt8) {x : ByteArray} (h : x ∈ splitL s c) : x.size ≤ s.size := splitB_size _ _ _ _ h
theorem split_ok (s : ByteArray) (c : UInt8) (hs : s.size ≤ 1000000000) : ACallsF Tryz.prog 114 [tS s, tS ⟨#[c]⟩] [] (tL (en eS (splitL s c))) := by
  refine ⟨by kernel_rfl, fun w imm L cc vs hH hT => ?_⟩
  have hvs := lift_vs (args := [.string s, .string ⟨#[c]⟩]) hT
  subst hvs
  obtain ⟨m, hm⟩ := int3 hH.glob
  refine (Any.strings_Split laysSplit (by kernel_rfl) s ⟨#[c]⟩ m w (by omega) hm (Nat.le_refl 1)).mono ?_
  rintro e w' ⟨rfl, rfl⟩
  have hlen := splitL_len s c
  have hb : Below w.heap.size w (w.alloc (.cells ((splitL s c).map Value.string).toArray 9)) := (Below.refl _ w).alloc (Nat.le_refl _) _
  have hk := keep_below hb hH.imm
  have hk2 : ∀ b o, imm b o → (imm b o ∨ b = w.heap.size) ∧ (w.alloc (.cells ((splitL s c).map Value.string).toArray 9)).cell? ⟨b, o, none⟩ = w.cell? ⟨b, o, none⟩ := fun b o h => ⟨.inl h, (hk b o h).2⟩
  have hnew := heap_alloc_new w (.cells ((splitL s c).map Value.string).toArray 9)
  have hsz : ∀ o, (w.alloc o).heap.size = w.heap.size + 1 := fun o => Array.size_push ..
  refine ⟨_, tL (en eS (splitL s c)), fun _ => none, fun b o => imm b o ∨ b = w.heap.size, L, cc, rfl, ⟨fun v => v, rfl, fun n q hn => by simp [renN] at hn⟩, ?_,
    ⟨fun n B hB => (by cases hB), fun n m g hn => absurd rfl hn, fun n g hn => absurd rfl hn, hH.glob.keep hk2, fun b o h => ?_⟩,
    ⟨hb.os, hb.tape, hb.output, hb.size, fun b hlt _ => hb.block b hlt, hk2, fun b o h => ?_⟩, fun n g hn => absurd rfl hn,
    ⟨fun _ h => h, fun n ver ty cs _ hB => (by cases hB), fun n ver wr st ty es _ hB => (by cases hB), fun n ver wr st ty es g cur _ hB => (by cases hB), fun n ver wr st ty es op _ hB => (by cases hB), fun n ver wr st ty es op g cur _ hB => (by cases hB)⟩⟩
  · show VRep _ _ (.slice (some ⟨w.heap.size, 0, none⟩) (Lib.countB s ⟨#[c]⟩ + 1) _) (.sl (en eS (splitL s c)))
    have hl2 : Lib.countB s ⟨#[c]⟩ + 1 = (en eS (splitL s c)).length := by rw [en_len, hlen]
    rw [hl2]
    refine .sl (en eS (splitL s c)) 1 w.heap.size 0 _ (fun i _ => ((splitL s c)[i]?).elim (.bool false) Value.string) Nat.one_pos (fun h => by rw [h] at hl2; simp at hl2) (Nat.le_refl _) (fun e he => (by
        simp only [en, List.mem_map] at he; obtain ⟨n, _, rfl⟩ := he; rfl)) (fun i j x hx => ?_) fun i j x hx => ?_
    all_goals
      unfold at2 at hx
      cases hni : (splitL s c)[i]? with
      | none => rw [show (en eS (splitL s c))[i]? = none from by simp [en, hni]] at hx; simp at hx
      | some n =>
        rw [en_at eS hni] at hx
        cases j with
        | succ j => simp [eS] at hx
        | zero =>
          simp [eS] at hx
          subst hx
          first
            | exact .s _ rfl
            | exact ⟨(Lib.cell_of_heap hnew (0 + i * 1 + 0)).trans (by simp [hni]), .inr rfl⟩
  · rw [hsz]
    rcases h with h | rfl
    · have := hH.imm b o h; omega
    · omega
  · rcases h with h | rfl
    · exact .inl h
    · exact .inr (.inl (Nat.le_refl _))
theorem rnN_in (s : ByteArray) : i64 (rnN s) := by
  unfold rnN
  cases h : Lib.atoiAll s.data.toList with
  | ok v => exact atoi_in h
  | range =>
    simp only [Lib.atoiSat]
    split <;> exact ⟨by omega, by omega⟩
  | _ => exact ⟨by simp only; omega, by simp only; omega⟩
/-- The numbers that texts are, if all of them are. -/
def rdNums : List ByteArray → Option (List Int)
  | [] => some []
  | s :: l => if rnB s = true then (rdNums l).map (rnN s :: ·) else none
theorem rdNums_len : ∀ {l : List ByteArray} {ns : List Int}, rdNums l = some ns → ns.length = l.length
  | [], ns, h => by rw [rdNums] at h; cases h; rfl
  | s :: l, ns, h => by
    rw [rdNums] at h
    split at h
    · rw [Option.map_eq_some_iff] at h
      obtain ⟨ms, h1, rfl⟩ := h
      rw [List.length_cons, List.length_cons, rdNums_len h1]
    · cases h
theorem rdNums_in : ∀ {l : List ByteArray} {ns : List Int}, rdNums l = some ns → ∀ n ∈ ns, i64 n
  | [], ns, h => by rw [rdNums] at h; cases h; intro n hn; cases hn
  | s :: l, ns, h => by
    rw [rdNums] at h
    split at h
    · rw [Option.map_eq_some_iff] at h
      obtain ⟨ms, h1, rfl⟩ := h
      intro n hn
      rcases List.mem_cons.1 hn with rfl | hn
      · exact rnN_in s
      · exact rdNums_in h1 n hn
    · cases h
/-- The numbers behind the word of a line. -/
def nbB (line word : ByteArray) (many : Nat) : Option (List Int) := match splitL line 32 with
  | [] => none
  | w :: ws => if w = word ∧ ws.length = many then rdNums ws else none
theorem nbB_len {line word : ByteArray} {many : Nat} {ns : List Int} (h : nbB line word many = some ns) : ns.length = many ∧ ∀ n ∈ ns, i64 n := by
  unfold nbB at h
  split at h
  · cases h
  · split at h
    · rename_i hc
      exact ⟨(rdNums_len h).trans hc.2, rdNums_in h⟩
    · cases h
abbrev tNB (o : Option (List Int)) : T := .tup [.one (.v (.sl (en eI (o.getD [])))), .one (.v (.s (.bool o.isSome)))]
def ok115 := okF.gu (P := Tryz.prog) tab Tryz.func115 Tryz.ntmps115 (by conv => lhs; cbv) (by kernel_rfl)
def inv115 (ws : List ByteArray) (i : Nat) (σ : St) : Prop := σ.t 30 = tL (en eS ws) ∧ σ.t 31 = .i ws.length ∧ σ.t 32 = .i i ∧ ∃ ns v, ns.length = i ∧ rdNums ws = (rdNums (ws.drop i)).map (ns ++ ·) ∧ σ.t 9 = .c (.own 16 v i) ∧ σ.H 16 = some (.arr v true 1 3 (en eI ns))
set_option maxHeartbeats 1000000 in
theorem nb_ok (line word : ByteArray) (many : Nat) (hm : many ≤ 1000) (hs : line.size ≤ 1000000000) : ACallsF Tryz.prog 115 [tS line, tS word, .i many] [] (tNB (nbB line word many)) := by
  have hle := splitL_le line 32
  refine ACallsF.intro ok115 follows fun X c0 => ?_
  simp only [go_sem]
  refine callC (split_ok line 32 hs) rfl rfl rfl rfl ?_
  have hsz := fun x hx => splitL_size line 32 (x := x) hx
  unfold nbB
  cases hsp : splitL line 32 with
  | nil => have := splitL_len line 32; rw [hsp] at this; simp at this
  | cons w0 ws =>
    rw [hsp] at hle hsz
    rw [List.length_cons] at hle
    simp only
    generalize hR : (if w0 = word ∧ ws.length = many then rdNums ws else none) = R
    have z0 : (0 : Int) ≤ 0 := Int.le_refl _
    have e0 : (en eS (w0 :: ws))[0]? = some (eS w0) := rfl
    have w1 : IntKind.i64.wrap ((many : Int) + 1) = ((many + 1 : Nat) : Int) := (wrap64 ⟨by omega, by omega⟩).trans (by omega)
    by_cases k1 : w0 = word
    rotate_left
    · have hn : ¬ (w0 = word ∧ ws.length = many) := fun h => k1 h.1
      rw [if_neg hn] at hR
      subst hR
      simp only [go_sem, z0, Int.toNat_zero, e0, eS, sStr, str_beq, k1, decide_false, Option.getD_none, Option.isSome_none]
    subst k1
    by_cases k2 : ws.length = many
    rotate_left
    · have hn : ¬ (w0 = w0 ∧ ws.length = many) := fun h => k2 h.2
      have k3 : (((ws.length + 1 : Nat) : Int) != ((many + 1 : Nat) : Int)) = true := by rw [bne_iff_ne]; omega
      rw [if_neg hn] at hR
      subst hR
      simp only [go_sem, z0, Int.toNat_zero, e0, eS, sStr, str_beq, decide_true, w1, k3, Option.getD_none, Option.isSome_none]
    have k3 : (((ws.length + 1 : Nat) : Int) != ((many + 1 : Nat) : Int)) = false := by rw [k2]; simp
    have k4 : (1 : Int) ≤ ((ws.length + 1 : Nat) : Int) := by omega
    rw [if_pos (And.intro rfl k2)] at hR
    have hdr : List.take (ws.length + 1 - 1) (List.drop 1 (en eS (w0 :: ws))) = en eS ws := by
      show List.take (ws.length + 1 - 1) (en eS ws) = _
      exact List.take_of_length_le (by rw [en_len]; omega)
    simp only [go_sem, z0, Int.toNat_zero, e0, eS, sStr, str_beq, decide_true, w1, k3, lohi, KI, k4, Int.le_refl, hdr]
    refine AW.upto ws.length (inv115 ws) ⟨rfl, rfl, rfl, [], _, rfl, by rw [List.drop_zero]; cases rdNums ws <;> rfl, rfl, rfl⟩ fun i t H c hi h => ?_
    obtain ⟨e30, e31, e32, ns, v, hnl, hrd, e9, eH⟩ := h
    simp only [T.c, T.i, tL] at e30 e31 e32 e9 eH
    by_cases hlt : i < ws.length
    · obtain ⟨x, hx⟩ : ∃ x, ws[i]? = some x := ⟨_, List.getElem?_eq_getElem hlt⟩
      have ex := en_at eS hx
      have gx : (0 : Int) ≤ i := by omega
      have k5 : (i : Int) < ws.length := by omega
      have gw : IntKind.i64.wrap ((i : Int) + 1) = ((i + 1 : Nat) : Int) := wrap64 (x := (i : Int) + 1) ⟨by omega, by omega⟩
      have hxs := hsz x (List.mem_cons_of_mem _ (List.mem_of_getElem? hx))
      rw [drop_at hx, rdNums] at hrd
      simp only [go_sem, e30, e31, e32, e9, k5, gx, ex, eS]
      refine callC (readNum_ok x (by omega)) rfl rfl rfl rfl ?_
      cases hb : rnB x with
      | false =>
        rw [hb, if_neg (by decide), Option.map_none] at hrd
        have hR2 : R = none := hR.symm.trans hrd
        subst hR2
        simp only [go_sem, e9, eH, Option.getD_none, Option.isSome_none]
      | true =>
        rw [hb, if_pos rfl] at hrd
        have ht : List.take i (en eI ns) = en eI ns := List.take_of_length_le (by rw [en_len, hnl]; exact Nat.le_refl _)
        have q1 : (i + 1) * 8 ≤ 140737488355328 := by omega
        have q2 : i + 1 ≤ 9223372036854775807 := by omega
        simp only [go_sem, e30, e31, e32, e9, eH, hnl, ht, q1, q2, gw]
        have heq : en eI (ns ++ [rnN x]) = en eI ns ++ [[.s (.int .i64 (rnN x))]] := by simp only [en, List.map_append, List.map_cons, List.map_nil]; rfl
        refine ⟨hlt, e30, e31, rfl, ns ++ [rnN x], _, by rw [List.length_append, hnl]; rfl, ?_, rfl, congrArg (fun q => some (Blk.arr _ true 1 3 q)) heq.symm⟩
        rw [hrd, Option.map_map]
        congr 1
        funext l
        simp
    · have hi2 : i = ws.length := by omega
      subst hi2
      have k5 : ¬ (ws.length : Int) < ws.length := by omega
      rw [List.drop_length, rdNums, Option.map_some, List.append_nil] at hrd
      have hR2 : R = some ns := hR.symm.trans hrd
      subst hR2
      have ht : List.take ws.length (en eI ns) = en eI ns := List.take_of_length_le (by rw [en_len, hnl]; exact Nat.le_refl _)
      simp only [go_sem, e30, e31, e32, e9, eH, k5, hnl, ht, Option.getD_some, Option.isSome_some]
end Go.V
set_option linter.unusedSimpArgs false
set_option maxRecDepth 20000
namespace Go.V
open Go.Proofs
def zPl : Pl := ⟨[], 0, 0⟩
/-- What a line adds to a plan. -/
def rdLine (p : Pl) (line : ByteArray) : Pl := match nbB line wSeal 4 with
  | some [a, b, c, d] => ⟨p.parts ++ [⟨a, b, c, d⟩], p.opn, p.first⟩
  | _ => match nbB line wOpen 2 with
    | some [a, b] => ⟨p.parts, a, b⟩
    | _ => p
theorem rdLine_4 {p : Pl} {line : ByteArray} {a b c d : Int} (h : nbB line wSeal 4 = some [a, b, c, d]) : rdLine p line = ⟨p.parts ++ [⟨a, b, c, d⟩], p.opn, p.first⟩ := by rw [rdLine, h]
theorem rdLine_2 {p : Pl} {line : ByteArray} {a b : Int} (h4 : nbB line wSeal 4 = none) (h : nbB line wOpen 2 = some [a, b]) : rdLine p line = ⟨p.parts, a, b⟩ := by rw [rdLine, h4, h]
theorem rdLine_0 {p : Pl} {line : ByteArray} (h4 : nbB line wSeal 4 = none) (h : nbB line wOpen 2 = none) : rdLine p line = p := by rw [rdLine, h4, h]
/-- The plan that lines say. -/
def pI (text : ByteArray) : Pl := (splitL text 10).foldl rdLine zPl
def rdI (text : ByteArray) : Pl × Bool := if planW (pI text) = text ∧ text ≠ ⟨#[]⟩ then (pI text, true) else (zPl, false)
abbrev tPB (r : Pl × Bool) : T := .tup [.agg (cPl r.1), .one (.v (.s (.bool r.2)))]
theorem foldl_take {α β : Type} (f : β → α → β) (z : β) {l : List α} {i : Nat} {x : α} (h : l[i]? = some x) : (l.take (i + 1)).foldl f z = f ((l.take i).foldl f z) x := by
  rw [take_snoc h, List.foldl_append]; rfl
theorem list4 {l : List Int} (h : l.length = 4) : ∃ a b c d, l = [a, b, c, d] := by
  match l, h with
  | [a, b, c, d], _ => exact ⟨a, b, c, d, rfl⟩
theorem list2 {l : List Int} (h : l.length = 2) : ∃ a b, l = [a, b] := by
  match l, h with
  | [a, b], _ => exact ⟨a, b, rfl⟩
theorem lendPlan {H : HMap} {m v n : Nat} {w1 : Bool} {p : Pl} (h1 : H m = some (.arr v w1 4 76 (en eP p.parts))) (e1 : n = p.parts.length) :
    lendT H (tPl p) (.pt (.agg [.own m v n, .v (.s (.int .i64 p.opn)), .v (.s (.int .i64 p.first))])) = some (tPl p, [(m, .arr v false 4 76 (en eP p.parts))], [m]) := by
  subst e1
  simp only [lendT, lendCs, lendC, sealC, h1, en_len, en_take, Nat.le_refl, and_self, if_true, Option.map_some, List.cons_append, List.nil_append, List.append_nil]
def ok98 := okF.gu (P := Tryz.prog) tab Tryz.func98 Tryz.ntmps98 (by conv => lhs; cbv) (by kernel_rfl)
def inv98 (text : ByteArray) (ls : List ByteArray) (i : Nat) (σ : St) : Prop := σ.t 0 = tS text ∧ σ.t 13 = tL (en eS ls) ∧ σ.t 14 = .i ls.length ∧ σ.t 15 = .i i ∧ ((ls.take i).foldl rdLine zPl).parts.length ≤ i ∧
  (∃ u, σ.t 2 = .c (.ptr 2 u 0) ∧ σ.H 2 = some (.var u 47 [.nil0, .v (.s (.int .i64 0)), .v (.s (.int .i64 0))])) ∧
  ∃ u v, σ.t 4 = .c (.ptr 4 u 0) ∧ σ.H 4 = some (.var u 47 [.own 2041 v ((ls.take i).foldl rdLine zPl).parts.length, .v (.s (.int .i64 ((ls.take i).foldl rdLine zPl).opn)), .v (.s (.int .i64 ((ls.take i).foldl rdLine zPl).first))]) ∧ σ.H 2041 = some (.arr v true 4 76 (en eP ((ls.take i).foldl rdLine zPl).parts))
set_option maxHeartbeats 1000000 in
theorem rdI_ok (text : ByteArray) (hs : text.size ≤ 1000000) : ACallsF Tryz.prog 98 [tS text] [] (tPB (rdI text)) := by
  have hle := splitL_le text 10
  have hsz := fun x hx => splitL_size text 10 (x := x) hx
  refine ACallsF.intro ok98 follows fun X c0 => ?_
  simp only [go_sem]
  refine callC (split_ok text 10 (by omega)) rfl rfl rfl rfl ?_
  generalize hR : rdI text = R
  unfold rdI pI at hR
  generalize splitL text 10 = ls at *
  simp only [go_sem]
  refine AW.reify 4 0 2041 4 76 rfl rfl rfl (by decide) ?_
  refine AW.upto ls.length (inv98 text ls) ⟨rfl, rfl, rfl, rfl, Nat.le_refl _, ⟨_, rfl, rfl⟩, _, _, rfl, rfl, rfl⟩ fun i t H c hi h => ?_
  obtain ⟨e0, e13, e14, e15, hpl, ⟨u2, e2, eH2⟩, u4, v, e4, eH4, eH41⟩ := h
  simp only [T.c, T.i, T.s, tL] at e0 e13 e14 e15 e2 eH2 e4 eH4 eH41
  by_cases hlt : i < ls.length
  · obtain ⟨x, hx⟩ : ∃ x, ls[i]? = some x := ⟨_, List.getElem?_eq_getElem hlt⟩
    have ex := en_at eS hx
    have gx : (0 : Int) ≤ i := by omega
    have k5 : (i : Int) < ls.length := by omega
    have gw : IntKind.i64.wrap ((i : Int) + 1) = ((i + 1 : Nat) : Int) := wrap64 (x := (i : Int) + 1) ⟨by omega, by omega⟩
    have hxs := hsz x (List.mem_of_getElem? hx)
    have hf := foldl_take rdLine zPl hx
    generalize hq : (ls.take i).foldl rdLine zPl = q at *
    simp only [go_sem, e0, e13, e14, e15, k5, gx, ex, eS]
    refine callC (nb_ok x wSeal 4 (by omega) (by omega)) rfl rfl rfl rfl ?_
    have ht : List.take q.parts.length (en eP q.parts) = en eP q.parts := en_take eP q.parts
    cases h4 : nbB x wSeal 4 with
    | some ns =>
      obtain ⟨a, b, d, f, rfl⟩ := list4 (nbB_len h4).1
      rw [rdLine_4 h4] at hf
      have i0 : (en eI [a, b, d, f])[0]? = some (eI a) := rfl
      have i1 : (en eI [a, b, d, f])[1]? = some (eI b) := rfl
      have i2 : (en eI [a, b, d, f])[2]? = some (eI d) := rfl
      have i3 : (en eI [a, b, d, f])[3]? = some (eI f) := rfl
      have q1 : (q.parts.length + 1) * 32 ≤ 140737488355328 := by omega
      have q2 : q.parts.length + 1 ≤ 9223372036854775807 := by omega
      simp only [go_sem, Option.getD_some, Option.isSome_some, e4, eH4, eH41, KI, i0, i1, i2, i3, eI, ht, q1, q2, e15, gw]
      have heq : en eP (q.parts ++ [⟨a, b, d, f⟩]) = en eP q.parts ++ [eP ⟨a, b, d, f⟩] := en_snoc eP _ _
      refine ⟨hlt, e0, e13, e14, rfl, ?_, ⟨u2, e2, eH2⟩, u4, c + 1 + 3 + 7 + 1 + 16, e4, ?_, ?_⟩
      · rw [hf, List.length_append, List.length_singleton]; omega
      · rw [hf, List.length_append, List.length_singleton]; rfl
      · rw [hf, heq]; rfl
    | none =>
      simp only [go_sem, Option.getD_none, Option.isSome_none, e0, e13, e14, e15, e4, eH4]
      refine callC (nb_ok x wOpen 2 (by omega) (by omega)) rfl rfl rfl rfl ?_
      cases h2 : nbB x wOpen 2 with
      | some ns =>
        obtain ⟨a, b, rfl⟩ := list2 (nbB_len h2).1
        rw [rdLine_2 h4 h2] at hf
        have i0 : (en eI [a, b])[0]? = some (eI a) := rfl
        have i1 : (en eI [a, b])[1]? = some (eI b) := rfl
        simp only [go_sem, Option.getD_some, Option.isSome_some, e4, eH4, eH41, KI, i0, i1, eI, e15, gw]
        refine ⟨hlt, e0, e13, e14, rfl, ?_, ⟨u2, e2, eH2⟩, u4, v, e4, ?_, ?_⟩
        · rw [hf]; simp only; omega
        · rw [hf]; rfl
        · rw [hf]; exact eH41
      | none =>
        rw [rdLine_0 h4 h2] at hf
        simp only [go_sem, Option.getD_none, Option.isSome_none, e15, gw]
        refine ⟨hlt, e0, e13, e14, rfl, ?_, ⟨u2, e2, eH2⟩, u4, v, e4, ?_, ?_⟩
        · rw [hf]; omega
        · rw [hf]; exact eH4
        · rw [hf]; exact eH41
  · have hi2 : i = ls.length := by omega
    subst hi2
    have k5 : ¬ (ls.length : Int) < ls.length := by omega
    rw [List.take_length] at hpl eH4 eH41
    generalize ls.foldl rdLine zPl = q at *
    have ht : List.take q.parts.length (en eP q.parts) = en eP q.parts := en_take eP q.parts
    simp only [go_sem, e0, e13, e14, e15, k5, e4, eH4]
    refine callL (ws := [(2041, .arr v false 4 76 (en eP q.parts))]) (ns := [2041]) (planWI_ok q (by omega)) rfl ?_ rfl rfl ⟨?_, ?_⟩
    · simp only [List.map_cons, List.map_nil, ev, upd_same, lendTs, lendPlan eH41 rfl, List.append_nil]
    · simp only [go_sem, scalarT, scalarP, scalarC]
    by_cases hw : planW q = text
    · by_cases hz : text = ⟨#[]⟩
      · have hn : ¬ (planW q = text ∧ text ≠ ⟨#[]⟩) := fun h => h.2 hz
        rw [if_neg hn] at hR
        subst hR
        simp only [go_sem, scalarT, scalarP, scalarC, e0, sStr, str_beq, hw, hz, decide_true, e2, eH2]
        rfl
      · rw [if_pos ⟨hw, hz⟩] at hR
        subst hR
        simp only [go_sem, scalarT, scalarP, scalarC, e0, sStr, str_beq, hw, hz, decide_true, decide_false, e2, eH2, e4, eH4, eH41, ht]
    · have hn : ¬ (planW q = text ∧ text ≠ ⟨#[]⟩) := fun h => hw h.1
      rw [if_neg hn] at hR
      subst hR
      simp only [go_sem, scalarT, scalarP, scalarC, e0, sStr, str_beq, hw, decide_false, e2, eH2]
      rfl
end Go.V
set_option linter.unusedSimpArgs false
set_option maxRecDepth 20000
namespace Go.V
open Go.Proofs
def lSeal : ByteArray := ⟨#[115, 101, 97, 108, 32]⟩
def isSeal (text : ByteArray) (a : Nat) : Prop := a + 5 ≤ text.size ∧ text.extract a (a + 5) = lSeal
instance (text : ByteArray) (a : Nat) : Decidable (isSeal text a) := inferInstanceAs (Decidable (_ ∧ _))
def lpOf : List Int → LP
  | [a, b, c, d] => ⟨a, b, c, d⟩
  | _ => ⟨0, 0, 0, 0⟩
def slS (text : ByteArray) : Nat → List LP → Nat → List LP × Nat
  | 0, ps, a => (ps, a)
  | k + 1, ps, a => if isSeal text a then slS text k (ps ++ [lpOf (nus text (a + 5) 4).1]) (nus text (a + 5) 4).2 else (ps, a)
theorem slS_no {text : ByteArray} {a : Nat} (h : ¬ isSeal text a) : ∀ (k : Nat) (ps : List LP), slS text k ps a = (ps, a)
  | 0, _ => rfl
  | k + 1, ps => by rw [slS, if_neg h]
/-- The plan that a text says, if it is long enough. -/
def pS (text : ByteArray) : Option Pl := if (slS text 41 [] 0).2 + 5 ≤ text.size then match (nus text ((slS text 41 [] 0).2 + 5) 2).1 with
    | [a, b] => some ⟨(slS text 41 [] 0).1, a, b⟩
    | _ => none
  else none
def rdS (text : ByteArray) : Pl × Bool := match pS text with
  | some p => if planW p = text then (p, true) else (zPl, false)
  | none => (zPl, false)
theorem rdS_short {text : ByteArray} {ps : List LP} {a : Nat} (h : slS text 41 [] 0 = (ps, a)) (h2 : ¬ a + 5 ≤ text.size) : rdS text = (zPl, false) := by
  unfold rdS pS; rw [h]; simp only [if_neg h2]
theorem rdS_some {text : ByteArray} {ps : List LP} {a : Nat} {x y : Int} (h : slS text 41 [] 0 = (ps, a)) (h2 : a + 5 ≤ text.size) (hn : (nus text (a + 5) 2).1 = [x, y]) : rdS text = if planW ⟨ps, x, y⟩ = text then (⟨ps, x, y⟩, true) else (zPl, false) := by
  unfold rdS pS; rw [h]; simp only [if_pos h2, hn]
theorem lendPlan1 {H : HMap} {m v n : Nat} {w1 : Bool} {p : Pl} (h1 : H m = some (.arr v w1 4 76 (en eP p.parts))) (e1 : n = p.parts.length) :
    lendTs H [tPl p] [.pt (.agg [.own m v n, .v (.s (.int .i64 p.opn)), .v (.s (.int .i64 p.first))])] = some ([tPl p], [(m, .arr v false 4 76 (en eP p.parts))], [m]) := by
  simp only [lendTs, lendPlan h1 e1, List.append_nil]
def ok67 := okF.gu (P := Tryz.prog) tab Tryz.func67 Tryz.ntmps67 (by conv => lhs; cbv) (by kernel_rfl)
def inv67 (text : ByteArray) (i : Nat) (σ : St) : Prop := ∃ (ps : List LP) (a : Nat), ps.length = i ∧ a ≤ 37 * i ∧ slS text 41 [] 0 = slS text (41 - i) ps a ∧ σ.t 0 = tS text ∧ σ.t 5 = .i a ∧
  (∃ u, σ.t 2 = .c (.ptr 2 u 0) ∧ σ.H 2 = some (.var u 47 [.nil0, .v (.s (.int .i64 0)), .v (.s (.int .i64 0))])) ∧
  ∃ u v, σ.t 4 = .c (.ptr 4 u 0) ∧ σ.H 4 = some (.var u 47 [.own 2041 v ps.length, .v (.s (.int .i64 0)), .v (.s (.int .i64 0))]) ∧ σ.H 2041 = some (.arr v true 4 76 (en eP ps))
set_option maxHeartbeats 2000000 in
theorem rdS_ok (text : ByteArray) (hs : text.size ≤ 1000000) : ACallsF Tryz.prog 67 [tS text] [] (tPB (rdS text)) := by
  refine ACallsF.intro ok67 follows fun X c0 => ?_
  generalize hR : rdS text = R
  simp only [go_sem]
  refine AW.reify 4 0 2041 4 76 rfl rfl rfl (by decide) ?_
  refine AW.upto 41 (inv67 text) ⟨[], 0, rfl, Nat.le_refl _, rfl, rfl, rfl, ⟨_, rfl, rfl⟩, _, _, rfl, rfl, rfl⟩ fun i t H c hi h => ?_
  obtain ⟨ps, a, hpl, ha, hsl, e0, e5, ⟨u2, e2, eH2⟩, u4, v, e4, eH4, eH41⟩ := h
  simp only [T.c, T.i, T.s] at e0 e5 e2 eH2 e4 eH4 eH41
  have ht : List.take ps.length (en eP ps) = en eP ps := en_take eP ps
  have gz : (0 : Int) ≤ (a : Int) := by omega
  have gz5 : (0 : Int) ≤ ((a + 5 : Nat) : Int) := by omega
  have w5 : IntKind.i64.wrap ((a : Int) + 5) = ((a + 5 : Nat) : Int) := (wrap64 ⟨by omega, by omega⟩).trans (by omega)
  have y1 : (a : Int) ≤ ((a + 5 : Nat) : Int) := by omega
  by_cases hsz : a + 5 ≤ text.size
  rotate_left
  · have hno : ¬ isSeal text a := fun h => hsz h.1
    rw [slS_no hno] at hsl
    rw [rdS_short hsl hsz] at hR
    subst hR
    have k1 : ¬ ((a + 5 : Nat) : Int) ≤ text.size := by omega
    have k2 : ((a + 5 : Nat) : Int) > text.size := by omega
    simp only [go_sem, e0, e5, w5, k1, k2, e2, eH2]
    rfl
  have k1 : ((a + 5 : Nat) : Int) ≤ text.size := by omega
  have k2 : ¬ ((a + 5 : Nat) : Int) > text.size := by omega
  by_cases hse : text.extract a (a + 5) = lSeal ∧ i ≤ 40
  · have hse1 := hse.1
    unfold lSeal at hse1
    have k3 : ((ps.length : Nat) : Int) ≤ 40 := by omega
    have hnl := nus_len text (a + 5) 4
    have hnle := nus_le text (a + 5) 4
    have hsl2 : slS text 41 [] 0 = slS text (41 - (i + 1)) (ps ++ [lpOf (nus text (a + 5) 4).1]) (nus text (a + 5) 4).2 := by
      obtain ⟨k, hk⟩ : ∃ k, 41 - i = k + 1 := ⟨41 - i - 1, by omega⟩
      have hk2 : 41 - (i + 1) = k := by omega
      rw [hsl, hk, hk2, slS, if_pos ⟨hsz, hse.1⟩]
    have hC := nums_ok text (a + 5) 4 (by omega) (by omega) (by omega)
    generalize hnn : nus text (a + 5) 4 = nn at *
    obtain ⟨ns, b⟩ := nn
    simp only at hnl hnle hsl2 hC
    obtain ⟨x1, x2, x3, x4, rfl⟩ := list4 hnl
    have i0 : (en eI [x1, x2, x3, x4])[0]? = some (eI x1) := rfl
    have i1 : (en eI [x1, x2, x3, x4])[1]? = some (eI x2) := rfl
    have i2 : (en eI [x1, x2, x3, x4])[2]? = some (eI x3) := rfl
    have i3 : (en eI [x1, x2, x3, x4])[3]? = some (eI x4) := rfl
    have q1 : (ps.length + 1) * 32 ≤ 140737488355328 := by omega
    have q2 : ps.length + 1 ≤ 9223372036854775807 := by omega
    simp only [go_sem, e0, e5, w5, k1, lohi, gz, y1, sStr, str_beq, hse1, decide_true, e4, eH4, k3]
    refine callC hC rfl rfl rfl rfl ?_
    simp only [go_sem, e4, eH4, eH41, KI, i0, i1, i2, i3, eI, ht, q1, q2]
    have heq : en eP (ps ++ [⟨x1, x2, x3, x4⟩]) = en eP ps ++ [eP ⟨x1, x2, x3, x4⟩] := en_snoc eP _ _
    refine ⟨by omega, ps ++ [⟨x1, x2, x3, x4⟩], b, by rw [List.length_append, hpl]; rfl, by omega, hsl2, e0, rfl, ⟨u2, e2, eH2⟩, u4, c + 19 + 9 + 16, e4, ?_, ?_⟩
    · rw [List.length_append]; rfl
    · rw [heq]; rfl
  · have hsl3 : slS text 41 [] 0 = (ps, a) := by
      by_cases hi41 : i = 41
      · rw [hsl, hi41]; rfl
      · exact hsl.trans (slS_no (fun h => hse ⟨h.2, by omega⟩) _ _)
    have hnl := nus_len text (a + 5) 2
    have hC := nums_ok text (a + 5) 2 (by omega) (by omega) (by omega)
    generalize hnn : nus text (a + 5) 2 = nn at *
    obtain ⟨ns, b⟩ := nn
    simp only at hnl hC
    obtain ⟨x1, x2, rfl⟩ := list2 hnl
    rw [rdS_some hsl3 hsz (by rw [hnn])] at hR
    have i0 : (en eI [x1, x2])[0]? = some (eI x1) := rfl
    have i1 : (en eI [x1, x2])[1]? = some (eI x2) := rfl
    have fin : ∀ (b1 : Bool) (P : Prop), b1 = b1 ∧ P → P := fun _ _ h => h.2
    by_cases hse0 : text.extract a (a + 5) = lSeal
    · have k3 : ¬ ((ps.length : Nat) : Int) ≤ 40 := by
        have : ¬ i ≤ 40 := fun h => hse ⟨hse0, h⟩
        omega
      unfold lSeal at hse0
      simp only [go_sem, e0, e5, w5, k1, k2, lohi, gz, y1, sStr, str_beq, hse0, decide_true, e4, eH4, k3]
      refine callC hC rfl rfl rfl rfl ?_
      simp only [go_sem, e4, eH4, KI, i0, i1, eI]
      refine callL (ws := [(2041, .arr v false 4 76 (en eP ps))]) (ns := [2041]) (planWS_ok ⟨ps, x1, x2⟩ (by simp only; omega)) rfl (lendPlan1 (p := ⟨ps, x1, x2⟩) (by exact eH41) rfl) rfl rfl ⟨?_, ?_⟩
      · simp only [go_sem, scalarT, scalarP, scalarC]
      by_cases hw : planW ⟨ps, x1, x2⟩ = text
      · rw [if_pos hw] at hR
        subst hR
        simp only [go_sem, scalarT, scalarP, scalarC, e0, sStr, str_beq, hw, decide_true, e2, eH2, e4, eH41, ht]
      · rw [if_neg hw] at hR
        subst hR
        simp only [go_sem, scalarT, scalarP, scalarC, e0, sStr, str_beq, hw, decide_false, e2, eH2]
        rfl
    · unfold lSeal at hse0
      simp only [go_sem, e0, e5, w5, k1, k2, lohi, gz, y1, sStr, str_beq, hse0, decide_false, e4, eH4]
      refine callC hC rfl rfl rfl rfl ?_
      simp only [go_sem, e4, eH4, KI, i0, i1, eI]
      refine callL (ws := [(2041, .arr v false 4 76 (en eP ps))]) (ns := [2041]) (planWS_ok ⟨ps, x1, x2⟩ (by simp only; omega)) rfl (lendPlan1 (p := ⟨ps, x1, x2⟩) (by exact eH41) rfl) rfl rfl ⟨?_, ?_⟩
      · simp only [go_sem, scalarT, scalarP, scalarC]
      by_cases hw : planW ⟨ps, x1, x2⟩ = text
      · rw [if_pos hw] at hR
        subst hR
        simp only [go_sem, scalarT, scalarP, scalarC, e0, sStr, str_beq, hw, decide_true, e2, eH2, e4, eH41, ht]
      · rw [if_neg hw] at hR
        subst hR
        simp only [go_sem, scalarT, scalarP, scalarC, e0, sStr, str_beq, hw, decide_false, e2, eH2]
        rfl
end Go.V
set_option linter.unusedSimpArgs false
namespace Go.V
open Go.Proofs
/-! A plan's text is read again as that plan: by the program's way and by the reference's. -/
theorem ba_data (a b : ByteArray) : (a ++ b).data.toList = a.data.toList ++ b.data.toList := by simp
theorem ofL_toL (l : List UInt8) : (ofL l).data.toList = l := by simp [ofL]
theorem ofL_ext (l : List UInt8) (a b : Nat) : (ofL l).extract a b = ofL ((l.drop a).take (b - a)) := by
  apply ByteArray.ext
  apply Array.ext_getElem?
  intro i
  rw [ByteArray.data_extract, Array.getElem?_extract, ofL_at, ofL_at, List.getElem?_take]
  have e1 : (ofL l).data.size = l.length := by simp [ofL]
  rw [e1, List.getElem?_drop]
  by_cases h : i < min b l.length - a
  · rw [if_pos h, if_pos (by omega)]
  · rw [if_neg h]
    by_cases h2 : i < b - a
    · rw [if_pos h2, List.getElem?_eq_none (by omega)]
    · rw [if_neg h2]
theorem parse_digits : ∀ (l : List UInt8) (acc : Nat), (∀ b ∈ l, isDig b) → (acc + 1) * 10 ^ l.length ≤ 1000000000000000000 → Lib.parseUint10 acc l = .ok (l.foldl (fun n b => n * 10 + (b.toNat - 48)) acc)
  | [], acc, _, _ => rfl
  | b :: l, acc, h, hb => by
    have hd := h b List.mem_cons_self
    unfold isDig at hd
    rw [List.length_cons, Nat.pow_succ] at hb
    have h1 : 1 ≤ 10 ^ l.length := Nat.one_le_pow _ _ (by omega)
    have h2 : (acc + 1) * 10 ≤ 1000000000000000000 := by
      have : (acc + 1) * 10 * 1 ≤ (acc + 1) * 10 * 10 ^ l.length := Nat.mul_le_mul_left _ h1
      have e : (acc + 1) * (10 ^ l.length * 10) = (acc + 1) * 10 * 10 ^ l.length := by rw [Nat.mul_comm (10 ^ l.length) 10, Nat.mul_assoc]
      omega
    rw [Lib.parseUint10, if_pos hd, if_neg (by omega), if_neg (by omega), List.foldl_cons]
    refine parse_digits l _ (fun c hc => h c (List.mem_cons_of_mem _ hc)) (Nat.le_trans (Nat.mul_le_mul_right _ (show acc * 10 + (b.toNat - 48) + 1 ≤ (acc + 1) * 10 by omega)) ?_)
    rw [Nat.mul_assoc, Nat.mul_comm 10 (10 ^ l.length)]; exact hb
theorem itoa_nn (u : Nat) : Lib.itoa (u : Int) = Lib.decDigits u := by
  have hn : ¬ (u : Int) < 0 := by omega
  rw [Lib.itoa, if_neg hn, Int.toNat_natCast]
theorem atoi_dec (u : Nat) (h : u ≤ 1000000) : Lib.atoiAll (Lib.decDigits u) = .ok (u : Int) := by
  have hv := dd_val u
  have hl := dd_len 6 u (by omega)
  have hp := dd_pos u
  have hd := dd_dig u
  generalize Lib.decDigits u = l at *
  match l, hp with
  | c :: r, _ =>
    have hc := hd c List.mem_cons_self
    unfold isDig at hc
    have hp10 : 10 ^ (c :: r).length ≤ 10 ^ 7 := Nat.pow_le_pow_right (by omega) hl
    have hk : Lib.parseUint10 0 (c :: r) = .ok u := by
      rw [parse_digits (c :: r) 0 hd (by omega)]
      exact congrArg _ hv
    have n1 : ¬ (c.toNat = 43 ∨ c.toNat = 45) := by omega
    have n2 : ¬ c.toNat = 45 := by omega
    have n4 : ¬ c.toNat = 43 := by omega
    have n3 : ¬ (9223372036854775808 ≤ u) := by omega
    simp only [Lib.atoiAll, if_neg n1, Lib.parseMag, hk, n2, n3, n4, or_self, reduceCtorEq, if_false, not_false_eq_true, and_false, false_and]
theorem rn_dec (u : Nat) (h : u ≤ 1000000) : rnB (dc u) = true ∧ rnN (dc u) = u := by
  have e : (dc u).data.toList = Lib.decDigits u := by rw [dc, ofL_toL, itoa_nn]
  rw [rnB, rnN, e, atoi_dec u h]
  exact ⟨by simp only [itoa_nn, decide_true], rfl⟩
theorem index_no {c : UInt8} : ∀ {l : List UInt8}, c ∉ l → Lib.indexByte l c = -1
  | [], _ => rfl
  | b :: l, h => by
    have h1 : (b == c) = false := beq_eq_false_iff_ne.2 fun e => h (e ▸ List.mem_cons_self)
    have h2 := index_no (c := c) (l := l) fun hm => h (List.mem_cons_of_mem _ hm)
    unfold Lib.indexByte
    rw [h1, h2]; rfl
theorem index_yes {c : UInt8} {r : List UInt8} : ∀ {l : List UInt8}, c ∉ l → Lib.indexByte (l ++ c :: r) c = l.length
  | [], _ => by simp [Lib.indexByte]
  | b :: l, h => by
    have h1 : (b == c) = false := beq_eq_false_iff_ne.2 fun e => h (e ▸ List.mem_cons_self)
    have h2 := index_yes (c := c) (r := r) (l := l) fun hm => h (List.mem_cons_of_mem _ hm)
    rw [List.cons_append]
    unfold Lib.indexByte
    have h3 : ((l.length : Int) == -1) = false := beq_eq_false_iff_ne.2 (by omega)
    rw [h1, h2, h3]
    simp
theorem splitL_no {c : UInt8} {l : List UInt8} (h : c ∉ l) : splitL (ofL l) c = [ofL l] := by
  have hi : Lib.indexB (ofL l) ⟨#[c]⟩ = -1 := by
    show Lib.index (ofL l).data.toList [c] = -1
    rw [ofL_toL, Lib.index_one]; exact index_no h
  rw [splitL, Lib.countB_miss _ _ hi, Lib.splitB_zero]
theorem splitL_hit {c : UInt8} {l r : List UInt8} (h : c ∉ l) : splitL (ofL (l ++ c :: r)) c = ofL l :: splitL (ofL r) c := by
  have hi : Lib.indexB (ofL (l ++ c :: r)) ⟨#[c]⟩ = (l.length : Int) := by
    show Lib.index (ofL (l ++ c :: r)).data.toList [c] = _
    rw [ofL_toL, Lib.index_one]; exact index_yes h
  have e1 : (ofL (l ++ c :: r)).extract 0 (l.length + 0) = ofL l := by rw [ofL_ext]; simp
  have e2 : (ofL (l ++ c :: r)).extract (l.length + (⟨#[c]⟩ : ByteArray).size) (ofL (l ++ c :: r)).size = ofL r := by
    rw [ofL_ext, ofL_size]
    have h1 : (⟨#[c]⟩ : ByteArray).size = 1 := rfl
    congr 1
    rw [h1, List.drop_append, List.drop_of_length_le (by omega), List.nil_append]
    have : l.length + 1 - l.length = 1 := by omega
    rw [this, List.drop_succ_cons, List.drop_zero]
    exact List.take_of_length_le (by rw [List.length_append, List.length_cons]; omega)
  have hc := Lib.countB_hit (ofL (l ++ c :: r)) ⟨#[c]⟩ l.length (Nat.le_refl 1) hi
  rw [e2] at hc
  rw [splitL, hc, Nat.add_comm, Lib.splitB_hit _ _ _ _ _ hi, e1, e2]
  rfl
/-! the lines -/
def dL (n : Int) : List UInt8 := Lib.itoa n
def lineL (x : LP) : List UInt8 := [115, 101, 97, 108] ++ 32 :: (dL x.num ++ 32 :: (dL x.first ++ 32 :: (dL x.next ++ 32 :: dL x.size)))
def endL (p : Pl) : List UInt8 := [111, 112, 101, 110] ++ 32 :: (dL p.opn ++ 32 :: dL p.first)
theorem lineB_L (x : LP) : (lineB x).data.toList = lineL x ++ [10] := by
  rw [lineB_eq]
  simp only [ba_data, dc, ofL_toL, lineL, dL]
  simp
theorem endB_L (p : Pl) : (endB p).data.toList = endL p ++ 10 :: [101, 110, 100, 10] := by
  rw [endB_eq]
  simp only [ba_data, dc, ofL_toL, endL, dL]
  simp
theorem dL_dig (n : Int) (h : 0 ≤ n) : ∀ b ∈ dL n, isDig b := by
  obtain ⟨u, rfl⟩ : ∃ u : Nat, n = u := ⟨n.toNat, (Int.toNat_of_nonneg h).symm⟩
  rw [dL, itoa_nn]; exact dd_dig u
theorem dL_no (n : Int) (h : 0 ≤ n) (c : UInt8) (hc : ¬ isDig c) : c ∉ dL n := fun hm => hc (dL_dig n h c hm)
theorem rn_dL (n : Int) (h : 0 ≤ n ∧ n ≤ 1000000) : rnB (ofL (dL n)) = true ∧ rnN (ofL (dL n)) = n := by
  obtain ⟨u, rfl⟩ : ∃ u : Nat, n = u := ⟨n.toNat, (Int.toNat_of_nonneg h.1).symm⟩
  exact rn_dec u (by omega)
theorem nd32 : ¬ isDig 32 := by decide
theorem nd10 : ¬ isDig 10 := by decide
theorem nb_seal {x : LP} (h : LPok x) : nbB (ofL (lineL x)) wSeal 4 = some [x.num, x.first, x.next, x.size] := by
  have h1 := rn_dL x.num ⟨by have := h.num; omega, by have := h.num; omega⟩
  have h2 := rn_dL x.first ⟨by have := h.first; omega, by have := h.first; omega⟩
  have h3 := rn_dL x.next ⟨by have := h.next; have := h.first; omega, h.next.2⟩
  have h4 := rn_dL x.size ⟨h.size.1, by have := h.size; omega⟩
  have n1 := dL_no x.num (by have := h.num; omega) 32 nd32
  have n2 := dL_no x.first (by have := h.first; omega) 32 nd32
  have n3 := dL_no x.next (by have := h.next; have := h.first; omega) 32 nd32
  have n4 := dL_no x.size h.size.1 32 nd32
  have hw : ofL [115, 101, 97, 108] = wSeal := rfl
  rw [nbB, lineL, splitL_hit (by decide), splitL_hit n1, splitL_hit n2, splitL_hit n3, splitL_no n4]
  simp only [hw, List.length_cons, List.length_nil, and_self, if_true, rdNums, h1, h2, h3, h4, Option.map_some]
theorem nb_open {a b : Int} (ha : 0 ≤ a ∧ a ≤ 1000000) (hb : 0 ≤ b ∧ b ≤ 1000000) {l : List UInt8} (hl : l = [111, 112, 101, 110] ++ 32 :: (dL a ++ 32 :: dL b)) : nbB (ofL l) wOpen 2 = some [a, b] ∧ nbB (ofL l) wSeal 4 = none := by
  have h1 := rn_dL a ha
  have h2 := rn_dL b hb
  have n1 := dL_no a ha.1 32 nd32
  have n2 := dL_no b hb.1 32 nd32
  have hw : ofL [111, 112, 101, 110] = wOpen := rfl
  have hne : ¬ wOpen = wSeal := by decide
  subst hl
  have hs : splitL (ofL ([111, 112, 101, 110] ++ 32 :: (dL a ++ 32 :: dL b))) 32 = [wOpen, ofL (dL a), ofL (dL b)] := by
    rw [splitL_hit (by decide), splitL_hit n1, splitL_no n2, hw]
  rw [nbB, nbB, hs]
  simp only [List.length_cons, List.length_nil, and_self, if_true, rdNums, h1, h2, Option.map_some, hne, false_and, if_false]
theorem nb_short (l : List UInt8) (h : 32 ∉ l) (w : ByteArray) (m : Nat) (hm : m ≠ 0) : nbB (ofL l) w m = none := by
  have hne : ¬ (0 = m) := fun e => hm e.symm
  rw [nbB, splitL_no h]
  simp only [List.length_nil, hne, and_false, if_false]
theorem lineL_no {x : LP} (h : LPok x) : (10 : UInt8) ∉ lineL x := by
  have n1 := dL_no x.num (by have := h.num; omega) 10 nd10
  have n2 := dL_no x.first (by have := h.first; omega) 10 nd10
  have n3 := dL_no x.next (by have := h.next; have := h.first; omega) 10 nd10
  have n4 := dL_no x.size h.size.1 10 nd10
  simp [lineL, n1, n2, n3, n4]
theorem endL_no {p : Pl} (h1 : 0 ≤ p.opn) (h2 : 0 ≤ p.first) : (10 : UInt8) ∉ endL p := by
  have n1 := dL_no p.opn h1 10 nd10
  have n2 := dL_no p.first h2 10 nd10
  simp [endL, n1, n2]
theorem fold_lines : ∀ (xs : List LP), (∀ x ∈ xs, LPok x) → ∀ (r : List UInt8) (q : Pl), (splitL (ofL (linesL xs ++ r)) 10).foldl rdLine q = (splitL (ofL r) 10).foldl rdLine ⟨q.parts ++ xs, q.opn, q.first⟩
  | [], _, r, q => by rw [List.append_nil]; rfl
  | x :: xs, h, r, q => by
    have hx := h x List.mem_cons_self
    have e : linesL (x :: xs) ++ r = lineL x ++ 10 :: (linesL xs ++ r) := by
      rw [linesL, List.flatMap_cons, lineB_L]
      simp [linesL]
    rw [e, splitL_hit (lineL_no hx), List.foldl_cons, rdLine_4 (nb_seal hx), fold_lines xs (fun y hy => h y (List.mem_cons_of_mem _ hy))]
    simp
theorem planT_L (p : Pl) : planT p = ofL (linesL p.parts ++ (endL p ++ 10 :: ([101, 110, 100] ++ 10 :: []))) := by
  rw [planT, endB_L]; rfl
/-- The program's way. -/
theorem pI_planT {p : Pl} (h : planOk p = true) : pI (planT p) = p := by
  obtain ⟨h1, h2, h3, h4⟩ := planOk_ok h
  obtain ⟨g1, g2⟩ := nb_open (a := p.opn) (b := p.first) ⟨by omega, by omega⟩ ⟨by omega, by omega⟩ rfl
  rw [pI, planT_L, fold_lines _ h2, splitL_hit (endL_no (by omega) (by omega)), List.foldl_cons]
  show List.foldl rdLine (rdLine _ (ofL ([111, 112, 101, 110] ++ 32 :: (dL p.opn ++ 32 :: dL p.first)))) _ = p
  rw [rdLine_2 g2 g1, splitL_hit (by decide), List.foldl_cons, splitL_no (by simp), List.foldl_cons, List.foldl_nil,
    rdLine_0 (nb_short _ (by decide) _ _ (by decide)) (nb_short _ (by decide) _ _ (by decide)),
    rdLine_0 (nb_short _ (by simp) _ _ (by decide)) (nb_short _ (by simp) _ _ (by decide))]
  rfl
end Go.V
set_option linter.unusedSimpArgs false
namespace Go.V
open Go.Proofs
/-- From place p on the text is this. -/
def At (s : ByteArray) (p : Nat) (L : List UInt8) : Prop := ∀ i, s.data[p + i]? = L[i]?
theorem At.app {s : ByteArray} {p : Nat} {l r : List UInt8} (h : At s p (l ++ r)) : At s (p + l.length) r := fun i => by
  have := h (l.length + i)
  rw [List.getElem?_append_right (by omega)] at this
  rw [Nat.add_assoc, this]
  congr 1; omega
theorem At.cons {s : ByteArray} {p : Nat} {b : UInt8} {r : List UInt8} (h : At s p (b :: r)) : At s (p + 1) r := fun i => by
  have := h (i + 1)
  rw [List.getElem?_cons_succ] at this
  rw [← this]; congr 1; omega
theorem At.all (L : List UInt8) : At (ofL L) 0 L := fun i => by rw [Nat.zero_add, ofL_at]
theorem nd_eq (s : ByteArray) : ∀ (k m p : Nat), m ≤ k → (∀ i, i < m → ∃ b, s.data[p + i]? = some b ∧ isDig b) → (∀ b, s.data[p + m]? = some b → ¬ isDig b) → nd s p k = m
  | 0, 0, _, _, _, _ => rfl
  | 0, m + 1, _, h, _, _ => by omega
  | k + 1, 0, p, _, _, h => by
    unfold nd
    rw [Nat.add_zero] at h
    split
    · rename_i b hb
      rw [if_neg (h b hb)]
    · rfl
  | k + 1, m + 1, p, hm, hd, h => by
    obtain ⟨b, h1, h2⟩ := hd 0 (by omega)
    rw [Nat.add_zero] at h1
    unfold nd
    rw [h1]
    simp only [if_pos h2]
    rw [nd_eq s k m (p + 1) (by omega) (fun i hi => by obtain ⟨c, h3, h4⟩ := hd (i + 1) (by omega); exact ⟨c, by rw [← h3]; congr 1; omega, h4⟩) (fun b hb => h b (by rw [← hb]; congr 1; omega))]
theorem vl_eq {s : ByteArray} {p : Nat} {l r : List UInt8} (h : At s p (l ++ r)) : ∀ i, i ≤ l.length → vl s p i = valL (l.take i)
  | 0, _ => by rw [List.take_zero]; rfl
  | i + 1, hi => by
    have h1 : i < l.length := by omega
    have h2 : s.data[p + i]? = some l[i] := by rw [h i, List.getElem?_append_left h1, List.getElem?_eq_getElem h1]
    rw [vl, vl_eq h i (by omega), h2, Option.getD_some, take_snoc (List.getElem?_eq_getElem h1), valL_snoc]
theorem num_at {s : ByteArray} {p : Nat} {n : Int} {c : UInt8} {r : List UInt8} (hn : 0 ≤ n ∧ n ≤ 1000000) (hc : ¬ isDig c) (h : At s p (dL n ++ c :: r)) :
    nd s p 7 = (dL n).length ∧ ((vl s p (dL n).length : Nat) : Int) = n ∧ At s (p + (dL n).length + 1) r := by
  have hd := dL_dig n hn.1
  have h2 : At s (p + (dL n).length) (c :: r) := h.app
  refine ⟨nd_eq s 7 _ p ?_ (fun i hi => ?_) (fun b hb => ?_), ?_, h2.cons⟩
  · obtain ⟨u, rfl⟩ : ∃ u : Nat, n = u := ⟨n.toNat, (Int.toNat_of_nonneg hn.1).symm⟩
    rw [dL, itoa_nn]; exact dd_len 6 u (by omega)
  · exact ⟨(dL n)[i], by rw [h i, List.getElem?_append_left hi, List.getElem?_eq_getElem hi], hd _ (List.getElem_mem hi)⟩
  · have := h2 0
    rw [Nat.add_zero, hb] at this
    cases this
    exact hc
  · rw [vl_eq h _ (Nat.le_refl _), List.take_length]
    obtain ⟨u, rfl⟩ : ∃ u : Nat, n = u := ⟨n.toNat, (Int.toNat_of_nonneg hn.1).symm⟩
    rw [dL, itoa_nn, dd_val]
theorem nus_step {s : ByteArray} {p i q : Nat} {l : List Int} {n : Int} {c : UInt8} {r : List UInt8} (h0 : nus s p i = (l, q)) (hn : 0 ≤ n ∧ n ≤ 1000000) (hc : ¬ isDig c) (h : At s q (dL n ++ c :: r)) :
    nus s p (i + 1) = (l ++ [n], q + (dL n).length + 1) ∧ At s (q + (dL n).length + 1) r := by
  obtain ⟨h1, h2, h3⟩ := num_at hn hc h
  refine ⟨?_, h3⟩
  rw [nus, h0]
  simp only [h1, h2]
theorem seal_at {s : ByteArray} {a : Nat} {r : List UInt8} (h : At s a ([115, 101, 97, 108, 32] ++ r)) : isSeal s a := by
  have h4 := h 4
  have hlt : a + 4 < s.data.size := by
    rcases Nat.lt_or_ge (a + 4) s.data.size with h | h
    · exact h
    · rw [Array.getElem?_eq_none h] at h4; simp at h4
  refine ⟨by rw [size_data]; omega, ?_⟩
  apply ByteArray.ext
  apply Array.ext_getElem?
  intro i
  rw [ByteArray.data_extract, Array.getElem?_extract]
  by_cases hi : i < 5
  · rw [if_pos (by omega), h i, List.getElem?_append_left (by simpa using hi)]
    match i, hi with
    | 0, _ | 1, _ | 2, _ | 3, _ | 4, _ => rfl
  · rw [if_neg (by omega)]
    exact (Array.getElem?_eq_none (by show 5 ≤ i; omega)).symm
theorem open_at {s : ByteArray} {a : Nat} {r : List UInt8} (h : At s a (111 :: r)) : ¬ isSeal s a := by
  rintro ⟨h1, h2⟩
  have h3 : (s.extract a (a + 5)).data[0]? = some 115 := by rw [h2]; rfl
  rw [ByteArray.data_extract, Array.getElem?_extract] at h3
  split at h3
  · have := h 0
    rw [h3] at this
    simp at this
  · cases h3
theorem linesL_cons (x : LP) (xs : List LP) : linesL (x :: xs) = [115, 101, 97, 108, 32] ++ (dL x.num ++ 32 :: (dL x.first ++ 32 :: (dL x.next ++ 32 :: (dL x.size ++ 10 :: linesL xs)))) := by
  rw [linesL, List.flatMap_cons, lineB_L, lineL]
  simp [linesL]
theorem slS_at {s : ByteArray} {r : List UInt8} : ∀ (xs : List LP), (∀ x ∈ xs, LPok x) → ∀ (k : Nat) (ps : List LP) (a : Nat), xs.length ≤ k → At s a (linesL xs ++ 111 :: r) → ∃ b, slS s k ps a = (ps ++ xs, b) ∧ At s b (111 :: r)
  | [], _, k, ps, a, _, h => ⟨a, by rw [slS_no (open_at h), List.append_nil], h⟩
  | x :: xs, hx, 0, ps, a, hk, _ => by simp at hk
  | x :: xs, hx, k + 1, ps, a, hk, h => by
    have hok := hx x List.mem_cons_self
    obtain ⟨o1, o2, o3, o4⟩ := hok
    rw [linesL_cons] at h
    simp only [List.append_assoc, List.cons_append] at h
    have hs := seal_at (r := dL x.num ++ 32 :: (dL x.first ++ 32 :: (dL x.next ++ 32 :: (dL x.size ++ 10 :: (linesL xs ++ 111 :: r))))) (by simpa using h)
    have h5 : At s (a + 5) (dL x.num ++ 32 :: (dL x.first ++ 32 :: (dL x.next ++ 32 :: (dL x.size ++ 10 :: (linesL xs ++ 111 :: r))))) := At.app (l := [115, 101, 97, 108, 32]) (by simpa using h)
    obtain ⟨e1, a1⟩ := nus_step (p := a + 5) (i := 0) rfl ⟨by omega, by omega⟩ nd32 h5
    obtain ⟨e2, a2⟩ := nus_step e1 ⟨by omega, by omega⟩ nd32 a1
    obtain ⟨e3, a3⟩ := nus_step e2 ⟨by omega, by omega⟩ nd32 a2
    obtain ⟨e4, a4⟩ := nus_step e3 ⟨by omega, by omega⟩ nd10 a3
    obtain ⟨b, g1, g2⟩ := slS_at xs (fun y hy => hx y (List.mem_cons_of_mem _ hy)) k (ps ++ [x]) _ (by rw [List.length_cons] at hk; omega) a4
    refine ⟨b, ?_, g2⟩
    rw [slS, if_pos hs]
    have e4' : nus s (a + 5) 4 = _ := e4
    rw [e4']
    simp only [List.nil_append, List.cons_append, lpOf]
    rw [g1, List.append_assoc]; rfl
/-- The reference's way. -/
theorem pS_planT {p : Pl} (h : planOk p = true) : pS (planT p) = some p := by
  obtain ⟨h1, h2, h3, h4⟩ := planOk_ok h
  have h0 : At (planT p) 0 (linesL p.parts ++ 111 :: ([112, 101, 110] ++ 32 :: (dL p.opn ++ 32 :: (dL p.first ++ 10 :: [101, 110, 100, 10])))) := by
    have e : linesL p.parts ++ (endL p ++ 10 :: ([101, 110, 100] ++ 10 :: [])) = linesL p.parts ++ 111 :: ([112, 101, 110] ++ 32 :: (dL p.opn ++ 32 :: (dL p.first ++ 10 :: [101, 110, 100, 10]))) := by simp [endL]
    rw [planT_L, e]; exact At.all _
  obtain ⟨b, g1, g2⟩ := slS_at p.parts h2 41 [] 0 (by omega) h0
  have g5 : At (planT p) (b + 5) (dL p.opn ++ 32 :: (dL p.first ++ 10 :: [101, 110, 100, 10])) := At.app (l := [111, 112, 101, 110, 32]) (by simpa using g2)
  obtain ⟨e1, a1⟩ := nus_step (p := b + 5) (i := 0) rfl ⟨by omega, by omega⟩ nd32 g5
  obtain ⟨e2, a2⟩ := nus_step e1 ⟨by omega, by omega⟩ nd10 a1
  have hsz : b + 5 ≤ (planT p).size := by
    have h4 := g2 4
    rcases Nat.lt_or_ge (b + 4) (planT p).data.size with h | h
    · rw [size_data]; omega
    · rw [Array.getElem?_eq_none h] at h4; simp at h4
  have e2' : nus (planT p) (b + 5) 2 = _ := e2
  rw [pS, g1]
  simp only [if_pos hsz, e2', List.nil_append, List.cons_append]
/-- What is read as a plan. -/
def rd (text : ByteArray) : Pl × Bool := rdI text
theorem planT_ne {p : Pl} : planT p ≠ ⟨#[]⟩ := fun h => by
  have := congrArg ByteArray.size h
  rw [planT_end, endB_eq] at this
  simp only [ByteArray.size_append, sz_end] at this
  have e : (⟨#[]⟩ : ByteArray).size = 0 := rfl
  omega
theorem planW_text {p : Pl} {text : ByteArray} (h : planW p = text) (ht : text ≠ ⟨#[]⟩) : planOk p = true ∧ planT p = text := by
  unfold planW at h
  split at h
  · rename_i ho; exact ⟨ho, h⟩
  · exact absurd h.symm ht
theorem rdI_pos {p : Pl} (h : planOk p = true) : rdI (planT p) = (p, true) := by
  have e := pI_planT h
  rw [rdI, e, if_pos ⟨by rw [planW, if_pos h], planT_ne⟩]
/-- Both ways read the same. -/
theorem rdS_eq (text : ByteArray) : rdS text = rd text := by
  by_cases hz : text = ⟨#[]⟩
  · subst hz
    have h1 : rd ⟨#[]⟩ = (zPl, false) := by unfold rd rdI; exact if_neg fun h => h.2 rfl
    rw [h1]
    exact rdS_short (ps := []) (a := 0) (slS_no (fun h => by have := h.1; have e : (⟨#[]⟩ : ByteArray).size = 0 := rfl; omega) _ _) (fun h => by have e : (⟨#[]⟩ : ByteArray).size = 0 := rfl; omega)
  · unfold rd
    have hI : ∀ p, planOk p = true → planT p = text → rdI text = (p, true) := fun p hp ht => ht ▸ rdI_pos hp
    unfold rdS
    cases hs : pS text with
    | none =>
      simp only
      unfold rdI
      split
      · rename_i hc
        obtain ⟨h1, h2⟩ := planW_text hc.1 hz
        rw [← h2, pS_planT h1] at hs
        cases hs
      · rfl
    | some p =>
      simp only
      split
      · rename_i hc
        obtain ⟨h1, h2⟩ := planW_text hc hz
        exact (hI p h1 h2).symm
      · rename_i hn
        unfold rdI
        split
        · rename_i hc
          obtain ⟨h1, h2⟩ := planW_text hc.1 hz
          rw [← h2, pS_planT h1] at hs
          cases hs
          exact absurd hc.1 hn
        · rfl
theorem rd_ok {text : ByteArray} {p : Pl} (h : rd text = (p, true)) : planOk p = true ∧ planT p = text := by
  unfold rd rdI at h
  split at h
  · rename_i hc
    cases h
    exact planW_text hc.1 hc.2
  · cases h
end Go.V
set_option linter.unusedSimpArgs false
set_option maxRecDepth 20000
namespace Go.V
open Go.Proofs
/-! Names of files, and what is read of them. -/
theorem rn_of {x : ByteArray} (h : rnB x = true) : dc (rnN x) = x := by
  unfold rnB at h
  unfold rnN
  cases ha : Lib.atoiAll x.data.toList with
  | ok v =>
    rw [ha] at h
    have h' : Lib.itoa v = x.data.toList := of_decide_eq_true h
    show ofL (Lib.itoa v) = x
    rw [h']; exact ofL_data x
  | _ => rw [ha] at h; cases h
theorem vl_of {s : ByteArray} {n : Nat} (h : dc n = s.extract 1 s.size) (h0 : 1 ≤ s.size) : vl s 1 (s.size - 1) = n := by
  have e : (s.extract 1 s.size).data.toList = Lib.decDigits n := by rw [← h, dc, ofL_toL, itoa_nn]
  have hA : At s 1 (Lib.decDigits n ++ []) := fun i => by
    rw [List.append_nil, ← e, Array.getElem?_toList]
    by_cases hi : 1 + i < s.size
    · rw [ext_at s 1 i hi]
    · rw [Array.getElem?_eq_none (by rw [← size_data]; omega), Array.getElem?_eq_none (by rw [← size_data, ext_size]; omega)]
  have hl : (Lib.decDigits n).length = s.size - 1 := by rw [← e, Array.length_toList, ← size_data, ext_size]
  rw [← hl, vl_eq hA _ (Nat.le_refl _), List.take_length, dd_val]
theorem numOf_rn {s : ByteArray} {l : UInt8} (h0 : s.data[0]? = some l) : numOf l s = if rnB (s.extract 1 s.size) = true ∧ 1 ≤ rnN (s.extract 1 s.size) ∧ rnN (s.extract 1 s.size) ≤ 999999 then rnN (s.extract 1 s.size) else 0 := by
  have hsz : 1 ≤ s.size := by
    have := (Array.getElem?_eq_some_iff.1 h0).1
    rw [← size_data] at this; omega
  unfold numOf
  split
  · rename_i g
    obtain ⟨_, g1, g2⟩ := g
    obtain ⟨r1, r2⟩ := rn_dec _ (show vl s 1 (s.size - 1) ≤ 1000000 by omega)
    rw [g2] at r1 r2
    rw [r1, r2]
    split
    · rfl
    · rename_i hn
      have : ¬ (1 ≤ ((vl s 1 (s.size - 1) : Nat) : Int)) := fun h => hn ⟨rfl, h, by omega⟩
      omega
  · rename_i g
    split
    · rename_i hc
      obtain ⟨c1, c2, c3⟩ := hc
      obtain ⟨n, hn⟩ : ∃ n : Nat, rnN (s.extract 1 s.size) = n := ⟨_, (Int.toNat_of_nonneg (by omega)).symm⟩
      have hd := rn_of c1
      rw [hn] at hd c3
      have hv := vl_of hd hsz
      exact absurd ⟨h0, by omega, by rw [hv]; exact hd⟩ g
    · rfl
def ok97 := okF.gu (P := Tryz.prog) tab Tryz.func97 Tryz.ntmps97 (by conv => lhs; cbv) (by kernel_rfl)
theorem numI_ok (s : ByteArray) (l : UInt8) (hs : s.size ≤ 1000000000) : ACallsF Tryz.prog 97 [tS s, .s (.int .u8 l.toNat)] [] (.i (numOf l s)) := by
  refine ACallsF.intro ok97 follows fun X c0 => ?_
  by_cases hz : s = ⟨#[]⟩
  · have e : numOf l s = 0 := if_neg fun h => by have := h.1; rw [hz] at this; cases this
    simp only [go_sem, sStr, str_beq, hz, decide_true]
    rw [← hz, e]
  have hsz : 1 ≤ s.size := by
    rcases Nat.eq_zero_or_pos s.size with h | h
    · exact absurd (ByteArray.ext (Array.eq_empty_of_size_eq_zero (by rw [← size_data]; exact h))) hz
    · exact h
  obtain ⟨b, hb⟩ : ∃ b, s.data[0]? = some b := ⟨_, Array.getElem?_eq_getElem (by rw [← size_data]; omega)⟩
  by_cases kl : b = l
  rotate_left
  · have k2 : ((b.toNat : Int) != l.toNat) = true := by
      rw [bne_iff_ne]; intro h; exact kl (UInt8.toNat_inj.1 (by omega))
    have e : numOf l s = 0 := if_neg fun h => kl (by have := h.1; rw [hb] at this; exact Option.some.inj this)
    simp only [go_sem, sStr, str_beq, hz, decide_false, hb, k2, KI, e]
  subst kl
  have k2 : ((b.toNat : Int) != b.toNat) = false := by simp
  have k5 : (1 : Int) ≤ s.size := by omega
  have e := numOf_rn hb
  have hx := rnN_in (s.extract 1 s.size)
  have hC := readNum_ok (s.extract 1 s.size) (by rw [ext_size]; omega)
  generalize hxx : s.extract 1 s.size = x at *
  simp only [go_sem, sStr, str_beq, hz, decide_false, hb, k2, KI, lohi, k5, Int.le_refl, and_self, hxx]
  refine callC hC rfl rfl rfl rfl ?_
  cases r1 : rnB x with
  | false =>
    rw [r1, if_neg (by simp)] at e
    simp only [go_sem, e]
  | true =>
    simp only [go_sem]
    refine callC (inRange_ok _ _ _) rfl rfl rfl rfl ?_
    by_cases r2 : (decide (1 ≤ rnN x) && decide (rnN x ≤ 999999)) = true
    · have r3 := r2
      rw [Bool.and_eq_true, decide_eq_true_eq, decide_eq_true_eq] at r3
      rw [if_pos ⟨r1, r3⟩] at e
      simp only [go_sem, r2, e]
    · have r3 := r2
      rw [Bool.and_eq_true, decide_eq_true_eq, decide_eq_true_eq] at r3
      rw [if_neg fun h => r3 h.2] at e
      rw [Bool.not_eq_true] at r2
      simp only [go_sem, r2, e]
/-- The name of a segment's file, and of a plan's. -/
def seg (n : Int) : ByteArray := ⟨#[115]⟩ ++ dc n
theorem fits1 (c : UInt8) (n : Int) (h : i64 n) : fits ⟨#[c]⟩ (dc n) := by
  have h1 : (⟨#[c]⟩ : ByteArray).size = 1 := rfl
  have := dc_le n h
  rw [fits, h1]; omega
def ok79 := okF.gu (P := Tryz.prog) tab Tryz.func79 Tryz.ntmps79 (by conv => lhs; cbv) (by kernel_rfl)
theorem seg_ok (n : Int) (h : i64 n) : ACallsF Tryz.prog 79 [.i n] [] (tS (seg n)) := by
  unfold seg
  have f1 := fits1 115 n h
  refine ACallsF.intro ok79 follows fun X c0 => ?_
  simp only [go_sem]
  refine callC (itoa_ok n h) rfl rfl rfl rfl ?_
  simp only [go_sem, sStr, f1]
/-- The names that are there. -/
def th (d : Dk) : List ByteArray := aft d.names d.moves
theorem th_len {d : Dk} (hD : DOk d) : (th d).length ≤ 1000 := by
  have := aft_len d.moves d.names
  have := hD.n
  have := hD.m
  rw [th]; omega
theorem thS_ok (d : Dk) (hD : DOk d) : ACallsF Tryz.prog 65 [tDk d] [] (tL (en eS (th d))) := by
  obtain ⟨b, hb, hC⟩ := okS_ok d hD.fine
  rw [hb.2 hD] at hC
  have hA := after_ok d hD.fine.s d.moves.length (Nat.le_refl _) 1001
  rw [List.take_length] at hA
  unfold th
  refine ACallsF.intro ok65 follows fun X c0 => ?_
  simp only [go_sem]
  refine callC hC rfl rfl rfl rfl ?_
  simp only [go_sem]
  refine callA1 (m := 1001) (ws := []) (ns := []) hA rfl rfl rfl (en_flat eS eS_flat _) ⟨rfl, ?_⟩
  simp only [go_sem, imp_self]
theorem thI_ok (d : Dk) (hD : DOk d) : ACallsF Tryz.prog 96 [tDk d] [] (tL (en eS (th d))) := by
  have hA := namesI_ok d hD.fine.s d.moves.length (Nat.le_refl _) 1009
  have hN := hD.nmI d.moves.length (Nat.le_refl _)
  rw [List.take_length] at hA hN
  rw [hN] at hA
  unfold th
  refine ACallsF.intro ok96 follows fun X c0 => ?_
  simp only [go_sem]
  refine callA1 (m := 1009) (ws := []) (ns := []) hA rfl rfl rfl (en_flat eS eS_flat _) ⟨rfl, ?_⟩
  simp only [go_sem, en_take2, imp_self, Nat.le_add_right]
/-- What is read of a file. -/
def lk (d : Dk) (nm : ByteArray) : Option ByteArray := if has (th d) nm = true then some (fileOf d.files nm).data else none
abbrev tSB (x : Option ByteArray) : T := .tup [.one (.v (.s (.string (x.getD ⟨#[]⟩)))), .one (.v (.s (.bool x.isSome)))]
theorem lk_file {d : Dk} (hD : DOk d) {nm : ByteArray} (hm : nm ∈ th d) : ∃ i : Nat, fnd d.files nm = i ∧ d.files[i]? = some (fileOf d.files nm) ∧ (fileOf d.files nm).name = nm :=
  hD.find (DOk.aft_made (n := d.moves.length) (by rw [List.take_length]; exact hm))
def ok37 := okF.gu (P := Tryz.prog) tab Tryz.func37 Tryz.ntmps37 (by conv => lhs; cbv) (by kernel_rfl)
theorem lkS_ok (d : Dk) (hD : DOk d) (nm : ByteArray) : ACallsF Tryz.prog 37 [tDk d, tS nm] [] (tSB (lk d nm)) := by
  have hl := th_len hD
  have h2 := has_ok (th d) nm (by omega)
  have hs := hD.fine.s.f
  have hC := thS_ok d hD
  by_cases hm : nm ∈ th d
  · rw [has_true.2 hm] at h2
    have h3 := find_ok d.files nm (by omega)
    obtain ⟨i, k1, k2, k3⟩ := lk_file hD hm
    rw [k1] at h3
    have ex := en_at eF k2
    have gz : (0 : Int) ≤ i := by omega
    rw [lk, if_pos (has_true.2 hm)]
    refine ACallsF.intro ok37 follows fun X c0 => ?_
    simp only [go_sem]
    refine callC hC rfl rfl rfl rfl ?_
    simp only [go_sem]
    refine callC h2 rfl rfl rfl rfl ?_
    simp only [go_sem]
    refine callC h3 rfl rfl rfl rfl ?_
    simp only [go_sem, ex, gz, eF, Option.getD_some, Option.isSome_some]
  · rw [has_false.2 hm] at h2
    rw [lk, if_neg (by rw [has_false.2 hm]; decide)]
    refine ACallsF.intro ok37 follows fun X c0 => ?_
    simp only [go_sem]
    refine callC hC rfl rfl rfl rfl ?_
    simp only [go_sem]
    refine callC h2 rfl rfl rfl rfl ?_
    simp only [go_sem, Option.getD_none, Option.isSome_none]
def ok78 := okF.gu (P := Tryz.prog) tab Tryz.func78 Tryz.ntmps78 (by conv => lhs; cbv) (by kernel_rfl)
theorem lkI_ok (d : Dk) (hD : DOk d) (nm : ByteArray) : ACallsF Tryz.prog 78 [tDk d, tS nm] [] (tSB (lk d nm)) := by
  have hl := th_len hD
  have h2 := contains_ok (th d) nm (by omega)
  have hs := hD.fine.s.f
  have hC := thI_ok d hD
  by_cases hm : nm ∈ th d
  · rw [has_true.2 hm] at h2
    have h3 := fileAt_ok d nm (by omega)
    obtain ⟨i, k1, k2, k3⟩ := lk_file hD hm
    rw [k1] at h3
    have ex := en_at eF k2
    have gz : (0 : Int) ≤ i := by omega
    rw [lk, if_pos (has_true.2 hm)]
    refine ACallsF.intro ok78 follows fun X c0 => ?_
    simp only [go_sem]
    refine callC hC rfl rfl rfl rfl ?_
    simp only [go_sem]
    refine callC h2 rfl rfl rfl rfl ?_
    simp only [go_sem]
    refine callC h3 rfl rfl rfl rfl ?_
    simp only [go_sem, ex, gz, eF, Option.getD_some, Option.isSome_some]
  · rw [has_false.2 hm] at h2
    rw [lk, if_neg (by rw [has_false.2 hm]; decide)]
    refine ACallsF.intro ok78 follows fun X c0 => ?_
    simp only [go_sem]
    refine callC hC rfl rfl rfl rfl ?_
    simp only [go_sem]
    refine callC h2 rfl rfl rfl rfl ?_
    simp only [go_sem, Option.getD_none, Option.isSome_none]
end Go.V
set_option linter.unusedSimpArgs false
set_option maxRecDepth 20000
namespace Go.V
open Go.Proofs
/-! The newest plan. -/
theorem th_size {d : Dk} (hD : DOk d) {nm : ByteArray} (hm : nm ∈ th d) : nm.size ≤ 8 := by
  obtain ⟨i, k1, k2, k3⟩ := lk_file hD hm
  have h := (hD.files i _ k2).name
  rw [k3] at h
  simp only [nameOk, Bool.and_eq_true, decide_eq_true_eq] at h
  exact h.1.1.2
theorem lk_size {d : Dk} (hD : DOk d) {nm x : ByteArray} (h : lk d nm = some x) : x.size ≤ 20000 := by
  unfold lk at h
  split at h
  · rename_i hm
    cases h
    obtain ⟨i, k1, k2, k3⟩ := lk_file hD (has_true.1 hm)
    exact (hD.files i _ k2).data
  · cases h
theorem lk_size0 {d : Dk} (hD : DOk d) (nm : ByteArray) : ((lk d nm).getD ⟨#[]⟩).size ≤ 20000 := by
  cases h : lk d nm with
  | none => exact Nat.zero_le _
  | some x => exact lk_size hD h
theorem numOf_le (l : UInt8) (s : ByteArray) : 0 ≤ numOf l s ∧ numOf l s ≤ 999999 := by
  unfold numOf
  split
  · rename_i h; omega
  · omega
def npStep (d : Dk) (st : Pl × Int) (nm : ByteArray) : Pl × Int := if numOf 109 nm > st.2 then (if (rd ((lk d nm).getD ⟨#[]⟩)).2 = true then ((rd ((lk d nm).getD ⟨#[]⟩)).1, numOf 109 nm) else st) else st
/-- The newest plan, and its number. -/
def np (d : Dk) : Pl × Int := (th d).foldl (npStep d) (zPl, 0)
def npOk (st : Pl × Int) : Prop := (st.1 = zPl ∧ st.2 = 0) ∨ (planOk st.1 = true ∧ 1 ≤ st.2 ∧ st.2 ≤ 999999)
theorem npStep_ok {d : Dk} {st : Pl × Int} (h : npOk st) (nm : ByteArray) : npOk (npStep d st nm) := by
  unfold npStep
  split
  · rename_i h1
    split
    · rename_i h2
      have hle := numOf_le 109 nm
      generalize hr : rd ((lk d nm).getD ⟨#[]⟩) = r at h2 ⊢
      obtain ⟨p, b⟩ := r
      simp only at h2
      subst h2
      refine .inr ⟨(rd_ok hr).1, ?_, hle.2⟩
      rcases h with ⟨_, h0⟩ | ⟨_, h0, _⟩ <;> (simp only; omega)
    · exact h
  · exact h
theorem fold_ok {d : Dk} : ∀ (l : List ByteArray) {st : Pl × Int}, npOk st → npOk (l.foldl (npStep d) st)
  | [], _, h => h
  | x :: l, _, h => fold_ok l (npStep_ok h x)
theorem np_ok (d : Dk) : npOk (np d) := fold_ok _ (.inl ⟨rfl, rfl⟩)
abbrev tPN (r : Pl × Int) : T := .tup [.agg (cPl r.1), .one (.v (.s (.int .i64 r.2)))]
def plC (pc : C) (p : Pl) : Prop := pc = .v (.sl (en eP p.parts)) ∨ (pc = .nil0 ∧ p.parts = [])
def ok35 := okF.gu (P := Tryz.prog) tab Tryz.func35 Tryz.ntmps35 (by conv => lhs; cbv) (by kernel_rfl)
def inv35 (d : Dk) (i : Nat) (σ : St) : Prop := (∃ u, σ.t 1 = .c (.ptr 1 u 0) ∧ σ.H 1 = some (.var u 35 (cDk d))) ∧ (∃ u, σ.t 2 = .c (.ptr 2 u 0) ∧ σ.H 2 = some (.var u 47 [.nil0, .v (.s (.int .i64 0)), .v (.s (.int .i64 0))])) ∧ σ.t 4 = tL (en eS (th d)) ∧ σ.t 7 = .i i ∧
  ∃ st u pc, st = ((th d).take i).foldl (npStep d) (zPl, 0) ∧ plC pc st.1 ∧ σ.t 6 = .i st.2 ∧ σ.t 5 = .c (.ptr 5 u 0) ∧ σ.H 5 = some (.var u 47 [pc, .v (.s (.int .i64 st.1.opn)), .v (.s (.int .i64 st.1.first))])
set_option maxHeartbeats 1000000 in
theorem npS_ok (d : Dk) (hD : DOk d) : ACallsF Tryz.prog 35 [tDk d] [] (tPN (np d)) := by
  have hl := th_len hD
  refine ACallsF.intro ok35 follows fun X c0 => ?_
  simp only [go_sem]
  refine callC (thS_ok d hD) rfl rfl rfl rfl ?_
  simp only [go_sem]
  refine AW.upto (th d).length (inv35 d) ⟨⟨_, rfl, rfl⟩, ⟨_, rfl, rfl⟩, rfl, rfl, _, _, _, rfl, .inr ⟨rfl, rfl⟩, rfl, rfl, rfl⟩ fun i t H c hi h => ?_
  obtain ⟨⟨u1, e1, eH1⟩, ⟨u2, e2, eH2⟩, e4, e7, st, u5, pc, hst, hpc, e6, e5, eH5⟩ := h
  simp only [T.c, T.i, T.s, tL] at e1 eH1 e2 eH2 e4 e7 e6 e5 eH5
  by_cases hlt : i < (th d).length
  · obtain ⟨x, hx⟩ : ∃ x, (th d)[i]? = some x := ⟨_, List.getElem?_eq_getElem hlt⟩
    have ex := en_at eS hx
    have gx : (0 : Int) ≤ i := by omega
    have k5 : (i : Int) < (th d).length := by omega
    have gw : IntKind.i64.wrap ((i : Int) + 1) = ((i + 1 : Nat) : Int) := wrap64 (x := (i : Int) + 1) ⟨by omega, by omega⟩
    have hxs := th_size hD (List.mem_of_getElem? hx)
    have hf := foldl_take (npStep d) (zPl, 0) hx
    rw [← hst] at hf
    have hC := num43_ok x 109 (by omega)
    have hR := rdS_ok ((lk d x).getD ⟨#[]⟩) (by have := lk_size0 hD x; omega)
    rw [rdS_eq] at hR
    simp only [go_sem, e4, e7, k5, gx, ex, eS]
    refine callC hC rfl rfl rfl rfl ?_
    by_cases k1 : numOf 109 x > st.2
    · simp only [go_sem, e1, eH1, e4, e6, e7, k1, gx, ex, eS]
      refine callC (lkS_ok d hD x) rfl rfl rfl rfl ?_
      simp only [go_sem]
      refine callC hR rfl rfl rfl rfl ?_
      cases k2 : (rd ((lk d x).getD ⟨#[]⟩)).2 with
      | true =>
        have hs : npStep d st x = ((rd ((lk d x).getD ⟨#[]⟩)).1, numOf 109 x) := by rw [npStep, if_pos k1, if_pos k2]
        simp only [go_sem, k2, e5, eH5, e7, gw]
        exact ⟨hlt, ⟨u1, e1, eH1⟩, ⟨u2, e2, eH2⟩, e4, rfl, _, u5, _, by rw [hf, hs], .inl rfl, rfl, e5, rfl⟩
      | false =>
        have hs : npStep d st x = st := by rw [npStep, if_pos k1, if_neg (by rw [k2]; decide)]
        simp only [go_sem, k2, e7, gw]
        exact ⟨hlt, ⟨u1, e1, eH1⟩, ⟨u2, e2, eH2⟩, e4, rfl, st, u5, pc, by rw [hf, hs], hpc, e6, e5, eH5⟩
    · have hs : npStep d st x = st := by rw [npStep, if_neg k1]
      simp only [go_sem, e6, e7, k1, gw]
      exact ⟨hlt, ⟨u1, e1, eH1⟩, ⟨u2, e2, eH2⟩, e4, rfl, st, u5, pc, by rw [hf, hs], hpc, e6, e5, eH5⟩
  · have hi2 : i = (th d).length := by omega
    subst hi2
    have k5 : ¬ ((th d).length : Int) < (th d).length := by omega
    rw [List.take_length] at hst
    have hn : np d = st := hst.symm
    rw [hn]
    rcases hpc with rfl | ⟨rfl, hp0⟩
    · simp only [go_sem, e2, eH2, e4, e7, k5, e5, eH5, e6]
    · simp only [go_sem, e2, eH2, e4, e7, k5, e5, eH5, e6, hp0]
def ok76 := okF.gu (P := Tryz.prog) tab Tryz.func76 Tryz.ntmps76 (by conv => lhs; cbv) (by kernel_rfl)
def inv76 (d : Dk) (i : Nat) (σ : St) : Prop := (∃ u, σ.t 1 = .c (.ptr 1 u 0) ∧ σ.H 1 = some (.var u 35 (cDk d))) ∧ (∃ u, σ.t 2 = .c (.ptr 2 u 0) ∧ σ.H 2 = some (.var u 47 [.nil0, .v (.s (.int .i64 0)), .v (.s (.int .i64 0))])) ∧ σ.t 15 = tL (en eS (th d)) ∧ σ.t 16 = .i (th d).length ∧ σ.t 17 = .i i ∧
  ∃ st u pc, st = ((th d).take i).foldl (npStep d) (zPl, 0) ∧ plC pc st.1 ∧ σ.t 5 = .i st.2 ∧ σ.t 4 = .c (.ptr 4 u 0) ∧ σ.H 4 = some (.var u 47 [pc, .v (.s (.int .i64 st.1.opn)), .v (.s (.int .i64 st.1.first))])
set_option maxHeartbeats 1000000 in
theorem npI_ok (d : Dk) (hD : DOk d) : ACallsF Tryz.prog 76 [tDk d] [] (tPN (np d)) := by
  have hl := th_len hD
  refine ACallsF.intro ok76 follows fun X c0 => ?_
  simp only [go_sem]
  refine callC (thI_ok d hD) rfl rfl rfl rfl ?_
  simp only [go_sem]
  refine AW.upto (th d).length (inv76 d) ⟨⟨_, rfl, rfl⟩, ⟨_, rfl, rfl⟩, rfl, rfl, rfl, _, _, _, rfl, .inr ⟨rfl, rfl⟩, rfl, rfl, rfl⟩ fun i t H c hi h => ?_
  obtain ⟨⟨u1, e1, eH1⟩, ⟨u2, e2, eH2⟩, e15, e16, e17, st, u4, pc, hst, hpc, e5, e4, eH4⟩ := h
  simp only [T.c, T.i, T.s, tL] at e1 eH1 e2 eH2 e15 e16 e17 e5 e4 eH4
  by_cases hlt : i < (th d).length
  · obtain ⟨x, hx⟩ : ∃ x, (th d)[i]? = some x := ⟨_, List.getElem?_eq_getElem hlt⟩
    have ex := en_at eS hx
    have gx : (0 : Int) ≤ i := by omega
    have k5 : (i : Int) < (th d).length := by omega
    have gw : IntKind.i64.wrap ((i : Int) + 1) = ((i + 1 : Nat) : Int) := wrap64 (x := (i : Int) + 1) ⟨by omega, by omega⟩
    have hxs := th_size hD (List.mem_of_getElem? hx)
    have hf := foldl_take (npStep d) (zPl, 0) hx
    rw [← hst] at hf
    have hC := numI_ok x 109 (by omega)
    have hR := rdI_ok ((lk d x).getD ⟨#[]⟩) (by have := lk_size0 hD x; omega)
    have hre : rdI ((lk d x).getD ⟨#[]⟩) = rd ((lk d x).getD ⟨#[]⟩) := rfl
    rw [hre] at hR
    simp only [go_sem, e15, e16, e17, k5, gx, ex, eS]
    refine callC hC rfl rfl rfl rfl ?_
    by_cases k1 : numOf 109 x > st.2
    · simp only [go_sem, e1, eH1, e5, k1]
      refine callC (lkI_ok d hD x) rfl rfl rfl rfl ?_
      simp only [go_sem]
      refine callC hR rfl rfl rfl rfl ?_
      cases k2 : (rd ((lk d x).getD ⟨#[]⟩)).2 with
      | true =>
        have hs : npStep d st x = ((rd ((lk d x).getD ⟨#[]⟩)).1, numOf 109 x) := by rw [npStep, if_pos k1, if_pos k2]
        simp only [go_sem, k2, e4, eH4, e17, gw]
        exact ⟨hlt, ⟨u1, e1, eH1⟩, ⟨u2, e2, eH2⟩, e15, e16, rfl, _, u4, _, by rw [hf, hs], .inl rfl, rfl, e4, rfl⟩
      | false =>
        have hs : npStep d st x = st := by rw [npStep, if_pos k1, if_neg (by rw [k2]; decide)]
        simp only [go_sem, k2, e17, gw]
        exact ⟨hlt, ⟨u1, e1, eH1⟩, ⟨u2, e2, eH2⟩, e15, e16, rfl, st, u4, pc, by rw [hf, hs], hpc, e5, e4, eH4⟩
    · have hs : npStep d st x = st := by rw [npStep, if_neg k1]
      simp only [go_sem, e5, e17, k1, gw]
      exact ⟨hlt, ⟨u1, e1, eH1⟩, ⟨u2, e2, eH2⟩, e15, e16, rfl, st, u4, pc, by rw [hf, hs], hpc, e5, e4, eH4⟩
  · have hi2 : i = (th d).length := by omega
    subst hi2
    have k5 : ¬ ((th d).length : Int) < (th d).length := by omega
    rw [List.take_length] at hst
    have hn : np d = st := hst.symm
    rw [hn]
    rcases hpc with rfl | ⟨rfl, hp0⟩
    · simp only [go_sem, e2, eH2, e15, e16, e17, k5, e4, eH4, e5]
    · simp only [go_sem, e2, eH2, e15, e16, e17, k5, e4, eH4, e5, hp0]
end Go.V
set_option linter.unusedSimpArgs false
set_option maxRecDepth 20000
namespace Go.V
open Go.Proofs
/-! A closed segment. -/
def posOk (nx : Int) : Int → List LR → Bool
  | _, [] => true
  | lo, r :: l => decide (lo ≤ r.pos) && decide (r.pos < nx) && posOk nx (r.pos + 1) l
/-- The records of a closed segment, if it is not lost. -/
def prt (d : Dk) (p : LP) : Option (List LR) := match lk d (seg p.num) with
  | none => none
  | some x => if (x.size : Int) < p.size then none else
    if ((frames (x.extract 0 p.size.toNat)).2 : Int) = p.size ∧ posOk p.next p.first (frames (x.extract 0 p.size.toNat)).1 = true then some (frames (x.extract 0 p.size.toNat)).1 else none
abbrev tRB (x : List LR × Bool) : T := .tup [.one (.v (.sl (en eR x.1))), .one (.v (.s (.bool x.2)))]
def partR (d : Dk) (p : LP) (x : List LR × Bool) : Prop := prt d p = if x.2 = true then some x.1 else none
theorem i64_of {n : Int} (h : 0 ≤ n ∧ n ≤ 1000000) : i64 n := ⟨by omega, by omega⟩
def ok36 := okF.gu (P := Tryz.prog) tab Tryz.func36 Tryz.ntmps36 (by conv => lhs; cbv) (by kernel_rfl)
def inv36 (p : LP) (ls : List LR) (i : Nat) (σ : St) : Prop := (∃ u, σ.t 3 = .c (.ptr 3 u 0) ∧ σ.H 3 = some (.var u 76 ((eP p).map .v))) ∧ σ.t 8 = tL (en eR ls) ∧ σ.t 11 = .i i ∧ ∃ lo : Int, 0 ≤ lo ∧ lo ≤ 1000001 ∧ posOk p.next p.first ls = posOk p.next lo (ls.drop i) ∧ σ.t 10 = .i lo
set_option maxHeartbeats 1000000 in
theorem partS_ok (d : Dk) (hD : DOk d) (p : LP) (hp : LPok p) : PC 36 [tDk d, tLP p] (partR d p) tRB := by
  obtain ⟨p1, p2, p3, p4⟩ := hp
  have f1 := fits1 115 p.num (i64_of ⟨by omega, by omega⟩)
  have hL := lkS_ok d hD (seg p.num)
  have hsz := fun x => lk_size hD (nm := seg p.num) (x := x)
  obtain ⟨k, hk⟩ : ∃ k : Nat, p.size = k := ⟨p.size.toNat, (Int.toNat_of_nonneg p4.1).symm⟩
  refine PC.intro ok36 rfl (fun _ => rfl) fun X => ?_
  simp only [go_sem]
  refine callC (decI p.num ⟨by omega, by omega⟩) rfl rfl rfl rfl ?_
  simp only [go_sem, sStr, f1]
  have hs0 : (⟨#[115]⟩ : ByteArray) ++ dc p.num = seg p.num := rfl
  rw [hs0]
  refine callC hL rfl rfl rfl rfl ?_
  cases hlk : lk d (seg p.num) with
  | none =>
    have e : prt d p = none := by rw [prt, hlk]
    simp only [go_sem, Option.isSome_none, Option.getD_none]
    refine ES.mk ([], false) e ?_
    simp only [go_sem]
  | some x =>
    have hxs := hsz x hlk
    by_cases k1 : (x.size : Int) < p.size
    · have e : prt d p = none := by rw [prt, hlk]; exact if_pos k1
      simp only [go_sem, Option.isSome_some, Option.getD_some, k1]
      refine ES.mk ([], false) e ?_
      simp only [go_sem]
    have y1 : (0 : Int) ≤ p.size := p4.1
    have y2 : p.size ≤ x.size := by omega
    have hfl := frames_le (x.extract 0 p.size.toNat)
    have hF := framesS_ok (x.extract 0 p.size.toNat) (by rw [ByteArray.size_extract]; omega)
    have hpt : prt d p = if ((frames (x.extract 0 p.size.toNat)).2 : Int) = p.size ∧ posOk p.next p.first (frames (x.extract 0 p.size.toNat)).1 = true then some (frames (x.extract 0 p.size.toNat)).1 else none := by rw [prt, hlk]; exact if_neg k1
    simp only [go_sem, Option.isSome_some, Option.getD_some, k1, lohi, KI, y1, y2]
    refine callC hF rfl rfl rfl rfl ?_
    have hxe : (x.extract 0 p.size.toNat).size ≤ x.size := by rw [ByteArray.size_extract]; omega
    generalize hfr : frames (x.extract 0 p.size.toNat) = fr at *
    obtain ⟨ls, n⟩ := fr
    simp only at hfl hpt
    by_cases k2 : ((n : Int) != p.size) = true
    · have e : prt d p = none := hpt.trans (if_neg fun h => (bne_iff_ne.1 k2) h.1)
      simp only [go_sem, k2]
      refine ES.mk (ls, false) e ?_
      simp only [go_sem]
    have k2' : (n : Int) = p.size := Classical.byContradiction fun h => k2 (bne_iff_ne.2 h)
    rw [Bool.not_eq_true] at k2
    simp only [go_sem, k2]
    have hll : ls.length ≤ 20000 := by omega
    refine AW.upto ls.length (inv36 p ls) ⟨⟨_, rfl, rfl⟩, rfl, rfl, p.first, by omega, by omega, rfl, rfl⟩ fun i t H c hi h => ?_
    obtain ⟨⟨u3, e3, eH3⟩, e8, e11, lo, hlo, hlo2, hpo, e10⟩ := h
    simp only [T.c, T.i, T.s, tL, eP, List.map_cons, List.map_nil] at e3 eH3 e8 e11 e10
    by_cases hlt : i < ls.length
    · obtain ⟨r, hr⟩ : ∃ r, ls[i]? = some r := ⟨_, List.getElem?_eq_getElem hlt⟩
      have er := en_at eR hr
      have gx : (0 : Int) ≤ i := by omega
      have k5 : (i : Int) < ls.length := by omega
      have gw : IntKind.i64.wrap ((i : Int) + 1) = ((i + 1 : Nat) : Int) := wrap64 (x := (i : Int) + 1) ⟨by omega, by omega⟩
      obtain ⟨r1, r2, _⟩ := hfl.2.2 r (List.mem_of_getElem? hr)
      have gr : IntKind.i64.wrap (r.pos + 1) = r.pos + 1 := wrap64 ⟨by omega, by omega⟩
      rw [drop_at hr, posOk] at hpo
      by_cases k6 : r.pos < lo
      · have k6' : ¬ lo ≤ r.pos := by omega
        rw [decide_eq_false k6', Bool.false_and, Bool.false_and] at hpo
        have e : prt d p = none := hpt.trans (if_neg fun h => by rw [hpo] at h; exact absurd h.2 (by decide))
        simp only [go_sem, e8, e11, e10, k5, gx, er, eR, k6]
        refine ES.mk (ls, false) e ?_
        simp only [go_sem]
      have k6' : lo ≤ r.pos := by omega
      rw [decide_eq_true k6', Bool.true_and] at hpo
      by_cases k7 : r.pos ≥ p.next
      · have k7' : ¬ r.pos < p.next := by omega
        rw [decide_eq_false k7', Bool.false_and] at hpo
        have e : prt d p = none := hpt.trans (if_neg fun h => by rw [hpo] at h; exact absurd h.2 (by decide))
        simp only [go_sem, e8, e11, e10, e3, eH3, k5, gx, er, eR, k6, k7]
        refine ES.mk (ls, false) e ?_
        simp only [go_sem]
      have k7' : r.pos < p.next := by omega
      rw [decide_eq_true k7', Bool.true_and] at hpo
      simp only [go_sem, e8, e11, e10, e3, eH3, k5, gx, er, eR, k6, k7, gr, gw]
      exact ⟨hlt, ⟨u3, e3, eH3⟩, e8, rfl, r.pos + 1, by omega, by omega, hpo, rfl⟩
    · have hi2 : i = ls.length := by omega
      subst hi2
      have k5 : ¬ (ls.length : Int) < ls.length := by omega
      rw [List.drop_length, posOk] at hpo
      have e : prt d p = some ls := hpt.trans (if_pos ⟨k2', hpo⟩)
      simp only [go_sem, e8, e11, k5]
      refine ES.mk (ls, true) e ?_
      simp only [go_sem]
def ok77 := okF.gu (P := Tryz.prog) tab Tryz.func77 Tryz.ntmps77 (by conv => lhs; cbv) (by kernel_rfl)
def inv77 (p : LP) (ls : List LR) (n : Nat) (i : Nat) (σ : St) : Prop := (∃ u, σ.t 3 = .c (.ptr 3 u 0) ∧ σ.H 3 = some (.var u 76 ((eP p).map .v))) ∧ σ.t 8 = tL (en eR ls) ∧ σ.t 9 = .i n ∧ σ.t 40 = tL (en eR ls) ∧ σ.t 41 = .i ls.length ∧ σ.t 42 = .i i ∧ ∃ lo : Int, 0 ≤ lo ∧ lo ≤ 1000001 ∧ posOk p.next p.first ls = posOk p.next lo (ls.drop i) ∧ σ.t 10 = .i lo
set_option maxHeartbeats 1000000 in
theorem partI_ok (d : Dk) (hD : DOk d) (p : LP) (hp : LPok p) : PC 77 [tDk d, tLP p] (partR d p) tRB := by
  obtain ⟨p1, p2, p3, p4⟩ := hp
  have hL := lkI_ok d hD (seg p.num)
  have hsz := fun x => lk_size hD (nm := seg p.num) (x := x)
  obtain ⟨k, hk⟩ : ∃ k : Nat, p.size = k := ⟨p.size.toNat, (Int.toNat_of_nonneg p4.1).symm⟩
  refine PC.intro ok77 rfl (fun _ => rfl) fun X => ?_
  simp only [go_sem]
  refine callC (seg_ok p.num (i64_of ⟨by omega, by omega⟩)) rfl rfl rfl rfl ?_
  simp only [go_sem]
  refine callC hL rfl rfl rfl rfl ?_
  cases hlk : lk d (seg p.num) with
  | none =>
    have e : prt d p = none := by rw [prt, hlk]
    simp only [go_sem, Option.isSome_none, Option.getD_none]
    refine ES.mk ([], false) e ?_
    simp only [go_sem]
  | some x =>
    have hxs := hsz x hlk
    by_cases k1 : (x.size : Int) < p.size
    · have e : prt d p = none := by rw [prt, hlk]; exact if_pos k1
      simp only [go_sem, Option.isSome_some, Option.getD_some, k1]
      refine ES.mk ([], false) e ?_
      simp only [go_sem]
    have y1 : (0 : Int) ≤ p.size := p4.1
    have y2 : p.size ≤ x.size := by omega
    have hfl := frames_le (x.extract 0 p.size.toNat)
    have hF := framesI_ok (x.extract 0 p.size.toNat) (by rw [ByteArray.size_extract]; omega)
    have hpt : prt d p = if ((frames (x.extract 0 p.size.toNat)).2 : Int) = p.size ∧ posOk p.next p.first (frames (x.extract 0 p.size.toNat)).1 = true then some (frames (x.extract 0 p.size.toNat)).1 else none := by rw [prt, hlk]; exact if_neg k1
    simp only [go_sem, Option.isSome_some, Option.getD_some, k1, lohi, KI, y1, y2]
    refine callC hF rfl rfl rfl rfl ?_
    have hxe : (x.extract 0 p.size.toNat).size ≤ x.size := by rw [ByteArray.size_extract]; omega
    generalize hfr : frames (x.extract 0 p.size.toNat) = fr at *
    obtain ⟨ls, n⟩ := fr
    simp only at hfl hpt
    have hll : ls.length ≤ 20000 := by omega
    simp only [go_sem]
    refine AW.upto ls.length (inv77 p ls n) ⟨⟨_, rfl, rfl⟩, rfl, rfl, rfl, rfl, rfl, p.first, by omega, by omega, rfl, rfl⟩ fun i t H c hi h => ?_
    obtain ⟨⟨u3, e3, eH3⟩, e8, e9, e40, e41, e42, lo, hlo, hlo2, hpo, e10⟩ := h
    simp only [T.c, T.i, T.s, tL, eP, List.map_cons, List.map_nil] at e3 eH3 e8 e9 e40 e41 e42 e10
    by_cases hlt : i < ls.length
    · obtain ⟨r, hr⟩ : ∃ r, ls[i]? = some r := ⟨_, List.getElem?_eq_getElem hlt⟩
      have er := en_at eR hr
      have gx : (0 : Int) ≤ i := by omega
      have k5 : (i : Int) < ls.length := by omega
      have gw : IntKind.i64.wrap ((i : Int) + 1) = ((i + 1 : Nat) : Int) := wrap64 (x := (i : Int) + 1) ⟨by omega, by omega⟩
      obtain ⟨r1, r2, _⟩ := hfl.2.2 r (List.mem_of_getElem? hr)
      have gr : IntKind.i64.wrap (r.pos + 1) = r.pos + 1 := wrap64 ⟨by omega, by omega⟩
      have gn : IntKind.i64.wrap (p.next - 1) = p.next - 1 := wrap64 ⟨by omega, by omega⟩
      rw [drop_at hr, posOk] at hpo
      simp only [go_sem, e40, e41, e42, e10, e3, eH3, k5, gx, er, eR, gn]
      refine callC (inRange_ok _ _ _) rfl rfl rfl rfl ?_
      by_cases k6 : (decide (lo ≤ r.pos) && decide (r.pos ≤ p.next - 1)) = true
      · have k6' := k6
        rw [Bool.and_eq_true, decide_eq_true_eq, decide_eq_true_eq] at k6'
        rw [decide_eq_true k6'.1, decide_eq_true (show r.pos < p.next by omega), Bool.true_and, Bool.true_and] at hpo
        simp only [go_sem, k6, e42, gr, gw]
        exact ⟨hlt, ⟨u3, e3, eH3⟩, e8, e9, e40, e41, rfl, r.pos + 1, by omega, by omega, hpo, rfl⟩
      · have hpf : posOk p.next p.first ls = false := by
          rw [hpo]
          by_cases h1 : lo ≤ r.pos
          · by_cases h2 : r.pos < p.next
            · exact absurd (by rw [Bool.and_eq_true, decide_eq_true_eq, decide_eq_true_eq]; exact ⟨h1, by omega⟩) k6
            · rw [decide_eq_false h2, Bool.and_false, Bool.false_and]
          · rw [decide_eq_false h1, Bool.false_and, Bool.false_and]
        rw [Bool.not_eq_true] at k6
        have e : prt d p = none := hpt.trans (if_neg fun h => by rw [hpf] at h; exact absurd h.2 (by decide))
        simp only [go_sem, k6]
        refine ES.mk ([], false) e ?_
        simp only [go_sem]
    · have hi2 : i = ls.length := by omega
      subst hi2
      have k5 : ¬ (ls.length : Int) < ls.length := by omega
      rw [List.drop_length, posOk] at hpo
      have e : partR d p (ls, (n : Int) == p.size) := by
        unfold partR
        rw [hpt]
        by_cases hn : (n : Int) = p.size
        · rw [if_pos ⟨hn, hpo⟩, if_pos (by simp [hn])]
        · rw [if_neg fun h => hn h.1, if_neg (by simp [hn])]
      simp only [go_sem, e8, e9, e40, e41, e42, e3, eH3, k5]
      refine ES.mk (ls, (n : Int) == p.size) e ?_
      simp only [go_sem]
end Go.V
set_option linter.unusedSimpArgs false
set_option maxRecDepth 20000
namespace Go.V
open Go.Proofs
/-! What a disk's log says. -/
structure Ls where
  code : Int
  num : Int
  plan : Pl
  size : Int
  torn : Bool
  next : Int
  recs : List LR
def zLs (c : Int) : Ls := ⟨c, 0, zPl, 0, false, 0, []⟩
abbrev cLs (s : Ls) : List C := [.v (.s (.int .i64 s.code)), .v (.s (.int .i64 s.num)), .v (.sl (en eP s.plan.parts)), .v (.s (.int .i64 s.plan.opn)), .v (.s (.int .i64 s.plan.first)), .v (.s (.int .i64 s.size)), .v (.s (.bool s.torn)), .v (.s (.int .i64 s.next)), .v (.sl (en eR s.recs))]
abbrev tLs (s : Ls) : T := .pt (.agg (cLs s))
/-- The records of all closed segments, if none is lost. -/
def prts (d : Dk) : List LP → Option (List LR)
  | [] => some []
  | p :: ps => match prt d p with
    | none => none
    | some l => (prts d ps).map (l ++ ·)
def posRun : Int → List LR → Bool
  | _, [] => true
  | lo, r :: l => decide (r.pos = lo) && posRun (lo + 1) l
def opn (d : Dk) : Ls := if (np d).2 = 0 then zLs 1 else match prts d (np d).1.parts with
  | none => zLs 2
  | some recs => match lk d (seg (np d).1.opn) with
    | none => zLs 2
    | some x => if posRun (np d).1.first (frames x).1 = true then ⟨0, (np d).2, (np d).1, (frames x).2, decide (((frames x).2 : Int) < x.size), (np d).1.first + (frames x).1.length, recs ++ (frames x).1⟩ else zLs 2
theorem prt_len {d : Dk} (hD : DOk d) {p : LP} {l : List LR} (h : prt d p = some l) : l.length ≤ 20000 := by
  unfold prt at h
  split at h
  · cases h
  · rename_i x hx
    have hxs := lk_size hD hx
    split at h
    · cases h
    · split at h
      · cases h
        have := frames_le (x.extract 0 p.size.toNat)
        have hxe : (x.extract 0 p.size.toNat).size ≤ x.size := by rw [ByteArray.size_extract]; omega
        omega
      · cases h
abbrev zC : List C := [.v (.s (.int .i64 0)), .v (.s (.int .i64 0)), .nil0, .v (.s (.int .i64 0)), .v (.s (.int .i64 0)), .v (.s (.int .i64 0)), .v (.s (.bool false)), .v (.s (.int .i64 0)), .nil0]
def Hd16 (d : Dk) (σ : St) : Prop := (∃ u, σ.t 1 = .c (.ptr 1 u 0) ∧ σ.H 1 = some (.var u 35 (cDk d))) ∧ (∃ u, σ.t 2 = .c (.ptr 2 u 0) ∧ σ.H 2 = some (.var u 50 zC)) ∧ (∃ u, σ.t 3 = .c (.ptr 3 u 0) ∧ σ.H 3 = some (.var u 47 (cPl (np d).1)))
abbrev oC9 (d : Dk) (nx : Int) (m v n : Nat) : List C := [.v (.s (.int .i64 0)), .v (.s (.int .i64 (np d).2)), .v (.sl (en eP (np d).1.parts)), .v (.s (.int .i64 (np d).1.opn)), .v (.s (.int .i64 (np d).1.first)), .v (.s (.int .i64 0)), .v (.s (.bool false)), .v (.s (.int .i64 nx)), .own m v n]
def ok16 := okF.gu (P := Tryz.prog) tab Tryz.func16 Tryz.ntmps16 (by conv => lhs; cbv) (by kernel_rfl)
def inv16 (d : Dk) (i : Nat) (σ : St) : Prop := Hd16 d σ ∧ σ.t 6 = .i i ∧ ∃ (acc : List LR) (u v : Nat), acc.length ≤ 20000 * i ∧ prts d (np d).1.parts = (prts d ((np d).1.parts.drop i)).map (acc ++ ·) ∧ σ.t 5 = .c (.ptr 5 u 0) ∧ σ.H 5 = some (.var u 50 (oC9 d 0 2052 v acc.length)) ∧ σ.H 2052 = some (.arr v true 2 83 (en eR acc))
def inv16b (d : Dk) (x : ByteArray) (acc ls : List LR) (n : Nat) (i : Nat) (σ : St) : Prop := Hd16 d σ ∧ σ.t 9 = tS x ∧ σ.t 11 = tL (en eR ls) ∧ σ.t 12 = .i n ∧ σ.t 13 = .i i ∧ posRun (np d).1.first ls = posRun ((np d).1.first + i) (ls.drop i) ∧ ∃ (u v : Nat), σ.t 5 = .c (.ptr 5 u 0) ∧ σ.H 5 = some (.var u 50 (oC9 d 0 2052 v acc.length)) ∧ σ.H 2052 = some (.arr v true 2 83 (en eR acc))
set_option maxHeartbeats 2000000 in
theorem opnS_ok (d : Dk) (hD : DOk d) : ACallsF Tryz.prog 16 [tDk d] [] (tLs (opn d)) := by
  obtain ⟨b, hb, hC⟩ := okS_ok d hD.fine
  rw [hb.2 hD] at hC
  have hnp := np_ok d
  refine ACallsF.intro ok16 follows fun X c0 => ?_
  generalize hR : opn d = R
  simp only [go_sem]
  refine callC hC rfl rfl rfl rfl ?_
  simp only [go_sem]
  refine callC (npS_ok d hD) rfl rfl rfl rfl ?_
  by_cases k0 : (np d).2 = 0
  · have e : R = zLs 1 := by rw [← hR, opn, if_pos k0]
    subst e
    simp only [go_sem, k0]
    rfl
  have k0' : ((np d).2 == 0) = false := beq_eq_false_iff_ne.2 k0
  obtain ⟨ho, hn1, hn2⟩ : planOk (np d).1 = true ∧ 1 ≤ (np d).2 ∧ (np d).2 ≤ 999999 := by
    rcases hnp with ⟨_, h⟩ | h
    · exact absurd h k0
    · exact h
  obtain ⟨hl40, hparts, hopn, hfirst⟩ := planOk_ok ho
  have hopnd : opn d = _ := if_neg k0
  rw [hR] at hopnd
  simp only [go_sem, k0']
  refine AW.reify 5 8 2052 2 83 rfl rfl rfl (by decide) ?_
  refine AW.upto (np d).1.parts.length (inv16 d) ⟨⟨⟨_, rfl, rfl⟩, ⟨_, rfl, rfl⟩, ⟨_, rfl, rfl⟩⟩, rfl, [], _, _, Nat.zero_le _, by rw [List.drop_zero]; cases prts d (np d).1.parts <;> rfl, rfl, rfl, rfl⟩ fun i t H c hi h => ?_
  obtain ⟨⟨⟨u1, e1, eH1⟩, ⟨u2, e2, eH2⟩, ⟨u3, e3, eH3⟩⟩, e6, acc, u5, v, hacc, hpr, e5, eH5, eH52⟩ := h
  simp only [T.c, T.i] at e1 eH1 e2 eH2 e3 eH3 e6 e5 eH5 eH52
  have ht : List.take acc.length (en eR acc) = en eR acc := en_take eR acc
  by_cases hlt : i < (np d).1.parts.length
  · obtain ⟨p, hp⟩ : ∃ p, (np d).1.parts[i]? = some p := ⟨_, List.getElem?_eq_getElem hlt⟩
    have ep := en_at eP hp
    have gx : (0 : Int) ≤ i := by omega
    have k5 : (i : Int) < (np d).1.parts.length := by omega
    have gw : IntKind.i64.wrap ((i : Int) + 1) = ((i + 1 : Nat) : Int) := wrap64 (x := (i : Int) + 1) ⟨by omega, by omega⟩
    obtain ⟨⟨ls, b⟩, hx, hP⟩ := partS_ok d hD p (hparts p (List.mem_of_getElem? hp))
    unfold partR at hx
    rw [drop_at hp, prts] at hpr
    simp only [go_sem, e1, eH1, e3, eH3, e6, k5, gx, ep, eP]
    refine callC hP rfl rfl rfl rfl ?_
    cases b with
    | false =>
      simp only [Bool.false_eq_true, if_false] at hx
      rw [hx] at hpr
      rw [hpr] at hopnd
      have e : R = zLs 2 := hopnd
      subst e
      simp only [go_sem, e2, eH2]
      rfl
    | true =>
      rw [if_pos rfl] at hx
      rw [hx] at hpr
      simp only at hpr hx
      have hll := prt_len hD hx
      have q1 : (acc.length + ls.length) * 24 ≤ 140737488355328 := by omega
      have q2 : acc.length + ls.length ≤ 9223372036854775807 := by omega
      simp only [go_sem, e5, eH5, eH52, ht, q1, q2, e6, gw]
      have heq : en eR (acc ++ ls) = en eR acc ++ en eR ls := by simp only [en, List.map_append]
      have hpr2 : prts d (np d).1.parts = (prts d ((np d).1.parts.drop (i + 1))).map (acc ++ ls ++ ·) := by
        rw [hpr, Option.map_map]
        congr 1
        funext l
        simp
      refine ⟨hlt, ⟨⟨u1, e1, eH1⟩, ⟨u2, e2, eH2⟩, ⟨u3, e3, eH3⟩⟩, rfl, acc ++ ls, u5, c + 5 + 12 + 2 + 3, by rw [List.length_append]; omega, hpr2, e5, ?_, ?_⟩
      · rw [List.length_append]; rfl
      · rw [heq]; rfl
  · have hi2 : i = (np d).1.parts.length := by omega
    subst hi2
    have k5 : ¬ ((np d).1.parts.length : Int) < (np d).1.parts.length := by omega
    rw [List.drop_length, prts, Option.map_some, List.append_nil] at hpr
    rw [hpr] at hopnd
    simp only at hopnd
    have f1 := fits1 115 (np d).1.opn (i64_of ⟨by omega, by omega⟩)
    simp only [go_sem, e6, e3, eH3, k5, e1, eH1]
    refine callC (decI (np d).1.opn ⟨by omega, by omega⟩) rfl rfl rfl rfl ?_
    simp only [go_sem, sStr, f1]
    have hs0 : (⟨#[115]⟩ : ByteArray) ++ dc (np d).1.opn = seg (np d).1.opn := rfl
    rw [hs0]
    refine callC (lkS_ok d hD (seg (np d).1.opn)) rfl rfl rfl rfl ?_
    cases hlk : lk d (seg (np d).1.opn) with
    | none =>
      rw [hlk] at hopnd
      have e : R = zLs 2 := hopnd
      subst e
      simp only [go_sem, Option.isSome_none, Option.getD_none, e2, eH2]
      rfl
    | some x =>
      rw [hlk] at hopnd
      simp only at hopnd
      have hxs := lk_size hD hlk
      have hfl := frames_le x
      simp only [go_sem, Option.isSome_some, Option.getD_some]
      refine callC (framesS_ok x (by omega)) rfl rfl rfl rfl ?_
      generalize hfr : frames x = fr at *
      obtain ⟨ls, n⟩ := fr
      simp only at hfl hopnd
      simp only [go_sem]
      refine AW.upto ls.length (inv16b d x acc ls n) ⟨⟨⟨u1, e1, eH1⟩, ⟨u2, e2, eH2⟩, ⟨u3, e3, eH3⟩⟩, rfl, rfl, rfl, rfl, by rw [List.drop_zero]; congr 1; omega, u5, v, e5, eH5, eH52⟩ fun i t H c hi h => ?_
      clear e1 eH1 e2 eH2 e3 eH3 e6 e5 eH5 eH52 u1 u2 u3 u5 v
      obtain ⟨⟨⟨u1, e1, eH1⟩, ⟨u2, e2, eH2⟩, ⟨u3, e3, eH3⟩⟩, e9, e11, e12, e13, hrun, u5, v, e5, eH5, eH52⟩ := h
      simp only [T.c, T.i, T.s, tL] at e1 eH1 e2 eH2 e3 eH3 e9 e11 e12 e13 e5 eH5 eH52
      by_cases hlt : i < ls.length
      · obtain ⟨r, hr⟩ : ∃ r, ls[i]? = some r := ⟨_, List.getElem?_eq_getElem hlt⟩
        have er := en_at eR hr
        have gx : (0 : Int) ≤ i := by omega
        have k5 : (i : Int) < ls.length := by omega
        have gw : IntKind.i64.wrap ((i : Int) + 1) = ((i + 1 : Nat) : Int) := wrap64 (x := (i : Int) + 1) ⟨by omega, by omega⟩
        have gf : IntKind.i64.wrap ((np d).1.first + (i : Int)) = (np d).1.first + i := wrap64 ⟨by omega, by omega⟩
        rw [drop_at hr, posRun] at hrun
        by_cases k6 : r.pos = (np d).1.first + i
        · have k6' : (r.pos != (np d).1.first + i) = false := by rw [k6]; simp
          rw [decide_eq_true k6, Bool.true_and] at hrun
          simp only [go_sem, e11, e13, e3, eH3, k5, gx, er, eR, gf, k6', gw]
          refine ⟨hlt, ⟨⟨u1, e1, eH1⟩, ⟨u2, e2, eH2⟩, ⟨u3, e3, eH3⟩⟩, e9, e11, e12, rfl, ?_, u5, v, e5, eH5, eH52⟩
          rw [hrun]; congr 1; omega
        · have k6' : (r.pos != (np d).1.first + i) = true := bne_iff_ne.2 k6
          rw [decide_eq_false k6, Bool.false_and] at hrun
          have e : R = zLs 2 := hopnd.trans (if_neg (by rw [hrun]; decide))
          subst e
          simp only [go_sem, e11, e13, e3, eH3, k5, gx, er, eR, gf, k6', e2, eH2]
          rfl
      · have hi2 : i = ls.length := by omega
        subst hi2
        have k5 : ¬ (ls.length : Int) < ls.length := by omega
        rw [List.drop_length, posRun] at hrun
        rw [if_pos hrun] at hopnd
        subst hopnd
        have q1 : (acc.length + ls.length) * 24 ≤ 140737488355328 := by omega
        have q2 : acc.length + ls.length ≤ 9223372036854775807 := by omega
        have gf : IntKind.i64.wrap ((np d).1.first + (ls.length : Int)) = (np d).1.first + ls.length := wrap64 ⟨by omega, by omega⟩
        have ht2 : List.take (acc.length + ls.length) (en eR acc ++ en eR ls) = en eR acc ++ en eR ls := List.take_of_length_le (by rw [List.length_append, en_len, en_len]; exact Nat.le_refl _)
        have heq : en eR (acc ++ ls) = en eR acc ++ en eR ls := by simp only [en, List.map_append]
        simp only [go_sem, e9, e11, e12, e13, k5, e3, eH3, e5, eH5, eH52, ht, q1, q2, gf, e2, eH2, ht2, heq]
end Go.V
set_option linter.unusedSimpArgs false
set_option maxRecDepth 20000
namespace Go.V
open Go.Proofs
def ok51 := okF.gu (P := Tryz.prog) tab Tryz.func51 Tryz.ntmps51 (by conv => lhs; cbv) (by kernel_rfl)
def inv51 (d : Dk) (i : Nat) (σ : St) : Prop := Hd16 d σ ∧ σ.t 30 = tL (en eP (np d).1.parts) ∧ σ.t 31 = .i (np d).1.parts.length ∧ σ.t 32 = .i i ∧ ∃ (acc : List LR) (u v : Nat), acc.length ≤ 20000 * i ∧ prts d (np d).1.parts = (prts d ((np d).1.parts.drop i)).map (acc ++ ·) ∧ σ.t 5 = .c (.ptr 5 u 0) ∧ σ.H 5 = some (.var u 50 (oC9 d (np d).1.first 2052 v acc.length)) ∧ σ.H 2052 = some (.arr v true 2 83 (en eR acc))
def inv51b (d : Dk) (x : ByteArray) (acc ls : List LR) (n : Nat) (i : Nat) (σ : St) : Prop := Hd16 d σ ∧ σ.t 10 = tS x ∧ σ.t 12 = tL (en eR ls) ∧ σ.t 13 = .i n ∧ σ.t 67 = tL (en eR ls) ∧ σ.t 68 = .i ls.length ∧ σ.t 69 = .i i ∧ posRun (np d).1.first ls = posRun ((np d).1.first + i) (ls.drop i) ∧ ∃ (u v : Nat), σ.t 5 = .c (.ptr 5 u 0) ∧ σ.H 5 = some (.var u 50 (oC9 d ((np d).1.first + i) 2052 v acc.length)) ∧ σ.H 2052 = some (.arr v true 2 83 (en eR acc))
set_option maxHeartbeats 2000000 in
theorem opnI_ok (d : Dk) (hD : DOk d) : ACallsF Tryz.prog 51 [tDk d] [] (tLs (opn d)) := by
  have hnp := np_ok d
  refine ACallsF.intro ok51 follows fun X c0 => ?_
  generalize hR : opn d = R
  simp only [go_sem]
  refine callC (npI_ok d hD) rfl rfl rfl rfl ?_
  by_cases k0 : (np d).2 = 0
  · have e : R = zLs 1 := by rw [← hR, opn, if_pos k0]
    subst e
    simp only [go_sem, k0]
    rfl
  have k0' : ((np d).2 == 0) = false := beq_eq_false_iff_ne.2 k0
  obtain ⟨ho, hn1, hn2⟩ : planOk (np d).1 = true ∧ 1 ≤ (np d).2 ∧ (np d).2 ≤ 999999 := by
    rcases hnp with ⟨_, h⟩ | h
    · exact absurd h k0
    · exact h
  obtain ⟨hl40, hparts, hopn, hfirst⟩ := planOk_ok ho
  have hopnd : opn d = _ := if_neg k0
  rw [hR] at hopnd
  simp only [go_sem, k0']
  refine AW.reify 5 8 2052 2 83 rfl rfl rfl (by decide) ?_
  refine AW.upto (np d).1.parts.length (inv51 d) ⟨⟨⟨_, rfl, rfl⟩, ⟨_, rfl, rfl⟩, ⟨_, rfl, rfl⟩⟩, rfl, rfl, rfl, [], _, _, Nat.zero_le _, by rw [List.drop_zero]; cases prts d (np d).1.parts <;> rfl, rfl, rfl, rfl⟩ fun i t H c hi h => ?_
  obtain ⟨⟨⟨u1, e1, eH1⟩, ⟨u2, e2, eH2⟩, ⟨u3, e3, eH3⟩⟩, e30, e31, e32, acc, u5, v, hacc, hpr, e5, eH5, eH52⟩ := h
  simp only [T.c, T.i, tL] at e1 eH1 e2 eH2 e3 eH3 e30 e31 e32 e5 eH5 eH52
  have ht : List.take acc.length (en eR acc) = en eR acc := en_take eR acc
  by_cases hlt : i < (np d).1.parts.length
  · obtain ⟨p, hp⟩ : ∃ p, (np d).1.parts[i]? = some p := ⟨_, List.getElem?_eq_getElem hlt⟩
    have ep := en_at eP hp
    have gx : (0 : Int) ≤ i := by omega
    have k5 : (i : Int) < (np d).1.parts.length := by omega
    have gw : IntKind.i64.wrap ((i : Int) + 1) = ((i + 1 : Nat) : Int) := wrap64 (x := (i : Int) + 1) ⟨by omega, by omega⟩
    obtain ⟨⟨ls, b⟩, hx, hP⟩ := partI_ok d hD p (hparts p (List.mem_of_getElem? hp))
    unfold partR at hx
    rw [drop_at hp, prts] at hpr
    simp only [go_sem, e1, eH1, e30, e31, e32, k5, gx, ep, eP]
    refine callC hP rfl rfl rfl rfl ?_
    cases b with
    | false =>
      simp only [Bool.false_eq_true, if_false] at hx
      rw [hx] at hpr
      rw [hpr] at hopnd
      have e : R = zLs 2 := hopnd
      subst e
      simp only [go_sem, e2, eH2]
      rfl
    | true =>
      rw [if_pos rfl] at hx
      rw [hx] at hpr
      simp only at hpr hx
      have hll := prt_len hD hx
      have q1 : (acc.length + ls.length) * 24 ≤ 140737488355328 := by omega
      have q2 : acc.length + ls.length ≤ 9223372036854775807 := by omega
      simp only [go_sem, e5, eH5, eH52, ht, q1, q2, e32, gw]
      have heq : en eR (acc ++ ls) = en eR acc ++ en eR ls := by simp only [en, List.map_append]
      have hpr2 : prts d (np d).1.parts = (prts d ((np d).1.parts.drop (i + 1))).map (acc ++ ls ++ ·) := by
        rw [hpr, Option.map_map]
        congr 1
        funext l
        simp
      refine ⟨hlt, ⟨⟨u1, e1, eH1⟩, ⟨u2, e2, eH2⟩, ⟨u3, e3, eH3⟩⟩, e30, e31, rfl, acc ++ ls, u5, c + 1 + 4 + 8 + 2 + 3, by rw [List.length_append]; omega, hpr2, e5, ?_, ?_⟩
      · rw [List.length_append]; rfl
      · rw [heq]; rfl
  · have hi2 : i = (np d).1.parts.length := by omega
    subst hi2
    have k5 : ¬ ((np d).1.parts.length : Int) < (np d).1.parts.length := by omega
    rw [List.drop_length, prts, Option.map_some, List.append_nil] at hpr
    rw [hpr] at hopnd
    simp only at hopnd
    simp only [go_sem, e30, e31, e32, e3, eH3, k5, e1, eH1]
    refine callC (seg_ok (np d).1.opn (i64_of ⟨by omega, by omega⟩)) rfl rfl rfl rfl ?_
    simp only [go_sem]
    refine callC (lkI_ok d hD (seg (np d).1.opn)) rfl rfl rfl rfl ?_
    cases hlk : lk d (seg (np d).1.opn) with
    | none =>
      rw [hlk] at hopnd
      have e : R = zLs 2 := hopnd
      subst e
      simp only [go_sem, Option.isSome_none, Option.getD_none, e2, eH2]
      rfl
    | some x =>
      rw [hlk] at hopnd
      simp only at hopnd
      have hxs := lk_size hD hlk
      have hfl := frames_le x
      simp only [go_sem, Option.isSome_some, Option.getD_some]
      refine callC (framesI_ok x (by omega)) rfl rfl rfl rfl ?_
      generalize hfr : frames x = fr at *
      obtain ⟨ls, n⟩ := fr
      simp only at hfl hopnd
      simp only [go_sem]
      refine AW.upto ls.length (inv51b d x acc ls n) ⟨⟨⟨u1, e1, eH1⟩, ⟨u2, e2, eH2⟩, ⟨u3, e3, eH3⟩⟩, rfl, rfl, rfl, rfl, rfl, rfl, by rw [List.drop_zero]; congr 1; omega, u5, v, e5, ?_, eH52⟩ fun i t H c hi h => ?_
      · have e0 : (np d).1.first + ((0 : Nat) : Int) = (np d).1.first := by omega
        rw [e0]; exact eH5
      clear e1 eH1 e2 eH2 e3 eH3 e30 e31 e32 e5 eH5 eH52 u1 u2 u3 u5 v
      obtain ⟨⟨⟨u1, e1, eH1⟩, ⟨u2, e2, eH2⟩, ⟨u3, e3, eH3⟩⟩, e10, e12, e13, e67, e68, e69, hrun, u5, v, e5, eH5, eH52⟩ := h
      simp only [T.c, T.i, T.s, tL] at e1 eH1 e2 eH2 e3 eH3 e10 e12 e13 e67 e68 e69 e5 eH5 eH52
      by_cases hlt : i < ls.length
      · obtain ⟨r, hr⟩ : ∃ r, ls[i]? = some r := ⟨_, List.getElem?_eq_getElem hlt⟩
        have er := en_at eR hr
        have gx : (0 : Int) ≤ i := by omega
        have k5 : (i : Int) < ls.length := by omega
        have gw : IntKind.i64.wrap ((i : Int) + 1) = ((i + 1 : Nat) : Int) := wrap64 (x := (i : Int) + 1) ⟨by omega, by omega⟩
        have gf : IntKind.i64.wrap ((np d).1.first + (i : Int) + 1) = (np d).1.first + ((i + 1 : Nat) : Int) := (wrap64 ⟨by omega, by omega⟩).trans (by omega)
        rw [drop_at hr, posRun] at hrun
        by_cases k6 : r.pos = (np d).1.first + i
        · have k6' : (r.pos != (np d).1.first + i) = false := by rw [k6]; simp
          rw [decide_eq_true k6, Bool.true_and] at hrun
          simp only [go_sem, e67, e68, e69, e5, eH5, k5, gx, er, eR, gf, k6', gw]
          refine ⟨hlt, ⟨⟨u1, e1, eH1⟩, ⟨u2, e2, eH2⟩, ⟨u3, e3, eH3⟩⟩, e10, e12, e13, e67, e68, rfl, ?_, u5, v, e5, rfl, eH52⟩
          rw [hrun]; congr 1; omega
        · have k6' : (r.pos != (np d).1.first + i) = true := bne_iff_ne.2 k6
          rw [decide_eq_false k6, Bool.false_and] at hrun
          have e : R = zLs 2 := hopnd.trans (if_neg (by rw [hrun]; decide))
          subst e
          simp only [go_sem, e67, e68, e69, e5, eH5, k5, gx, er, eR, gf, k6', e2, eH2]
          rfl
      · have hi2 : i = ls.length := by omega
        subst hi2
        have k5 : ¬ (ls.length : Int) < ls.length := by omega
        rw [List.drop_length, posRun] at hrun
        rw [if_pos hrun] at hopnd
        subst hopnd
        have q1 : (acc.length + ls.length) * 24 ≤ 140737488355328 := by omega
        have q2 : acc.length + ls.length ≤ 9223372036854775807 := by omega
        have ht2 : List.take (acc.length + ls.length) (en eR acc ++ en eR ls) = en eR acc ++ en eR ls := List.take_of_length_le (by rw [List.length_append, en_len, en_len]; exact Nat.le_refl _)
        have heq : en eR (acc ++ ls) = en eR acc ++ en eR ls := by simp only [en, List.map_append]
        simp only [go_sem, e10, e12, e13, e67, e68, e69, k5, e5, eH5, eH52, ht, q1, q2, e2, eH2, ht2, heq]
end Go.V
set_option linter.unusedSimpArgs false
set_option maxRecDepth 20000
namespace Go.V
open Go.Proofs
structure EvB (e : Ev) : Prop where
  typ : e.typ.size ≤ 2000000
  body : TB 2000000 e.body
def ok91 := okF.gu (P := Tryz.prog) tab Tryz.func91 Tryz.ntmps91 (by conv => lhs; cbv) (by kernel_rfl)
theorem evOkS_ok (e : Ev) (hB : EvB e) : ACallsF Tryz.prog 91 [tE e] [] (.b (evOk e)) := by
  have hC1 := nameOk_ok e.typ (by have := hB.typ; omega)
  have hC2 := l6In_ok e.ver 1 12
  have hC3 := treeOkS_ok e.body hB.body
  simp only [tT, encT_eta, List.map_cons, List.map_nil] at hC3
  unfold evOk
  refine ACallsF.intro ok91 follows fun X c0 => ?_
  simp only [go_sem]
  refine callC hC1 rfl rfl rfl rfl ?_
  cases h1 : nameOk e.typ with
  | false => simp only [go_sem]
  | true =>
    simp only [go_sem]
    refine callC hC2 rfl rfl rfl rfl ?_
    generalize (decide (1 ≤ e.ver) && decide (e.ver ≤ 12)) = A
    cases A with
    | false => simp only [go_sem]
    | true =>
      cases h5 : (e.body.s == 5) with
      | false => simp only [go_sem, h5]
      | true =>
        simp only [go_sem, h5]
        refine callC hC3 rfl rfl rfl rfl ?_
        simp only [go_sem]
theorem shortO_ok (s : ByteArray) (hs : s.size ≤ 1000000) (m : Nat) : ACallsF Tryz.prog 111 [tS s] [newH 6 m 1 5 (encB (pkX s))] (.c (.own 6 0 (pkX s).length)) := by
  have q1 : (1 + s.size) * 1 ≤ 140737488355328 := by omega
  have q2 : 1 + s.size ≤ 9223372036854775807 := by omega
  have e1 := encB_all1 s.data.toList
  have hl : (pkX s).length = 1 + s.size := by rw [pkX_len]; omega
  refine ACallsF.intro ok111 follows fun X c0 => ?_
  simp only [go_sem, eBs_enc, wrapb, e1, encB_len, q1, q2, encB_pkX, eBs_len, ← size_data, Array.length_toList, hl, imp_self]
def ok93 := okF.gu (P := Tryz.prog) tab Tryz.func93 Tryz.ntmps93 (by conv => lhs; cbv) (by kernel_rfl)
theorem packS_ok (e : Ev) (hB : EvB e) : ACallsF Tryz.prog 93 [tE e] [] (tL (encB (if evOk e = true then pkE e else []))) := by
  have hC := evOkS_ok e hB
  refine ACallsF.intro ok93 follows fun X c0 => ?_
  simp only [go_sem]
  refine callC hC rfl rfl (by simp [closedA, closedP, closedC]) rfl ?_
  cases h : evOk e with
  | false => simp only [go_sem, encB_nil]
  | true =>
    have hle := pkE_le h
    simp only [pkE, List.length_append, List.length_cons] at hle
    simp only [evOk, Bool.and_eq_true] at h
    obtain ⟨k1, k2⟩ := okT_true.1 h.2.2.2
    have hC2 := shortS_ok e.typ (by have := nameOk_size h.1; omega)
    have hC3 := treeW_ok e.body 1 k1 (by omega)
    simp only [tT, encT_eta, List.map_cons, List.map_nil] at hC3
    have w1 : ((pkX e.typ).length + 1) * 1 ≤ 140737488355328 := by omega
    have w2 : (pkX e.typ).length + 1 ≤ 9223372036854775807 := by omega
    have w3 : ((pkX e.typ).length + 1 + (pkT e.body).length) * 1 ≤ 140737488355328 := by omega
    have w4 : (pkX e.typ).length + 1 + (pkT e.body).length ≤ 9223372036854775807 := by omega
    have tk := take_own (pkX e.typ)
    have q3 : (pkX e.typ).length ≤ (encB (pkX e.typ)).length := by rw [encB_len]; omega
    have a1 := encB_all1 (pkT e.body)
    have hres : encB (pkE e) = encB (pkX e.typ) ++ ([[.s (.int .u8 (byt e.ver).toNat)]] ++ encB (pkT e.body)) := by rw [pkE, encB_app]; rfl
    have q4 : (pkX e.typ).length + 1 + (pkT e.body).length ≤ (pkX e.typ).length + ((pkT e.body).length + 1) := by omega
    have tk2 : List.take ((pkX e.typ).length + 1 + (pkT e.body).length) (encB (pkX e.typ) ++ [V.s (.int .u8 (byt e.ver).toNat)] :: encB (pkT e.body)) = encB (pkX e.typ) ++ [V.s (.int .u8 (byt e.ver).toNat)] :: encB (pkT e.body) := List.take_of_length_le (by simp only [List.length_append, encB_len, List.length_cons]; omega)
    have q5 : (pkX e.typ).length + 1 ≤ (encB (pkX e.typ) ++ [[V.s (.int .u8 (byt e.ver).toNat)]]).length := by simp only [List.length_append, encB_len, List.length_singleton]; omega
    have tk3 : List.take ((pkX e.typ).length + 1) (encB (pkX e.typ) ++ [[V.s (.int .u8 (byt e.ver).toNat)]]) = encB (pkX e.typ) ++ [[V.s (.int .u8 (byt e.ver).toNat)]] := List.take_of_length_le (by simp only [List.length_append, encB_len, List.length_singleton]; omega)
    simp only [go_sem]
    refine callA1 (m := 2010) (ws := []) (ns := []) (shortO_ok e.typ (by have := nameOk_size h.1; omega) 2010) rfl rfl rfl (encB_flat _) ⟨rfl, ?_⟩
    simp only [go_sem, wrapb, q3, tk, w1, w2]
    refine callC hC3 rfl rfl rfl rfl ?_
    simp only [go_sem, q5, tk3, w3, w4, a1, encB_len, hres, q4, tk2, List.append_assoc]
def ok92 := okF.gu (P := Tryz.prog) tab Tryz.func92 Tryz.ntmps92 (by conv => lhs; cbv) (by kernel_rfl)
theorem same4_ok (a b : List UInt8) : ACallsF Tryz.prog 92 [tL (encB a), tL (encB b)] [] (.b (decide (a = b))) := by
  have h : ((ofL a).toList == (ofL b).toList) = decide (a = b) := by
    rw [str_beq]
    exact decide_eq_decide.2 ⟨ofL_inj, fun h => by rw [h]⟩
  refine ACallsF.intro ok92 follows fun X c0 => ?_
  simp only [go_sem, bytesOf_enc, pushB_enc, sStr, h]
abbrev tEb (r : Ev × Bool) : T := .tup [.agg ((cE r.1).map .v), .one (.v (.s (.bool r.2)))]
def ok70 := okF.gu (P := Tryz.prog) tab Tryz.func70 Tryz.ntmps70 (by conv => lhs; cbv) (by kernel_rfl)
theorem unpackS_ok (bs : List UInt8) (hb : bs.length ≤ 1000000) : ACallsF Tryz.prog 70 [tL (encB bs)] [] (tEb (evU bs)) := by
  have hz : cE zE = [.s (.string ⟨#[]⟩), .s (.int .i64 0), .s (.int .i64 0), .s (.int .i64 0), .s (.string ⟨#[]⟩), .sl [], .sl []] := rfl
  by_cases h9 : bs.length > 9000
  · have k0 : (bs.length : Int) > 9000 := by omega
    have hno : evU bs = (zE, false) := evU_no fun e h1 h2 => by have := pkE_le h1; rw [h2] at this; omega
    rw [hno]
    refine ACallsF.intro ok70 follows fun X c0 => ?_
    simp only [go_sem, encB_len, k0, hz]
  have k0 : ¬ (bs.length : Int) > 9000 := by omega
  have hT := textS_ok bs hb (0, false) (Nat.zero_le _) 12 
  have hTl := textS_le bs (0, false) (Nat.zero_le _)
  have hTb := RS_B bs (0, false)
  have hback : ∀ e, evOk e = true → pkE e = bs → (textS bs (0, false)).1 = e.typ ∧ ((oneS bs (textS bs (0, false)).2).1 : Int) = e.ver ∧ (trF (RS bs) 6 (oneS bs (textS bs (0, false)).2).2).1 = e.body ∧ HasS bs (trF (RS bs) 6 (oneS bs (textS bs (0, false)).2).2).2 [] := fun e h1 h2 => by
    subst h2
    exact ev_back (RS_ok _) h1 (p := (0, false)) (l := []) ⟨rfl, Nat.zero_le _, by rw [List.append_nil]; rfl⟩
  generalize textS bs (0, false) = q at *
  obtain ⟨ty, p1⟩ := q
  simp only at hT hTl hTb hback
  have hO := oneS_ok bs hb p1 hTl 12
  obtain ⟨hOl, hOb⟩ := oneS_le bs p1 hTl
  generalize oneS bs p1 = q at *
  obtain ⟨ve, p2⟩ := q
  simp only at hO hOl hOb hback
  have hR := treeS_ok bs hb 6 1 rfl p2 hOl 12
  have hRl := trS_le bs 6 p2 hOl
  have hRb := trF_TB (RS bs) (RS_RdB bs) 6 p2
  generalize trF (RS bs) 6 p2 = q at *
  obtain ⟨bo, at3, bad3⟩ := q
  simp only [Int.natCast_one] at hR hRl hRb hback
  have hE : EvB ⟨ty, ve, bo⟩ := ⟨by show ty.size ≤ _; omega, hRb.le (by omega)⟩
  have hC1 := evOkS_ok _ hE
  have hC2 := packS_ok _ hE
  simp only [tT, encT_eta, List.map_cons, List.map_nil] at hR
  have run : ∀ r : Ev × Bool, (bad3 = true → r = (zE, false)) → (bad3 = false → at3 ≠ bs.length → r = (zE, false)) → (bad3 = false → at3 = bs.length → evOk ⟨ty, ve, bo⟩ = false → r = (zE, false)) →
      (bad3 = false → at3 = bs.length → evOk ⟨ty, ve, bo⟩ = true → pkE ⟨ty, ve, bo⟩ ≠ bs → r = (zE, false)) → (bad3 = false → at3 = bs.length → evOk ⟨ty, ve, bo⟩ = true → pkE ⟨ty, ve, bo⟩ = bs → r = (⟨ty, ve, bo⟩, true)) → ACallsF Tryz.prog 70 [tL (encB bs)] [] (tEb r) := by
    intro r r1 r2 r3 r4 r5
    refine ACallsF.intro ok70 follows fun X c0 => ?_
    simp only [go_sem, encB_len, k0]
    refine callQ (m := 12) (hT _) rfl rfl rfl rfl rfl ⟨?_, ?_⟩
    · simp only [go_sem]
    simp only [go_sem]
    refine callQ (m := 12) (hO _) rfl rfl rfl rfl rfl ⟨?_, ?_⟩
    · simp only [go_sem]
    simp only [go_sem]
    refine callQ (m := 12) (hR _) rfl rfl rfl (by simp [closedT, closedP, closedC]) rfl ⟨?_, ?_⟩
    · simp only [go_sem]
    cases bad3 with
    | true =>
      rw [r1 rfl]
      simp only [go_sem, List.map_cons, List.map_nil, hz]
    | false =>
      by_cases hat : at3 = bs.length
      · have k1 : ((at3 : Int) != bs.length) = false := by rw [hat]; simp
        simp only [go_sem, List.map_cons, List.map_nil, encB_len, k1]
        refine callC hC1 rfl rfl (by simp [closedA, closedP, closedC]) rfl ?_
        cases ho : evOk ⟨ty, ve, bo⟩ with
        | false =>
          rw [r3 rfl hat ho]
          simp only [go_sem, hz]
        | true =>
          rw [if_pos ho] at hC2
          simp only [go_sem]
          refine callC hC2 rfl rfl (by simp [closedA, closedP, closedC]) rfl ?_
          simp only [go_sem]
          refine callC (same4_ok _ bs) rfl rfl (by simp [closedA, closedP, closedC]) rfl ?_
          by_cases hp : pkE ⟨ty, ve, bo⟩ = bs
          · rw [r5 rfl hat ho hp]
            simp only [go_sem, hp]
          · rw [r4 rfl hat ho hp]
            simp only [go_sem, hp, hz]
      · have k1 : ((at3 : Int) != bs.length) = true := bne_iff_ne.2 (by omega)
        rw [r2 rfl hat]
        simp only [go_sem, List.map_cons, List.map_nil, encB_len, k1, hz]
  have end_ : ∀ e, evOk e = true → pkE e = bs → bad3 = false ∧ at3 = bs.length ∧ (⟨ty, ve, bo⟩ : Ev) = e := fun e h1 h2 => by
    obtain ⟨b1, b2, b3, b4, b5, b6⟩ := hback e h1 h2
    have hl := congrArg List.length b6
    simp only [List.length_drop, List.length_nil] at hl
    refine ⟨b4, by simp only at b5; omega, ?_⟩
    rw [b1, b2, b3]
  refine run _ (fun h => evU_no fun e h1 h2 => ?_) (fun _ h => evU_no fun e h1 h2 => ?_) (fun _ _ h => evU_no fun e h1 h2 => ?_) (fun _ _ _ h => evU_no fun e h1 h2 => ?_) fun _ _ h1 h2 => ?_
  · have := (end_ e h1 h2).1; rw [h] at this; cases this
  · exact h (end_ e h1 h2).2.1
  · rw [(end_ e h1 h2).2.2, h1] at h; cases h
  · rw [(end_ e h1 h2).2.2] at h; exact h h2
  · rw [← h2]; exact evU_pk h1
end Go.V
set_option linter.unusedSimpArgs false
set_option maxRecDepth 20000
namespace Go.V
open Go.Proofs
/-- A record. -/
structure Rc where
  pos : Int
  key : ByteArray
  evs : List Ev
abbrev cR (r : Rc) : List V := [.s (.int .i64 r.pos), .s (.string r.key), .sl (en cE r.evs)]
abbrev tRc (r : Rc) : T := .pt (.agg ((cR r).map .v))
structure RcB (r : Rc) : Prop where
  key : r.key.size ≤ 2000000
  len : r.evs.length ≤ 2000000
  evs : ∀ e ∈ r.evs, EvB e
def pkEs : List Ev → List UInt8
  | [] => []
  | e :: es => byt (((pkE e).length / 256 : Nat) : Int) :: byt (((pkE e).length % 256 : Nat) : Int) :: (pkE e ++ pkEs es)
theorem pkEs_app : ∀ a b : List Ev, pkEs (a ++ b) = pkEs a ++ pkEs b
  | [], b => rfl
  | e :: a, b => by simp only [List.cons_append, pkEs, pkEs_app a b, List.append_assoc]
theorem pkEs_snoc {es : List Ev} {i : Nat} {e : Ev} (h : es[i]? = some e) : pkEs (es.take (i + 1)) = pkEs (es.take i) ++ (byt (((pkE e).length / 256 : Nat) : Int) :: byt (((pkE e).length % 256 : Nat) : Int) :: pkE e) := by
  have : es.take (i + 1) = es.take i ++ [e] := by rw [List.take_add_one, h]; rfl
  rw [this, pkEs_app, pkEs, pkEs, List.append_nil]
def pkR (r : Rc) : List UInt8 := pkX r.key ++ byt r.evs.length :: pkEs r.evs
noncomputable def recB (r : Rc) : Bool := (decide (1 ≤ r.pos) && decide (r.pos ≤ 999999)) && (nameOk r.key && ((decide (1 ≤ (r.evs.length : Int)) && decide ((r.evs.length : Int) ≤ 40)) && r.evs.all evOk))
noncomputable def rcOk (r : Rc) : Bool := recB r && decide (((pkR r).length : Int) ≤ 2000)
theorem pkEs_le : ∀ es : List Ev, (∀ e ∈ es, evOk e = true) → (pkEs es).length ≤ 9002 * es.length
  | [], _ => by simp [pkEs]
  | e :: es, h => by
    have h1 := pkE_le (h e (by simp))
    have h2 := pkEs_le es fun x hx => h x (by simp [hx])
    simp only [pkEs, List.length_cons, List.length_append]
    omega
theorem recB_inv {r : Rc} (h : recB r = true) : (1 ≤ r.pos ∧ r.pos ≤ 999999) ∧ nameOk r.key = true ∧ 1 ≤ r.evs.length ∧ r.evs.length ≤ 40 ∧ ∀ e ∈ r.evs, evOk e = true := by
  simp only [recB, Bool.and_eq_true, decide_eq_true_eq, List.all_eq_true] at h
  exact ⟨h.1, h.2.1, by omega, by omega, h.2.2.2⟩
def ok95 := okF.gu (P := Tryz.prog) tab Tryz.func95 Tryz.ntmps95 (by conv => lhs; cbv) (by kernel_rfl)
def inv95 (r : Rc) (i : Nat) (σ : St) : Prop :=
  (∃ u, σ.t 1 = .c (.ptr 1 u 0) ∧ σ.H 1 = some (.var u 86 ((cR r).map .v))) ∧ σ.t 4 = .i i ∧ σ.t 3 = tS (ofL (pkX r.key ++ byt r.evs.length :: pkEs (r.evs.take i)))
theorem textW_ok (r : Rc) (hr : RcB r) (h : recB r = true) : ACallsF Tryz.prog 95 [tRc r] [] (tS (ofL (pkR r))) := by
  obtain ⟨_, h2, h3, h4, h5⟩ := recB_inv h
  have hk := nameOk_size h2
  have hC := shortS_ok r.key (by omega)
  have hxl := pkX_len r.key
  have f1 : fits (ofL (pkX r.key)) (ofL [byt r.evs.length]) := by rw [fits, ofL_size, ofL_size, List.length_singleton]; omega
  have b1 : bytesOf [[.s (.int .u8 (byt r.evs.length).toNat)]] = some ([byt r.evs.length].map fun b => (b.toNat : Int)) := bytesOf_enc [byt r.evs.length]
  have p1 : pushB [((byt r.evs.length).toNat : Int)] = ofL [byt r.evs.length] := pushB_enc [byt r.evs.length]
  have p2 : ∀ a b : UInt8, pushB [(a.toNat : Int), (b.toNat : Int)] = ofL [a, b] := fun a b => pushB_enc [a, b]
  refine ACallsF.intro ok95 follows fun X c0 => ?_
  simp only [go_sem, wrapb]
  refine callC hC rfl rfl rfl rfl ?_
  simp only [go_sem, bytesOf_enc, pushB_enc, wrapb, en_len, b1, p1, sStr, f1]
  have s0 : tS (ofL (pkX r.key) ++ ofL [byt r.evs.length]) = tS (ofL (pkX r.key ++ byt r.evs.length :: pkEs (r.evs.take 0))) := by rw [List.take_zero, pkEs, ofL_app]
  refine AW.upto r.evs.length (inv95 r) ?_ fun i t H c hi hI => ?_
  · exact ⟨⟨_, rfl, rfl⟩, rfl, s0⟩
  obtain ⟨⟨u1, e1, eH1⟩, e4, e3⟩ := hI
  simp only [T.c, T.i, T.s, List.map_cons, List.map_nil] at e1 eH1 e4 e3
  by_cases hlt : i < r.evs.length
  · have k0 : (i : Int) < r.evs.length := by omega
    have gz : (0 : Int) ≤ i := by omega
    have gw : IntKind.i64.wrap ((i : Int) + 1) = ((i + 1 : Nat) : Int) := wrap64 (x := (i : Int) + 1) ⟨by omega, by omega⟩
    obtain ⟨e, he⟩ : ∃ e, r.evs[i]? = some e := ⟨_, List.getElem?_eq_getElem hlt⟩
    have hm := List.mem_of_getElem? he
    have ee := en_at cE he
    have hP := packS_ok e (hr.evs e hm)
    rw [if_pos (h5 e hm)] at hP
    have hl := pkE_le (h5 e hm)
    have hpre := pkEs_le (r.evs.take i) fun x hx => h5 x (List.mem_of_mem_take hx)
    have hti : (r.evs.take i).length ≤ 40 := by rw [List.length_take]; omega
    have gq : ((pkE e).length : Int).tdiv 256 = (((pkE e).length / 256 : Nat) : Int) := rfl
    have gr : ((pkE e).length : Int).tmod 256 = (((pkE e).length % 256 : Nat) : Int) := rfl
    have gq2 : IntKind.i64.wrap (((pkE e).length / 256 : Nat) : Int) = (((pkE e).length / 256 : Nat) : Int) := wrap64 ⟨by omega, by omega⟩
    have hz : ¬ (256 : Int) = 0 := by omega
    have b2 : bytesOf [[.s (.int .u8 (byt (((pkE e).length / 256 : Nat) : Int)).toNat)], [.s (.int .u8 (byt (((pkE e).length % 256 : Nat) : Int)).toNat)]] = some ([byt (((pkE e).length / 256 : Nat) : Int), byt (((pkE e).length % 256 : Nat) : Int)].map fun b => (b.toNat : Int)) := bytesOf_enc [_, _]
    have f2 : fits (ofL (pkX r.key ++ byt r.evs.length :: pkEs (r.evs.take i))) (ofL [byt (((pkE e).length / 256 : Nat) : Int), byt (((pkE e).length % 256 : Nat) : Int)]) := by
      rw [fits, ofL_size, ofL_size]; simp only [List.length_append, List.length_cons, List.length_nil]; omega
    have f3 : fits (ofL (pkX r.key ++ byt r.evs.length :: pkEs (r.evs.take i)) ++ ofL [byt (((pkE e).length / 256 : Nat) : Int), byt (((pkE e).length % 256 : Nat) : Int)]) (ofL (pkE e)) := by
      rw [fits, ← ofL_app, ofL_size, ofL_size]; simp only [List.length_append, List.length_cons, List.length_nil]; omega
    simp only [go_sem, e1, eH1, e4, k0, gz, ee, en_len, Int.toNat_natCast]
    refine callC hP rfl rfl (by simp [closedA, closedP, closedC]) rfl ?_
    simp only [go_sem, e3, encB_len, gq, gr, gq2, hz, wrapb, b2, p2, pushB_enc, bytesOf_enc, sStr, f2, f3, e4, gw]
    have s1 : tS (ofL (pkX r.key ++ byt r.evs.length :: pkEs (r.evs.take i)) ++ ofL [byt (((pkE e).length / 256 : Nat) : Int), byt (((pkE e).length % 256 : Nat) : Int)] ++ ofL (pkE e)) = tS (ofL (pkX r.key ++ byt r.evs.length :: pkEs (r.evs.take (i + 1)))) := by
      rw [pkEs_snoc he, ← ofL_app, ← ofL_app]
      simp only [List.append_assoc, List.cons_append, List.nil_append]
    exact ⟨hlt, ⟨u1, e1, eH1⟩, rfl, s1⟩
  · have hi2 : i = r.evs.length := by omega
    subst hi2
    have k0 : ¬ (r.evs.length : Int) < r.evs.length := by omega
    rw [List.take_length] at e3
    simp only [go_sem, e1, eH1, e4, e3, k0, en_len]
    rfl
def ok94 := okF.gu (P := Tryz.prog) tab Tryz.func94 Tryz.ntmps94 (by conv => lhs; cbv) (by kernel_rfl)
def inv94 (r : Rc) (i : Nat) (σ : St) : Prop := (∃ u, σ.t 1 = .c (.ptr 1 u 0) ∧ σ.H 1 = some (.var u 86 ((cR r).map .v))) ∧ σ.t 3 = .i i
theorem firstBad (es : List Ev) : (∀ e ∈ es, evOk e = true) ∨ ∃ (N : Nat) (e : Ev), es[N]? = some e ∧ evOk e = false ∧ ∀ j x, j < N → es[j]? = some x → evOk x = true := by
  induction es with
  | nil => exact .inl fun e h => by cases h
  | cons e es ih =>
    cases h : evOk e with
    | false => exact .inr ⟨0, e, rfl, h, fun j x hj => by omega⟩
    | true =>
      rcases ih with ih | ⟨N, y, h1, h2, h3⟩
      · exact .inl fun x hx => by rcases List.mem_cons.1 hx with rfl | hx; exact h; exact ih x hx
      · refine .inr ⟨N + 1, y, h1, h2, fun j x hj hx => ?_⟩
        cases j with
        | zero => simp at hx; subst hx; exact h
        | succ j => exact h3 j x (by omega) (by simpa using hx)
theorem recOkS_ok (r : Rc) (hr : RcB r) : ACallsF Tryz.prog 94 [tRc r] [] (.b (rcOk r)) := by
  have hC1 := l6In_ok r.pos 1 999999
  have hC2 := nameOk_ok r.key (by have := hr.key; omega)
  have hC3 := l6In_ok r.evs.length 1 40
  have hlen := hr.len
  cases h1 : (decide (1 ≤ r.pos) && decide (r.pos ≤ 999999)) with
  | false =>
    have hv : rcOk r = false := by simp only [rcOk, recB, h1, Bool.false_and]
    rw [h1] at hC1
    refine ACallsF.intro ok94 follows fun X c0 => ?_
    simp only [go_sem]
    refine callC hC1 rfl rfl rfl rfl ?_
    simp only [go_sem, hv]
  | true =>
  rw [h1] at hC1
  cases h2 : nameOk r.key with
  | false =>
    have hv : rcOk r = false := by simp only [rcOk, recB, h2, Bool.false_and, Bool.and_false]
    rw [h2] at hC2
    refine ACallsF.intro ok94 follows fun X c0 => ?_
    simp only [go_sem]
    refine callC hC1 rfl rfl rfl rfl ?_
    simp only [go_sem]
    refine callC hC2 rfl rfl rfl rfl ?_
    simp only [go_sem, hv]
  | true =>
  rw [h2] at hC2
  cases h3 : (decide (1 ≤ (r.evs.length : Int)) && decide ((r.evs.length : Int) ≤ 40)) with
  | false =>
    have hv : rcOk r = false := by simp only [rcOk, recB, h3, Bool.false_and, Bool.and_false]
    rw [h3] at hC3
    refine ACallsF.intro ok94 follows fun X c0 => ?_
    simp only [go_sem]
    refine callC hC1 rfl rfl rfl rfl ?_
    simp only [go_sem]
    refine callC hC2 rfl rfl rfl rfl ?_
    simp only [go_sem, en_len]
    refine callC hC3 rfl rfl rfl rfl ?_
    simp only [go_sem, hv]
  | true =>
  rw [h3] at hC3
  refine ACallsF.intro ok94 follows fun X c0 => ?_
  simp only [go_sem]
  refine callC hC1 rfl rfl rfl rfl ?_
  simp only [go_sem]
  refine callC hC2 rfl rfl rfl rfl ?_
  simp only [go_sem, en_len]
  refine callC hC3 rfl rfl rfl rfl ?_
  simp only [go_sem]
  rcases firstBad r.evs with hall | ⟨N, eb, hN, hbad, hgood⟩
  · have hb : recB r = true := by simp only [recB, h1, h2, h3, Bool.true_and, List.all_eq_true]; exact hall
    have hT := textW_ok r hr hb
    have hle := pkEs_le r.evs hall
    refine AW.upto r.evs.length (inv94 r) ⟨⟨_, rfl, rfl⟩, rfl⟩ fun i t H c hi hI => ?_
    obtain ⟨⟨u1, e1, eH1⟩, e3⟩ := hI
    simp only [T.c, T.i, List.map_cons, List.map_nil] at e1 eH1 e3
    by_cases hlt : i < r.evs.length
    · have k0 : (i : Int) < r.evs.length := by omega
      have gz : (0 : Int) ≤ i := by omega
      have gw : IntKind.i64.wrap ((i : Int) + 1) = ((i + 1 : Nat) : Int) := wrap64 (x := (i : Int) + 1) ⟨by omega, by omega⟩
      obtain ⟨e, he⟩ : ∃ e, r.evs[i]? = some e := ⟨_, List.getElem?_eq_getElem hlt⟩
      have hm := List.mem_of_getElem? he
      have ee := en_at cE he
      have hP := evOkS_ok e (hr.evs e hm)
      rw [hall e hm] at hP
      simp only [go_sem, e1, eH1, e3, k0, gz, ee, en_len, Int.toNat_natCast]
      refine callC hP rfl rfl (by simp [closedA, closedP, closedC]) rfl ?_
      simp only [go_sem, e3, gw]
      exact ⟨hlt, ⟨u1, e1, eH1⟩, rfl⟩
    · have k0 : ¬ (i : Int) < r.evs.length := by omega
      have hv : rcOk r = decide (((pkR r).length : Int) ≤ 2000) := by rw [rcOk, hb, Bool.true_and]
      simp only [go_sem, e1, eH1, e3, k0, en_len]
      refine callC hT rfl rfl (by simp [closedA, closedP, closedC]) rfl ?_
      simp only [go_sem, ofL_size, hv]
  · have hv : rcOk r = false := by
      have : r.evs.all evOk = false := by
        rw [Bool.eq_false_iff]
        intro h
        rw [List.all_eq_true.1 h eb (List.mem_of_getElem? hN)] at hbad; cases hbad
      simp only [rcOk, recB, this, Bool.and_false, Bool.false_and]
    have hNl := (List.getElem?_eq_some_iff.1 hN).1
    refine AW.upto N (inv94 r) ⟨⟨_, rfl, rfl⟩, rfl⟩ fun i t H c hi hI => ?_
    obtain ⟨⟨u1, e1, eH1⟩, e3⟩ := hI
    simp only [T.c, T.i, List.map_cons, List.map_nil] at e1 eH1 e3
    have k0 : (i : Int) < r.evs.length := by omega
    have gz : (0 : Int) ≤ i := by omega
    have gw : IntKind.i64.wrap ((i : Int) + 1) = ((i + 1 : Nat) : Int) := wrap64 (x := (i : Int) + 1) ⟨by omega, by omega⟩
    obtain ⟨e, he⟩ : ∃ e, r.evs[i]? = some e := ⟨_, List.getElem?_eq_getElem (by omega)⟩
    have hm := List.mem_of_getElem? he
    have ee := en_at cE he
    have hP := evOkS_ok e (hr.evs e hm)
    by_cases hlt : i < N
    · rw [hgood i e hlt he] at hP
      simp only [go_sem, e1, eH1, e3, k0, gz, ee, en_len, Int.toNat_natCast]
      refine callC hP rfl rfl (by simp [closedA, closedP, closedC]) rfl ?_
      simp only [go_sem, e3, gw]
      exact ⟨hlt, ⟨u1, e1, eH1⟩, rfl⟩
    · have hi2 : i = N := by omega
      subst hi2
      rw [hN] at he; cases he
      rw [hbad] at hP
      simp only [go_sem, e1, eH1, e3, k0, gz, ee, en_len, Int.toNat_natCast]
      refine callC hP rfl rfl (by simp [closedA, closedP, closedC]) rfl ?_
      simp only [go_sem, hv]
def ok71 := okF.gu (P := Tryz.prog) tab Tryz.func71 Tryz.ntmps71 (by conv => lhs; cbv) (by kernel_rfl)
theorem recPackS_ok (r : Rc) (hr : RcB r) : ACallsF Tryz.prog 71 [tRc r] [] (tS (if rcOk r = true then ofL (pkR r) else ⟨#[]⟩)) := by
  have hC := recOkS_ok r hr
  refine ACallsF.intro ok71 follows fun X c0 => ?_
  simp only [go_sem]
  refine callC hC rfl rfl (by simp [closedA, closedP, closedC]) rfl ?_
  cases h : rcOk r with
  | false => simp only [go_sem]
  | true =>
    have hT := textW_ok r hr (by simp only [rcOk, Bool.and_eq_true] at h; exact h.1)
    simp only [go_sem]
    refine callC hT rfl rfl (by simp [closedA, closedP, closedC]) rfl ?_
    simp only [go_sem]
end Go.V
set_option linter.unusedSimpArgs false
namespace Go.V
open Go.Proofs
theorem TOk_TB : ∀ (t : Tr) (d : Nat), TOk d t → tparts t ≤ 200 → TB 200 t := by
  intro t
  induction t using Tr.ind with
  | _ s n x ns ks ih =>
    intro d h hp
    obtain ⟨_, hsh, hk⟩ := h.inv
    simp only [tparts] at hp
    have hkl := tpartsL_len ks
    have hks : ∀ k ∈ ks, TB 200 k := fun k hm => ih k hm (d + 1) (hk k hm) (by have := tpartsL_mem hm; omega)
    rcases shape_cases hsh with ⟨_, _, _, rfl, rfl, _⟩ | ⟨_, _, a1, rfl, _⟩ | ⟨_, _, _, rfl, rfl, _⟩ | ⟨_, _, rfl, rfl⟩ | ⟨_, _, rfl, a1, a2⟩ | ⟨_, _, rfl, rfl⟩
    all_goals refine .mk _ _ _ _ _ (by first | omega | simp [ByteArray.size]) (by first | omega | simp) (by omega) (fun y hy => ?_) hks
    all_goals first | (cases hy; done) | (have := a1 y hy; omega)
theorem evOk_B {e : Ev} (h : evOk e = true) : EvB e := by
  simp only [evOk, Bool.and_eq_true] at h
  obtain ⟨k1, k2⟩ := okT_true.1 h.2.2.2
  exact ⟨by have := nameOk_size h.1; omega, (TOk_TB _ _ k1 (by omega)).le (by omega)⟩
/-! Records, read back. -/
def pR (bs : List UInt8) (p : Nat × Bool) : Nat × Bool := (oneS bs (oneS bs p).2).2
def szR (bs : List UInt8) (p : Nat × Bool) : Nat := (oneS bs p).1 * 256 + (oneS bs (oneS bs p).2).1
noncomputable def evR (bs : List UInt8) (p : Nat × Bool) : Ev × Bool := evU ((bs.drop (pR bs p).1).take (szR bs p))
noncomputable def rkS (bs : List UInt8) : Nat → List Ev → Nat × Bool → Option (List Ev × (Nat × Bool))
  | 0, es, p => some (es, p)
  | n + 1, es, p => if p.2 = true then some (es, p) else if (pR bs p).2 = true ∨ bs.length - (pR bs p).1 < szR bs p then none else
      if (evR bs p).2 = true then rkS bs n (es ++ [(evR bs p).1]) ((pR bs p).1 + szR bs p, (pR bs p).2) else none
theorem rkS_bad (bs : List UInt8) (n : Nat) (es : List Ev) (p : Nat × Bool) (h : p.2 = true) : rkS bs n es p = some (es, p) := by
  cases n with
  | zero => rfl
  | succ n => rw [rkS, if_pos h]
theorem rkS_ok (bs : List UInt8) : ∀ (es es0 : List Ev) (p : Nat × Bool) (l : List UInt8), (∀ e ∈ es, evOk e = true) → HasS bs p (pkEs es ++ l) → ∃ p', rkS bs es.length es0 p = some (es0 ++ es, p') ∧ HasS bs p' l
  | [], es0, p, l, _, h => ⟨p, by rw [List.append_nil]; rfl, h⟩
  | e :: es, es0, p, l, he, h => by
    have hl := pkE_le (he e (by simp))
    rw [pkEs] at h
    obtain ⟨e1, h1⟩ := HasS.one (l := byt (((pkE e).length % 256 : Nat) : Int) :: (pkE e ++ pkEs es) ++ l) h
    obtain ⟨e2, h2⟩ := HasS.one (l := (pkE e ++ pkEs es) ++ l) h1
    rw [byt_nat (by omega)] at e1 e2
    have hsz : szR bs p = (pkE e).length := by rw [szR, e1, e2]; simp only; omega
    have hpR : pR bs p = (p.1 + 1 + 1, false) := by rw [pR, e1, e2]
    obtain ⟨g1, g2, g3⟩ := h2
    simp only at g2 g3
    have hle : (pkE e).length ≤ bs.length - (p.1 + 1 + 1) := by
      have := congrArg List.length g3
      simp only [List.length_drop, List.length_append] at this
      omega
    have hev : evR bs p = (e, true) := by
      rw [evR, hpR, hsz]
      simp only
      rw [g3, List.append_assoc, List.take_append_of_le_length (Nat.le_refl _), List.take_length]
      exact evU_pk (he e (by simp))
    have hn : HasS bs (p.1 + 1 + 1 + (pkE e).length, false) (pkEs es ++ l) := by
      refine ⟨rfl, by show p.1 + 1 + 1 + (pkE e).length ≤ _; omega, ?_⟩
      show bs.drop (p.1 + 1 + 1 + (pkE e).length) = _
      rw [← List.drop_drop, g3, List.append_assoc, List.drop_append_of_le_length (Nat.le_refl _), List.drop_length, List.nil_append]
    obtain ⟨p', i1, i2⟩ := rkS_ok bs es (es0 ++ [e]) _ l (fun x hx => he x (by simp [hx])) hn
    refine ⟨p', ?_, i2⟩
    rw [List.length_cons, rkS, if_neg (by rw [h.1]; simp), hpR, hsz, if_neg (fun h => by rcases h with h | h; cases h; simp only at h; omega), hev, if_pos rfl]
    simp only
    rw [i1]
    simp
/-- What is read of a record's bytes. -/
theorem rec_back {r : Rc} (h : recB r = true) {bs : List UInt8} (hb : pkR r = bs) : ∃ p1 p2 p3, textS bs (0, false) = (r.key, p1) ∧ oneS bs p1 = (r.evs.length, p2) ∧ rkS bs r.evs.length [] p2 = some (r.evs, p3) ∧ p3.2 = false := by
  obtain ⟨_, h2, h3, h4, h5⟩ := recB_inv h
  have hk := nameOk_size h2
  subst hb
  have h0 : HasS (pkR r) (0, false) (pkX r.key ++ (byt r.evs.length :: (pkEs r.evs ++ []))) := ⟨rfl, Nat.zero_le _, by rw [List.append_nil]; rfl⟩
  obtain ⟨t1, t2⟩ := HasS.text (by omega) h0
  obtain ⟨o1, o2⟩ := t2.one
  rw [byt_nat (by omega)] at o1
  obtain ⟨p', i1, i2⟩ := rkS_ok (pkR r) r.evs [] _ [] h5 o2
  exact ⟨_, _, p', t1, o1, i1, i2.1⟩
theorem pkR_inj {r r' : Rc} (h : recB r = true) (h' : recB r' = true) (hp : r.pos = r'.pos) (hb : pkR r = pkR r') : r = r' := by
  obtain ⟨p1, p2, p3, a1, a2, a3, _⟩ := rec_back h hb
  obtain ⟨q1, q2, q3, b1, b2, b3, _⟩ := rec_back h' rfl
  obtain ⟨hk, hq1⟩ := Prod.mk.inj (a1.symm.trans b1)
  subst hq1
  obtain ⟨hl, hq2⟩ := Prod.mk.inj (a2.symm.trans b2)
  subst hq2
  rw [← hl, a3] at b3
  have he : r.evs = r'.evs := by simpa using congrArg (Option.map (·.1)) b3
  cases r; cases r'
  simp only at hp hk he
  rw [hp, hk, he]
def zR : Rc := ⟨0, ⟨#[]⟩, []⟩
noncomputable def unpR (pos : Int) (d : ByteArray) : Rc × Bool := @dite _ (∃ r, rcOk r = true ∧ r.pos = pos ∧ ofL (pkR r) = d) (Classical.propDecidable _) (fun h => (h.choose, true)) fun _ => (zR, false)
theorem rcOk_B {r : Rc} (h : rcOk r = true) : recB r = true := by simp only [rcOk, Bool.and_eq_true] at h; exact h.1
theorem unpR_pk {r : Rc} (h : rcOk r = true) : unpR r.pos (ofL (pkR r)) = (r, true) := by
  have hx : ∃ r', rcOk r' = true ∧ r'.pos = r.pos ∧ ofL (pkR r') = ofL (pkR r) := ⟨r, h, rfl, rfl⟩
  unfold unpR
  rw [dif_pos hx]
  obtain ⟨g1, g2, g3⟩ := hx.choose_spec
  rw [pkR_inj (rcOk_B g1) (rcOk_B h) g2 (ofL_inj g3)]
theorem unpR_no {pos : Int} {d : ByteArray} (h : ∀ r, rcOk r = true → r.pos = pos → ofL (pkR r) ≠ d) : unpR pos d = (zR, false) := by
  unfold unpR
  rw [dif_neg]
  rintro ⟨r, h1, h2, h3⟩
  exact h r h1 h2 h3
theorem ext_take (d : ByteArray) (a n : Nat) : eBs (d.extract a (a + n)) = encB ((d.data.toList.drop a).take n) := by
  have : (d.extract a (a + n)).data.toList = (d.data.toList.drop a).take n := by
    rw [ByteArray.data_extract, Array.toList_extract, List.extract_eq_take_drop, Nat.add_sub_cancel_left]
  rw [eBs_enc, this]
end Go.V
set_option linter.unusedSimpArgs false
set_option maxRecDepth 20000
namespace Go.V
open Go.Proofs
abbrev tRb (r : Rc × Bool) : T := .tup [.agg ((cR r.1).map .v), .one (.v (.s (.bool r.2)))]
noncomputable def pkd (r : Rc) : ByteArray := if rcOk r = true then ofL (pkR r) else ⟨#[]⟩
def ok40 := okF.gu (P := Tryz.prog) tab Tryz.func40 Tryz.ntmps40 (by conv => lhs; cbv) (by kernel_rfl)
def inv40 (pos : Int) (d : ByteArray) (w : Nat) (key : ByteArray) (R : Option (List Ev × (Nat × Bool))) (n : Nat) (σ : St) : Prop :=
  ∃ (es : List Ev) (p : Nat × Bool), rkS d.data.toList n es p = R ∧ p.1 ≤ d.data.toList.length ∧ es.length + n ≤ 255 ∧ (∀ e ∈ es, evOk e = true) ∧ σ.t 0 = .i pos ∧ σ.t 1 = tS d ∧ σ.t 6 = .c (.ptr 19 w 0) ∧ σ.H 19 = some (.var w 113 ((rcS d.data.toList p).map .v)) ∧ σ.t 8 = .i n ∧
    (∃ u, σ.t 4 = .c (.ptr 4 u 0) ∧ σ.H 4 = some (.var u 86 [.v (.s (.int .i64 0)), .v (.s (.string ⟨#[]⟩)), .nil0])) ∧ σ.t 5 = .b false ∧
    ∃ u a, σ.t 7 = .c (.ptr 7 u 0) ∧ σ.H 7 = some (.var u 86 [.v (.s (.int .i64 pos)), .v (.s (.string key)), .own 2007 a es.length]) ∧ σ.H 2007 = some (.arr a true 7 120 (en cE es))
def Done (pos : Int) (d : ByteArray) (w : Nat) (key : ByteArray) (es : List Ev) (p : Nat × Bool) (σ : St) : Prop :=
  es.length ≤ 255 ∧ (∀ e ∈ es, evOk e = true) ∧ σ.t 0 = .i pos ∧ σ.t 1 = tS d ∧ σ.t 6 = .c (.ptr 19 w 0) ∧ σ.H 19 = some (.var w 113 ((rcS d.data.toList p).map .v)) ∧
    (∃ u, σ.t 4 = .c (.ptr 4 u 0) ∧ σ.H 4 = some (.var u 86 [.v (.s (.int .i64 0)), .v (.s (.string ⟨#[]⟩)), .nil0])) ∧ σ.t 5 = .b false ∧
    ∃ u a, σ.t 7 = .c (.ptr 7 u 0) ∧ σ.H 7 = some (.var u 86 [.v (.s (.int .i64 pos)), .v (.s (.string key)), .own 2007 a es.length]) ∧ σ.H 2007 = some (.arr a true 7 120 (en cE es))
set_option maxHeartbeats 4000000 in
theorem recUnS_ok (pos : Int) (d : ByteArray) (hd : d.size ≤ 4611686018427387904) : ACallsF Tryz.prog 40 [.i pos, tS d] [] (tRb (unpR pos d)) := by
  have hz : cR zR = [.s (.int .i64 0), .s (.string ⟨#[]⟩), .sl []] := rfl
  have hbl : d.data.toList.length = d.size := by rw [Array.length_toList]; rfl
  by_cases h9 : d.size > 2000
  · have k0 : (d.size : Int) > 2000 := by omega
    have hno : unpR pos d = (zR, false) := unpR_no fun r h1 _ h2 => by
      simp only [rcOk, Bool.and_eq_true, decide_eq_true_eq] at h1
      have := ofL_size (pkR r)
      rw [h2] at this
      omega
    rw [hno]
    refine ACallsF.intro ok40 follows fun X c0 => ?_
    simp only [go_sem, k0, hz]
  have k0 : ¬ (d.size : Int) > 2000 := by omega
  have hbs : d.data.toList.length ≤ 1000000 := by omega
  have hT := textS_ok d.data.toList hbs (0, false) (Nat.zero_le _) 19
  have hTl := textS_le d.data.toList (0, false) (Nat.zero_le _)
  have hTb := RS_B d.data.toList (0, false)
  have hback : ∀ r, rcOk r = true → r.pos = pos → ofL (pkR r) = d → ∃ p1 p2 p3, textS d.data.toList (0, false) = (r.key, p1) ∧ oneS d.data.toList p1 = (r.evs.length, p2) ∧ rkS d.data.toList r.evs.length [] p2 = some (r.evs, p3) ∧ p3.2 = false := fun r h1 _ h2 =>
    rec_back (rcOk_B h1) (by rw [← h2, ofL_toL])
  generalize textS d.data.toList (0, false) = q at *
  obtain ⟨key, p1⟩ := q
  simp only at hT hTl hTb
  have hO := oneS_ok d.data.toList hbs p1 hTl 19
  obtain ⟨hOl, hOb⟩ := oneS_le d.data.toList p1 hTl
  have hback2 : ∀ r, rcOk r = true → r.pos = pos → ofL (pkR r) = d → key = r.key ∧ ∃ p2 p3, oneS d.data.toList p1 = (r.evs.length, p2) ∧ rkS d.data.toList r.evs.length [] p2 = some (r.evs, p3) ∧ p3.2 = false := fun r h1 h2 h3 => by
    obtain ⟨q1, q2, q3, a1, a2, a3, a4⟩ := hback r h1 h2 h3
    obtain ⟨hk, hq⟩ := Prod.mk.inj a1
    subst hq
    exact ⟨hk, q2, q3, a2, a3, a4⟩
  clear hback
  generalize oneS d.data.toList p1 = q at *
  obtain ⟨n0, p2⟩ := q
  simp only at hO hOl hOb
  have hback3 : ∀ r, rcOk r = true → r.pos = pos → ofL (pkR r) = d → key = r.key ∧ ∃ p3, rkS d.data.toList n0 [] p2 = some (r.evs, p3) ∧ p3.2 = false := fun r h1 h2 h3 => by
    obtain ⟨hk, q2, q3, a2, a3, a4⟩ := hback2 r h1 h2 h3
    obtain ⟨hl, hq⟩ := Prod.mk.inj a2
    subst hq
    rw [← hl] at a3
    exact ⟨hk, q3, a3, a4⟩
  clear hback2
  generalize hres : rkS d.data.toList n0 [] p2 = res at *
  have run : ∀ r : Rc × Bool, (res = none → r = (zR, false)) → (∀ es p3, res = some (es, p3) → (p3.2 = true → r = (zR, false)) ∧ (p3.2 = false → pkd ⟨pos, key, es⟩ ≠ d → r = (zR, false)) ∧ (p3.2 = false → pkd ⟨pos, key, es⟩ = d → d = ⟨#[]⟩ → r = (zR, false)) ∧ (p3.2 = false → pkd ⟨pos, key, es⟩ = d → d ≠ ⟨#[]⟩ → r = (⟨pos, key, es⟩, true))) → ACallsF Tryz.prog 40 [.i pos, tS d] [] (tRb r) := by
    intro r r1 r2
    refine ACallsF.intro ok40 follows fun X c0 => ?_
    have loop : ∀ (Q : Exit → St → Prop) (w : Nat) (t : Nat → T) (H : HMap) (c : Nat), inv40 pos d w key res n0 ⟨t, H, c⟩ → (∀ t H c es p, res = some (es, p) → Done pos d w key es p ⟨t, H, c⟩ → Q (.exit 0) ⟨t, H, c⟩) →
        (res = none → ∀ t H c u, t 4 = .c (.ptr 4 u 0) → H 4 = some (.var u 86 [.v (.s (.int .i64 0)), .v (.s (.string ⟨#[]⟩)), .nil0]) → t 5 = .b false → Q .ret ⟨t, H, c⟩) →
        oneW Tryz.prog X (ok40.sub [1, 1, 1, 1, 0, 1, 0]) Q ⟨t, H, c⟩ := by
      intro Q w t0 H0 c0' h0 hQ hR
      dsimp only [okF.sub, ACode.sub]
      refine AW.loopM (inv40 pos d w key res) (fun k => k) n0 h0 fun n σ hI => ?_
      obtain ⟨t, H, c⟩ := σ
      obtain ⟨es, p, hp, hpl, hel, hev, e0, e1, e6, eH, e8, ⟨u4, e4, eH4⟩, e5, u7, a, e7, eH7, eHa⟩ := hI
      obtain ⟨at_, bad⟩ := p
      simp only [T.c, T.i, T.s, T.b, List.map_cons, List.map_nil] at e0 e1 e6 eH e8 e4 eH4 e5 e7 eH7 eHa hpl
      cases n with
      | zero =>
        rw [rkS] at hp
        have k1 : ¬ ((0 : Nat) : Int) > 0 := by omega
        refine oneW.of ?_
        simp only [go_sem, e8, k1]
        exact hQ _ _ _ es (at_, bad) hp.symm ⟨by omega, hev, e0, e1, e6, eH, ⟨u4, e4, eH4⟩, e5, u7, a, e7, eH7, eHa⟩
      | succ n =>
        have k1 : ((n + 1 : Nat) : Int) > 0 := by omega
        cases bad with
        | true =>
          rw [rkS_bad _ _ _ _ rfl] at hp
          refine oneW.of ?_
          simp only [go_sem, e8, k1, e6, eH]
          exact hQ _ _ _ es (at_, true) hp.symm ⟨by omega, hev, e0, e1, e6, eH, ⟨u4, e4, eH4⟩, e5, u7, a, e7, eH7, eHa⟩
        | false =>
          rw [rkS, if_neg (by simp)] at hp
          have hC1 := oneS_ok d.data.toList hbs (at_, false) hpl 19 w
          obtain ⟨hl1, hb1⟩ := oneS_le d.data.toList (at_, false) hpl
          rcases ho1 : oneS d.data.toList (at_, false) with ⟨hi, q1⟩
          rw [ho1] at hC1 hl1 hb1
          simp only at hC1 hl1 hb1
          have hC2 := oneS_ok d.data.toList hbs q1 hl1 19 w
          obtain ⟨hl2, hb2⟩ := oneS_le d.data.toList q1 hl1
          rcases ho2 : oneS d.data.toList q1 with ⟨lo, at2_, bad2⟩
          rw [ho2] at hC2 hl2 hb2
          simp only at hC2 hl2 hb2
          have hpR : pR d.data.toList (at_, false) = (at2_, bad2) := by rw [pR, ho1]; simp only; rw [ho2]
          have hsz : szR d.data.toList (at_, false) = hi * 256 + lo := by rw [szR, ho1]; simp only; rw [ho2]
          have hevR : evR d.data.toList (at_, false) = evU ((d.data.toList.drop at2_).take (hi * 256 + lo)) := by rw [evR, hpR, hsz]
          rw [hpR, hsz, hevR] at hp
          have g1 : IntKind.i64.wrap ((hi : Int) * 256) = ((hi * 256 : Nat) : Int) := (wrap64 (x := (hi : Int) * 256) ⟨by omega, by omega⟩).trans (by omega)
          have g2 : IntKind.i64.wrap (((hi * 256 : Nat) : Int) + lo) = ((hi * 256 + lo : Nat) : Int) := wrap64 (x := ((hi * 256 : Nat) : Int) + lo) ⟨by omega, by omega⟩
          have hsmall : hi * 256 + lo ≤ 70000 := by omega
          generalize hi * 256 + lo = sz at *
          refine oneW.of ?_
          simp only [go_sem, e8, k1, e6, eH]
          refine callQ (m := 19) hC1 rfl rfl rfl rfl eH ⟨?_, ?_⟩
          · simp only [go_sem]
          simp only [go_sem, g1, e6]
          refine callQ (m := 19) hC2 rfl rfl rfl rfl rfl ⟨?_, ?_⟩
          · simp only [go_sem]
          cases bad2 with
          | true =>
            rw [if_pos (.inl rfl)] at hp
            simp only [go_sem, g2, e6, List.map_cons, List.map_nil, e4, eH4]
            exact hR hp.symm _ _ _ _ e4 rfl rfl
          | false =>
            have g3 : IntKind.i64.wrap ((d.size : Int) - at2_) = ((d.data.toList.length - at2_ : Nat) : Int) := (wrap64 (x := (d.size : Int) - at2_) ⟨by omega, by omega⟩).trans (by omega)
            by_cases hs : d.data.toList.length - at2_ < sz
            · rw [if_pos (.inr hs)] at hp
              have k2 : (sz : Int) > ((d.data.toList.length - at2_ : Nat) : Int) := by omega
              simp only [go_sem, g2, e6, List.map_cons, List.map_nil, e1, g3, k2, e4, eH4]
              exact hR hp.symm _ _ _ _ e4 rfl rfl
            · rw [if_neg (by rintro (h | h); cases h; exact hs h)] at hp
              have k2 : ¬ (sz : Int) > ((d.data.toList.length - at2_ : Nat) : Int) := by omega
              have g4 : IntKind.i64.wrap ((at2_ : Int) + sz) = ((at2_ + sz : Nat) : Int) := wrap64 (x := (at2_ : Int) + sz) ⟨by omega, by omega⟩
              have j0 : (0 : Int) ≤ at2_ := by omega
              have j1 : (at2_ : Int) ≤ ((at2_ + sz : Nat) : Int) := by omega
              have j2 : ((at2_ + sz : Nat) : Int) ≤ d.size := by omega
              have hU := unpackS_ok ((d.data.toList.drop at2_).take sz) (by rw [List.length_take]; omega)
              have hUt := @evU_true ((d.data.toList.drop at2_).take sz)
              rcases hu : evU ((d.data.toList.drop at2_).take sz) with ⟨e, ok⟩
              rw [hu] at hU hUt hp
              simp only at hUt hp
              simp only [go_sem, g2, e6, List.map_cons, List.map_nil, e1, g3, k2, g4, lohi, j0, j1, j2, Int.toNat_natCast, ext_take]
              refine callC hU rfl rfl (by simp [closedA, closedP, closedC]) (by simp [closedT, closedP, closedC]) ?_
              cases ok with
              | false =>
                rw [if_neg (by simp)] at hp
                simp only [go_sem, e4, eH4]
                exact hR hp.symm _ _ _ _ e4 rfl rfl
              | true =>
                rw [if_pos rfl] at hp
                have w1 : (es.length + 1) * 104 ≤ 140737488355328 := by omega
                have w2 : es.length + 1 ≤ 9223372036854775807 := by omega
                have w3 : es.length ≤ (en cE es).length := by rw [en_len]; omega
                have tk : List.take es.length (en cE es) = en cE es := en_take cE es
                have gn : IntKind.i64.wrap (((n + 1 : Nat) : Int) - 1) = (n : Int) := (wrap64 (x := ((n + 1 : Nat) : Int) - 1) ⟨by omega, by omega⟩).trans (by omega)
                simp only [go_sem, e7, eH7, eHa, w1, w2, w3, tk, e6, g4, e8, gn]
                refine ⟨n, Nat.lt_succ_self _, es ++ [e], (at2_ + sz, false), ?_⟩
                simp only [List.length_append, List.length_singleton, en_snoc]
                refine ⟨hp, by omega, by omega, fun x hx => ?_, e0, e1, e6, rfl, rfl, ⟨u4, e4, eH4⟩, e5, u7, _, e7, rfl, rfl⟩
                rcases List.mem_append.1 hx with h | h
                · exact hev x h
                · rw [List.mem_singleton.1 h]; exact (hUt rfl).1
    simp only [go_sem, k0]
    refine callQ (m := 19) (hT _) rfl rfl rfl rfl rfl ⟨?_, ?_⟩
    · simp only [go_sem]
    simp only [go_sem]
    refine callQ (m := 19) (hO _) rfl rfl rfl rfl rfl ⟨?_, ?_⟩
    · simp only [go_sem]
    simp only [go_sem]
    refine AW.reify 7 2 2007 7 120 rfl rfl rfl (by decide) ?_
    refine loop _ _ _ _ _ ⟨[], p2, hres, hOl, by simp only [List.length_nil]; omega, (fun _ h => by cases h), rfl, rfl, rfl, rfl, rfl, ⟨_, rfl, rfl⟩, rfl, _, _, rfl, rfl, rfl⟩ (fun t H c es p hr hD => ?_) fun hr t H c u e4 eH4 e5 => ?_
    · obtain ⟨hel, hev, e0, e1, e6, eH, ⟨u4, e4, eH4⟩, e5, u7, a, e7, eH7, eHa⟩ := hD
      obtain ⟨at_, bad⟩ := p
      obtain ⟨s1, s2, s3, s4⟩ := r2 es (at_, bad) hr
      simp only [T.c, T.i, T.s, T.b, List.map_cons, List.map_nil] at e0 e1 e6 eH e4 eH4 e5 e7 eH7 eHa s1 s2 s3 s4
      have w3 : es.length ≤ (en cE es).length := by rw [en_len]; omega
      have tk : List.take es.length (en cE es) = en cE es := en_take cE es
      have hP := recPackS_ok ⟨pos, key, es⟩ ⟨by show key.size ≤ _; omega, by show es.length ≤ _; omega, fun x hx => evOk_B (hev x hx)⟩
      have hP2 : ACallsF Tryz.prog 71 [tRc ⟨pos, key, es⟩] [] (tS (pkd ⟨pos, key, es⟩)) := hP
      cases bad with
      | true =>
        rw [s1 rfl]
        simp only [go_sem, e6, eH, e4, eH4, hz]
      | false =>
        simp only [go_sem, e6, eH, e7, eH7, eHa, w3, tk]
        refine callL (ws := [(2007, .arr a false 7 120 (en cE es))]) (ns := [2007]) hP2 rfl ?_ (by simp [closedA, closedP, closedC]) rfl ⟨?_, ?_⟩
        · simp only [go_sem, lendTs, lendT, lendCs, lendC, sealC, eHa, w3, tk]
          rfl
        · simp only [go_sem]
        by_cases hp : pkd ⟨pos, key, es⟩ = d
        · by_cases hd0 : d = ⟨#[]⟩
          · rw [s3 rfl hp hd0]
            simp only [go_sem, sStr, str_beq, hp, e1, hd0, e4, eH4, hz, scalarT, scalarP, scalarC]
          · rw [s4 rfl hp hd0]
            simp only [go_sem, sStr, str_beq, hp, e1, hd0, e4, eH4, e7, eH7, eHa, w3, tk, scalarT, scalarP, scalarC]
        · rw [s2 rfl hp]
          simp only [go_sem, sStr, str_beq, hp, e1, e4, eH4, hz, scalarT, scalarP, scalarC]
    · rw [r1 hr]
      simp only [T.c, T.b] at e4 eH4 e5
      simp only [go_sem, e4, eH4, e5, hz]
  refine run _ (fun h => unpR_no fun r h1 h2 h3 => ?_) fun es p3 hr => ⟨fun h => unpR_no fun r h1 h2 h3 => ?_, fun _ h => unpR_no fun r h1 h2 h3 => ?_, fun _ hp hd0 => ?_, fun _ hp hd0 => ?_⟩
  · obtain ⟨_, q, hq, _⟩ := hback3 r h1 h2 h3
    rw [h] at hq; cases hq
  · obtain ⟨_, q, hq, hb⟩ := hback3 r h1 h2 h3
    rw [hr] at hq; cases hq
    rw [h] at hb; cases hb
  · obtain ⟨hk, q, hq, hb⟩ := hback3 r h1 h2 h3
    rw [hr] at hq; cases hq
    refine h ?_
    have : (⟨pos, key, r.evs⟩ : Rc) = r := by rw [← h2, hk]
    rw [this, pkd, if_pos h1, h3]
  · refine unpR_no fun r h1 h2 h3 => ?_
    have := congrArg ByteArray.size h3
    rw [ofL_size, hd0, pkR, List.length_append, List.length_cons] at this
    simp only [ByteArray.size, List.size_toArray, List.length_nil] at this
    omega
  · have h1 : rcOk ⟨pos, key, es⟩ = true := by
      cases h : rcOk ⟨pos, key, es⟩ with
      | true => rfl
      | false =>
        rw [pkd, h, if_neg (by simp)] at hp
        exact absurd hp.symm hd0
    rw [pkd, if_pos h1] at hp
    have := unpR_pk h1
    rw [hp] at this
    exact this
end Go.V
set_option linter.unusedSimpArgs false
set_option maxRecDepth 20000
namespace Go.V
open Go.Proofs
noncomputable def rds : List LR → Option (List Rc)
  | [] => some []
  | x :: xs => if (unpR x.pos x.data).2 = true then (rds xs).map ((unpR x.pos x.data).1 :: ·) else none
abbrev tRs (o : Option (List Rc)) : T := .tup [.one (.v (.sl (en cR (o.getD [])))), .one (.v (.s (.bool o.isSome)))]
theorem drop_at2 {α : Type} {l : List α} {i : Nat} {x : α} (h : l[i]? = some x) : l.drop i = x :: l.drop (i + 1) := by
  obtain ⟨hl, rfl⟩ := List.getElem?_eq_some_iff.1 h
  exact List.drop_eq_getElem_cons hl
def ok17 := okF.gu (P := Tryz.prog) tab Tryz.func17 Tryz.ntmps17 (by conv => lhs; cbv) (by kernel_rfl)
def inv17 (ls : List LR) (R : Option (List Rc)) (k : Nat) (σ : St) : Prop :=
  ∃ (i : Nat) (acc : List Rc) (v : Nat), i + k = ls.length ∧ acc.length = i ∧ R = (rds (ls.drop i)).map (acc ++ ·) ∧ σ.t 0 = tL (en eR ls) ∧ σ.t 5 = .i i ∧ σ.t 4 = .c (.own 8 v acc.length) ∧ σ.H 8 = some (.arr v true 3 86 (en cR acc))
theorem readS_ok (ls : List LR) (hl : ls.length ≤ 10000000) (hd : ∀ x ∈ ls, x.data.size ≤ 4611686018427387904) : ACallsF Tryz.prog 17 [tL (en eR ls)] [] (tRs (rds ls)) := by
  generalize hR : rds ls = R
  refine ACallsF.intro ok17 follows fun X c0 => ?_
  simp only [go_sem]
  refine AW.loopM (inv17 ls R) (fun k => k) ls.length ⟨0, [], _, by omega, rfl, by rw [List.drop_zero, hR]; cases R <;> rfl, rfl, rfl, rfl, rfl⟩ fun k σ hI => ?_
  obtain ⟨t, H, c⟩ := σ
  obtain ⟨i, acc, v, hik, hal, hacc, e0, e5, e4, eH⟩ := hI
  simp only [T.c, T.i, tL] at e0 e5 e4 eH
  have tk : List.take acc.length (en cR acc) = en cR acc := en_take cR acc
  have w3 : acc.length ≤ (en cR acc).length := by rw [en_len]; omega
  cases k with
  | zero =>
    have hi : i = ls.length := by omega
    have k0 : ¬ (i : Int) < ls.length := by omega
    rw [hi, List.drop_length, rds, Option.map_some, List.append_nil] at hacc
    subst hacc
    refine oneW.of ?_
    simp only [go_sem, e0, e5, en_len, k0, e4, eH, tk, w3, Option.getD_some, Option.isSome_some]
  | succ k =>
    have k0 : (i : Int) < ls.length := by omega
    have gz : (0 : Int) ≤ i := by omega
    have gw : IntKind.i64.wrap ((i : Int) + 1) = ((i + 1 : Nat) : Int) := wrap64 (x := (i : Int) + 1) ⟨by omega, by omega⟩
    obtain ⟨x, hx⟩ : ∃ x, ls[i]? = some x := ⟨_, List.getElem?_eq_getElem (by omega)⟩
    have ex := en_at eR hx
    have hC := recUnS_ok x.pos x.data (hd x (List.mem_of_getElem? hx))
    rw [drop_at2 hx, rds] at hacc
    rcases hu : unpR x.pos x.data with ⟨r, ok⟩
    rw [hu] at hC hacc
    simp only at hacc
    refine oneW.of ?_
    simp only [go_sem, e0, e5, en_len, k0, gz, ex, eR, Int.toNat_natCast]
    refine callC hC rfl rfl rfl (by simp [closedT, closedP, closedC]) ?_
    cases ok with
    | false =>
      rw [if_neg (by simp), Option.map_none] at hacc
      subst hacc
      simp only [go_sem, Option.getD_none, Option.isSome_none]
    | true =>
      rw [if_pos rfl] at hacc
      have w1 : (acc.length + 1) * 48 ≤ 140737488355328 := by omega
      have w2 : acc.length + 1 ≤ 9223372036854775807 := by omega
      simp only [go_sem, e4, eH, tk, w1, w2, w3, e5, gw]
      refine ⟨k, Nat.lt_succ_self _, i + 1, acc ++ [r], ?_⟩
      simp only [List.length_append, List.length_singleton, en_snoc]
      refine ⟨_, by omega, by omega, ?_, e0, rfl, rfl, rfl⟩
      rw [hacc, Option.map_map]
      congr 1
      funext l
      simp
end Go.V
set_option linter.unusedSimpArgs false
set_option maxRecDepth 20000
namespace Go.V
open Go.Proofs
theorem prt_small {d : Dk} {p : LP} {l : List LR} (h : prt d p = some l) : ∀ x ∈ l, x.data.size ≤ 2000 := by
  unfold prt at h
  split at h
  · cases h
  · split at h
    · cases h
    · split at h
      · cases h
        exact fun x hx => ((frames_le _).2.2 x hx).2.2
      · cases h
theorem prts_small {d : Dk} (hD : DOk d) : ∀ (ps : List LP) (l : List LR), prts d ps = some l → l.length ≤ 20000 * ps.length ∧ ∀ x ∈ l, x.data.size ≤ 2000
  | [], l, h => by rw [prts] at h; cases h; exact ⟨Nat.zero_le _, fun x hx => by cases hx⟩
  | p :: ps, l, h => by
    rw [prts] at h
    cases hp : prt d p with
    | none => rw [hp] at h; cases h
    | some a =>
      rw [hp] at h
      cases hq : prts d ps with
      | none => rw [hq] at h; cases h
      | some b =>
        rw [hq] at h
        simp only [Option.map_some, Option.some.injEq] at h
        subst h
        obtain ⟨h1, h2⟩ := prts_small hD ps b hq
        have h3 := prt_len hD hp
        refine ⟨by simp only [List.length_append, List.length_cons]; omega, fun x hx => ?_⟩
        rcases List.mem_append.1 hx with h | h
        · exact prt_small hp x h
        · exact h2 x h
theorem opn_small {d : Dk} (hD : DOk d) : (opn d).recs.length ≤ 3000000 ∧ ∀ x ∈ (opn d).recs, x.data.size ≤ 2000 := by
  have z : ∀ c : Int, (zLs c).recs.length ≤ 3000000 ∧ ∀ x ∈ (zLs c).recs, x.data.size ≤ 2000 := fun c => ⟨Nat.zero_le _, fun x hx => by cases hx⟩
  have hnp := np_ok d
  unfold opn
  split
  · exact z 1
  · rename_i h0
    obtain ⟨ho, _⟩ : planOk (np d).1 = true ∧ True := by
      rcases hnp with ⟨_, h⟩ | h
      · exact absurd h h0
      · exact ⟨h.1, trivial⟩
    obtain ⟨hl40, _⟩ := planOk_ok ho
    split
    · exact z 2
    · rename_i recs hr
      split
      · exact z 2
      · rename_i x hx
        split
        · obtain ⟨h1, h2⟩ := prts_small hD _ _ hr
          have hxs := lk_size hD hx
          have hf := frames_le x
          refine ⟨?_, fun y hy => ?_⟩
          · show (recs ++ (frames x).1).length ≤ _
            rw [List.length_append]; omega
          · rcases List.mem_append.1 hy with h | h
            · exact h2 y h
            · exact (hf.2.2 y h).2.2
        · exact z 2
/-- What a disk keeps. -/
structure Ss where
  code : Int
  next : Int
  recs : List Rc
abbrev tSs (s : Ss) : T := .pt (.agg [.v (.s (.int .i64 s.code)), .v (.s (.int .i64 s.next)), .v (.sl (en cR s.recs))])
noncomputable def stoO (s : Ls) : Ss := if s.code ≠ 0 then ⟨s.code, 0, []⟩ else match rds s.recs with
  | none => ⟨2, 0, []⟩
  | some l => ⟨0, s.next, l⟩
noncomputable def sto (d : Dk) : Ss := @ite _ (DOk d) (Classical.propDecidable _) (stoO (opn d)) ⟨7, 0, []⟩
theorem opnS_bad (d : Dk) (hd : fineDk d) (hD : ¬ DOk d) : ACallsF Tryz.prog 16 [tDk d] [] (tLs (zLs 7)) := by
  obtain ⟨b, hb, hC⟩ := okS_ok d hd
  have hb0 : b = false := by cases b with
    | false => rfl
    | true => exact absurd (hb.1 rfl) hD
  rw [hb0] at hC
  refine ACallsF.intro ok16 follows fun X c0 => ?_
  simp only [go_sem]
  refine callC hC rfl rfl rfl rfl ?_
  simp only [go_sem, zLs, zPl, en_nil]
def ok5 := okF.gu (P := Tryz.prog) tab Tryz.func5 Tryz.ntmps5 (by conv => lhs; cbv) (by kernel_rfl)
theorem storeS_ok (d : Dk) (hd : fineDk d) : ACallsF Tryz.prog 5 [tDk d] [] (tSs (sto d)) := by
  obtain ⟨o, hO, ho, hl, hs⟩ : ∃ o : Ls, ACallsF Tryz.prog 16 [tDk d] [] (tLs o) ∧ sto d = stoO o ∧ o.recs.length ≤ 3000000 ∧ ∀ x ∈ o.recs, x.data.size ≤ 2000 := by
    by_cases hD : DOk d
    · exact ⟨opn d, opnS_ok d hD, if_pos hD, (opn_small hD).1, (opn_small hD).2⟩
    · exact ⟨zLs 7, opnS_bad d hd hD, if_neg hD, Nat.zero_le _, fun x hx => by cases hx⟩
  have hR := readS_ok o.recs (by omega) fun x hx => by have := hs x hx; omega
  rw [ho]
  unfold stoO
  refine ACallsF.intro ok5 follows fun X c0 => ?_
  simp only [go_sem]
  refine callC hO rfl rfl rfl (by simp [closedT, closedP, closedC]) ?_
  by_cases hc : o.code = 0
  · have k0 : (o.code != 0) = false := by rw [hc]; rfl
    rw [if_neg (by simpa using hc)]
    simp only [go_sem, k0]
    refine callC hR rfl rfl rfl (by simp [closedT, closedP, closedC]) ?_
    cases hr : rds o.recs with
    | none => simp only [go_sem, Option.getD_none, Option.isSome_none, en_nil]
    | some l => simp only [go_sem, Option.getD_some, Option.isSome_some]
  · have k0 : (o.code != 0) = true := bne_iff_ne.2 hc
    rw [if_pos hc]
    simp only [go_sem, k0, en_nil]
end Go.V
set_option linter.unusedSimpArgs false
set_option maxRecDepth 20000
namespace Go.V
open Go.Proofs
/-- A call that gives back a new array of its own. -/
theorem callA {P : Program} {t : Nat → T} {H : HMap} {c : Nat} {f : Opd} {args : List Opd} {fid : FuncId} {n m N st : Nat} {ty : TypeId} {es : List (List V)} {argsC : List T} {k : Nat} {d : Option Nat} {un : List Nat} {l : List AOper} {prev : List (Nat × List Nat × List Nat)} {K : St → Prop}
    (hC : ACallsF P fid argsC [⟨n, m, none, .arr 0 true st ty es, false⟩] (.c (.own n 0 N))) (hf : ev t f = .pt (.one (.fn fid []))) (hl : args.map (ev t) = argsC)
    (h1 : lendTs H argsC argsC = some (argsC, [], [])) (h2 : renITs [⟨n, m, none, .arr 0 true st ty es, false⟩] argsC = some argsC)
    (hk : chk prev un ⟨.c (.own m (c + k) N), [(m, .arr (c + k) true st ty es)], [m], [m]⟩ = true ∧ DRun P l ((k, [m], [m]) :: prev) K ⟨updD t d (.c (.own m (c + k) N)), upd H m (some (.arr (c + k) true st ty es)), c⟩) :
    step P k d un (.call f args) l prev K t H c := by
  let hs : List Hand := [⟨n, m, none, .arr 0 true st ty es, false⟩]
  have hN : renN hs n = some ⟨n, m, none, .arr 0 true st ty es, false⟩ := by simp [hs, renN]
  refine callW (caps := []) (ws := []) (ns := []) (r' := .c (.own m (c + k) N)) (ob := [(m, .arr (c + k) true st ty es)]) hs hC hf (by rw [hl]; simpa using h1) h2 ⟨trivial, trivial⟩ (by simp [hs]) (by simp [hs]) ?_ ?_ ?_
  · simp only [T.c, renOT, renOP, renO, hN, Option.map_some, verOf]; rfl
  · simp only [hs, renOBs, renOB, verOf]; rfl
  · have e1 : (if quiet (.c (.own n 0 N)) hs = true then ([] : List (Nat × Blk)) else []) = [] := by split <;> rfl
    have e2 : (if quiet (.c (.own n 0 N)) hs = true then ([] : List Nat) else []) = [] := by split <;> rfl
    rw [e1, e2]
    simpa [hs, updH] using hk
section
variable {P : Program} {t : Nat → T} {H : HMap} {c : Nat} {f : Opd} {args : List Opd} {fid : FuncId} {ac : List T} {n m v N N' st : Nat} {ty : TypeId} {es es' : List (List V)} {k : Nat} {d : Option Nat} {un : List Nat} {l : List AOper} {prev : List (Nat × List Nat × List Nat)} {K : St → Prop}
abbrev grH (n m v st : Nat) (ty : TypeId) (es es' : List (List V)) : List Hand := [⟨n, m, some (.arr v true st ty es), .arr 0 true st ty es', false⟩]
/-- A call that an own array is given over to, and that gives it back longer. -/
theorem callG (hC : ACallsF P fid (.c (.own n v N) :: ac) (grH n m v st ty es es') (.c (.own n 0 N'))) (hf : ev t f = .pt (.one (.fn fid []))) (hl : args.map (ev t) = .c (.own m v N) :: ac) (ha : ac.all closedA = true) (hH : H m = some (.arr v true st ty es))
    (hk : chk prev un ⟨.c (.own m (c + k) N'), [(m, .arr (c + k) true st ty es')], [m], [m]⟩ = true ∧ DRun P l ((k, [m], [m]) :: prev) K ⟨updD t d (.c (.own m (c + k) N')), upd H m (some (.arr (c + k) true st ty es')), c⟩) :
    step P k d un (.call f args) l prev K t H c := by
  generalize hhs : grH n m v st ty es es' = hs at hC
  have R1 : renN hs n = some ⟨n, m, some (.arr v true st ty es), .arr 0 true st ty es', false⟩ := by rw [← hhs]; simp [renN]
  have I1 : inN hs n = some m := by simp [inN, R1]
  obtain ⟨x1, x2⟩ := closed_As hs H ac ha
  refine callW (caps := []) («as» := .c (.own m v N) :: ac) (ws := []) (ns := []) (r' := .c (.own m (c + k) N')) (ob := [(m, .arr (c + k) true st ty es')]) hs hC hf ?_ ?_ ?_ (by rw [← hhs]; simp) (by rw [← hhs]; simp) ?_ ?_ ?_
  · rw [hl]
    simp only [List.map_nil, T.c, lendTs, lendT, lendC, Option.map_some, List.append_nil, x1]
  · simp only [List.map_nil, List.append_nil, T.c, renITs, renIT, renI, I1, Option.map_some, x2]
  · have key : handsIn (updH H []) hs (grH n m v st ty es es') := by
      simp only [handsIn, renIB, updH, hH, and_self]
    rw [hhs] at key
    exact key
  · simp only [T.c, renOT, renOP, renO, R1, Option.map_some, verOf, Bool.false_eq_true, if_false]
  · have key : renOBs hs (c + k) (grH n m v st ty es es') = some [(m, .arr (c + k) true st ty es')] := by
      simp only [renOBs, renOB, R1, Option.map_some, verOf, Bool.false_eq_true, if_false]
    rw [hhs] at key
    exact key
  · have hq : quiet (.c (.own n 0 N')) hs = false := by rw [← hhs]; simp [quiet]
    have hms : hs.map (·.m) = [m] := by rw [← hhs]; rfl
    simpa [hq, hms, updH] using hk
end
def ok134 := okF.gu (P := Tryz.prog) tab Tryz.func134 Tryz.ntmps134 (by conv => lhs; cbv) (by kernel_rfl)
theorem pkX_eq (s : ByteArray) : encB (pkX s) = [[V.s (.int .u8 (byt s.size).toNat)]] ++ eBs s := rfl
theorem packTextN_ok (s : ByteArray) (hs : s.size ≤ 1000000) (m : Nat) : ACallsF Tryz.prog 134 [.c .nil0, tS s] [newH 10 m 1 5 (encB (pkX s))] (.c (.own 10 0 (pkX s).length)) := by
  have q1 : (1 + s.size) * 1 ≤ 140737488355328 := by omega
  have q2 : 1 + s.size ≤ 9223372036854775807 := by omega
  have hl : (pkX s).length = 1 + s.size := by rw [pkX_len]; omega
  have w0 : ((1 : Nat) * 1 ≤ 140737488355328) = True := eq_true (by decide)
  have w1 : ((1 : Nat) ≤ 9223372036854775807) = True := eq_true (by decide)
  have w2 : ((0 : Nat) < 1) = True := eq_true (by decide)
  refine ACallsF.intro ok134 follows fun X c0 => ?_
  simp only [go_sem, wrapb, w0, w1, w2, q1, q2, hl, pkX_eq, imp_self]
theorem packTextO_ok (out : List UInt8) (s : ByteArray) (hs : s.size ≤ 1000000) (ho : out.length ≤ 1000000) (m v : Nat) : ACallsF Tryz.prog 134 [.c (.own 2010 v out.length), tS s] (grH 2010 m v 1 5 (encB out) (encB (out ++ pkX s))) (.c (.own 2010 0 (out ++ pkX s).length)) := by
  have q1 : (out.length + 1 + s.size) * 1 ≤ 140737488355328 := by omega
  have q2 : out.length + 1 + s.size ≤ 9223372036854775807 := by omega
  have q3 : (out.length + 1) * 1 ≤ 140737488355328 := by omega
  have q4 : out.length + 1 ≤ 9223372036854775807 := by omega
  have q5 : 0 < out.length + 1 := by omega
  have tk := take_own out
  have tk2 : List.take (out.length + 1) (encB out ++ [[V.s (.int .u8 (byt s.size).toNat)]]) = encB out ++ [[V.s (.int .u8 (byt s.size).toNat)]] := List.take_of_length_le (by simp only [List.length_append, encB_len, List.length_singleton]; omega)
  have hl : (out ++ pkX s).length = out.length + 1 + s.size := by rw [List.length_append, pkX_len]; omega
  have hr : encB (out ++ pkX s) = encB out ++ [[V.s (.int .u8 (byt s.size).toNat)]] ++ eBs s := by rw [encB_app, pkX_eq, List.append_assoc]
  refine ACallsF.intro ok134 follows fun X c0 => ?_
  simp only [go_sem, wrapb, encB_len, tk, tk2, q1, q2, q3, q4, q5, hl, hr, false_implies]
end Go.V
set_option linter.unusedSimpArgs false
set_option maxRecDepth 20000
namespace Go.V
open Go.Proofs
theorem packTextO' (out : List UInt8) (s : ByteArray) (hs : s.size ≤ 1000000) (ho : out.length ≤ 1000000) (m v N : Nat) (E : List (List V)) (hN : N = out.length) (hE : E = encB out) : ACallsF Tryz.prog 134 [.c (.own 2010 v N), tS s] (grH 2010 m v 1 5 E (encB (out ++ pkX s))) (.c (.own 2010 0 (out ++ pkX s).length)) := by
  subst hN hE; exact packTextO_ok out s hs ho m v
theorem pkK_take2 (f5 : Bool) {ks : List Tr} {ns : List ByteArray} {d : Nat} (hk : ∀ k ∈ ks, TOk d k) (hn : ∀ y ∈ ns, y.size ≤ 8) {i : Nat} {k : Tr} (h : ks[i]? = some k) : (pkK f5 ns (ks.take i)).length + 72 * tparts k ≤ 72 * tpartsL ks := by
  have h1 := pkK_le f5 (ks.take i) ns (fun k hm => pkT_le k d (hk k (List.mem_of_mem_take hm))) hn
  have h2 := tpartsL_take_le ks (i + 1)
  rw [List.take_add_one, h] at h2
  have h3 : tpartsL (ks.take i ++ [k]) = tpartsL (ks.take i) + tparts k := tpartsL_snoc _ _
  simp only [Option.toList_some] at h2
  omega
def ok133 := okF.gu (P := Tryz.prog) tab Tryz.func133 Tryz.ntmps133 (by conv => lhs; cbv) (by kernel_rfl)
def inv133n (target : List UInt8) (n : Nat) (σ : St) : Prop :=
  n < 34359738368 ∧ σ.t 5 = .i n ∧ ∃ (cur : List UInt8) (v : Nat), cur ++ pkL n = target ∧ σ.t 0 = .c (.own 2010 v cur.length) ∧ σ.H 2010 = some (.arr v true 1 5 (encB cur))
def inv133 (out : List UInt8) (s : Int) (ns : List ByteArray) (ks : List Tr) (i : Nat) (σ : St) : Prop :=
  (∃ u, σ.t 3 = .c (.ptr 3 u 0) ∧ σ.H 3 = some (.var u 118 [.v (.s (.int .i64 s)), .v (.s (.int .i64 0)), .v (.s (.string ⟨#[]⟩)), .v (.sl (encS ns)), .v (.sl (encTs ks))])) ∧ σ.t 69 = .c (.v (.sl (encTs ks))) ∧ σ.t 70 = .i ks.length ∧ σ.t 71 = .i i ∧
  ∃ (cur : List UInt8) (v : Nat), cur = out ++ (byt s :: byt ks.length :: pkK (decide (s = 5)) ns (ks.take i)) ∧ σ.t 0 = .c (.own 2010 v cur.length) ∧ σ.H 2010 = some (.arr v true 1 5 (encB cur))
set_option maxHeartbeats 4000000 in
theorem packTree_ok : ∀ (t : Tr) (d : Nat), TOk d t → tparts t ≤ 120 → ∀ (out : List UInt8) (m v : Nat), out.length + 72 * tparts t ≤ 200000 → ACallsF Tryz.prog 133 [.c (.own 2010 v out.length), tT t] (grH 2010 m v 1 5 (encB out) (encB (out ++ pkT t))) (.c (.own 2010 0 (out ++ pkT t).length)) := by
  intro t
  induction t using Tr.ind with
  | _ s n x ns ks ih =>
    intro d hT hp out m v ho
    obtain ⟨hd, hsh, hk⟩ := hT.inv
    have hlen := pkT_le _ d hT
    have hkl := tpartsL_len ks
    simp only [tparts] at hp hlen ho
    have tk := take_own out
    have q1 : (out.length + 1) * 1 ≤ 140737488355328 := by omega
    have q2 : out.length + 1 ≤ 9223372036854775807 := by omega
    have q3 : (out.length + 1 + 1) * 1 ≤ 140737488355328 := by omega
    have q4 : out.length + 1 + 1 ≤ 9223372036854775807 := by omega
    have tk1 : ∀ b : UInt8, List.take (out.length + 1) (encB out ++ [[V.s (.int .u8 b.toNat)]]) = encB out ++ [[V.s (.int .u8 b.toNat)]] := fun b => List.take_of_length_le (by simp only [List.length_append, encB_len, List.length_singleton]; omega)
    rcases shape_cases hsh with ⟨rfl, a1, a2, rfl, rfl, a3⟩ | ⟨rfl, rfl, a1, rfl, a3⟩ | ⟨rfl, a1, a2, rfl, rfl, a3⟩ | hh
    · obtain rfl := List.length_eq_zero_iff.1 a3
      have hT2 : out ++ pkT (.mk 1 n ⟨#[]⟩ [] []) = (out ++ [byt 1, byt (if n < 0 then 1 else 0)]) ++ pkL n.natAbs := by rw [pkT_mk, if_pos rfl, pkN, List.append_assoc]; rfl
      have hml := pkN_len n
      generalize hW : out ++ pkT (.mk 1 n ⟨#[]⟩ [] []) = W at *
      have hWl : W.length ≤ out.length + 8 := by
        rw [hT2]
        simp only [pkN, List.length_cons] at hml
        simp only [List.length_append, List.length_cons, List.length_nil]; omega
      refine ACallsF.intro ok133 follows fun X c0 => ?_
      have loop : ∀ (Q : Exit → St → Prop) (t : Nat → T) (H : HMap) (c : Nat), inv133n W n.natAbs ⟨t, H, c⟩ → (∀ t H c (q : Nat) cur v, q < 128 → cur ++ [byt q] = W → t 5 = .i q → t 0 = .c (.own 2010 v cur.length) → H 2010 = some (.arr v true 1 5 (encB cur)) → Q (.exit 1) ⟨t, H, c⟩) → oneW Tryz.prog X (ok133.sub [1, 1, 0, 1, 0, 1, 0, 1, 1, 1, 0, 0]) Q ⟨t, H, c⟩ := by
        intro Q t0 H0 c0' h0 hQ
        dsimp only [okF.sub, ACode.sub]
        refine AW.loopM (inv133n W) (fun k => k) n.natAbs h0 fun q σ hI => ?_
        obtain ⟨t, H, c⟩ := σ
        obtain ⟨hq, e5, cur, v, hcur, e0, eH⟩ := hI
        simp only [T.c, T.i] at e5 e0 eH
        by_cases hb : q < 128
        · have k0 : ¬ (q : Int) ≥ 128 := by omega
          rw [pkL_small hb] at hcur
          refine oneW.of ?_
          simp only [go_sem, e5, k0]
          exact hQ _ _ _ _ _ _ hb hcur e5 e0 eH
        · have k0 : (q : Int) ≥ 128 := by omega
          rw [pkL_big (by omega) hq] at hcur
          have hol : cur.length + 1 ≤ W.length := by rw [← hcur]; simp only [List.length_append, List.length_cons]; omega
          have hz : ¬ (128 : Int) = 0 := by omega
          have g1 : (q : Int).tmod 128 = ((q % 128 : Nat) : Int) := rfl
          have g2 : IntKind.i64.wrap (((q % 128 : Nat) : Int) + 128) = ((q % 128 + 128 : Nat) : Int) := wrap64 (x := ((q % 128 : Nat) : Int) + 128) ⟨by omega, by omega⟩
          have g3 : IntKind.i64.wrap ((q : Int).tdiv 128) = ((q / 128 : Nat) : Int) := wrap64 (x := ((q / 128 : Nat) : Int)) ⟨by omega, by omega⟩
          have r1 : (cur.length + 1) * 1 ≤ 140737488355328 := by omega
          have r2 : cur.length + 1 ≤ 9223372036854775807 := by omega
          have r3 : cur.length ≤ (encB cur).length := by rw [encB_len]; omega
          have tk' := take_own cur
          refine oneW.of ?_
          simp only [go_sem, e5, e0, eH, k0, hz, g1, g2, g3, r1, r2, r3, tk', wrapb]
          refine ⟨q / 128, by omega, by omega, rfl, cur ++ [byt ((q % 128 + 128 : Nat) : Int)], ?_⟩
          simp only [List.length_append, List.length_singleton, encB_app, encB_one, List.append_assoc, List.cons_append, List.nil_append]
          exact ⟨_, hcur, rfl, rfl⟩
      have fin : ∀ (t : Nat → T) (H : HMap) (c q : Nat) (cur : List UInt8) (v' : Nat), q < 128 → cur ++ [byt q] = W → t 5 = .i q → t 0 = .c (.own 2010 v' cur.length) → H 2010 = some (.arr v' true 1 5 (encB cur)) → inW 1 (thenW Tryz.prog X (ok133.sub [1, 1, 0, 1, 0, 1, 0, 1, 1, 1, 1]) (thenW Tryz.prog X (ok133.sub [1, 1, 1]) (endA (FinC ok133.res (.c (.own 2010 0 W.length)) (grH 2010 m v 1 5 (encB out) (encB W)))))) (.exit 1) ⟨t, H, c⟩ := by
        intro t H c q cur v' hb hcur e5 e0 eH
        simp only [T.c, T.i] at e5 e0 eH
        have hol : cur.length + 1 = W.length := by rw [← hcur]; simp
        have r1 : (cur.length + 1) * 1 ≤ 140737488355328 := by omega
        have r2 : cur.length + 1 ≤ 9223372036854775807 := by omega
        have r3 : cur.length ≤ (encB cur).length := by rw [encB_len]; omega
        have tk' := take_own cur
        have hres : encB W = encB cur ++ [[.s (.int .u8 (byt q).toNat)]] := by rw [← hcur, encB_app, encB_one]
        dsimp only [okF.sub, ACode.sub, okF.res]
        simp only [go_sem, e5, e0, eH, r1, r2, r3, tk', wrapb, hres, ← hol, encB_len, false_implies]
      by_cases h0 : n < 0
      · have gn : IntKind.i64.wrap (0 - n) = (n.natAbs : Int) := (wrap64 (x := 0 - n) ⟨by omega, by omega⟩).trans (by omega)
        rw [if_pos h0] at hT2
        simp only [go_sem, encT_mk, wrapb, encB_len, tk, q1, q2, Int.reduceBEq, h0, gn, tk1, q3, q4]
        refine loop _ _ _ _ ?_ fun t H c q cur v' hb hcur e5 e0 eH => fin t H c q cur v' hb hcur e5 e0 eH
        refine ⟨by omega, rfl, out ++ [byt 1] ++ [byt 1], ?_⟩
        simp only [List.length_append, List.length_singleton, encB_app, encB_one]
        exact ⟨_, by rw [hT2]; simp, rfl, rfl⟩
      · have gn : n = (n.natAbs : Int) := by omega
        rw [if_neg h0] at hT2
        simp only [go_sem, encT_mk, wrapb, encB_len, tk, q1, q2, Int.reduceBEq, h0, tk1, q3, q4]
        refine loop _ _ _ _ ?_ fun t H c q cur v' hb hcur e5 e0 eH => fin t H c q cur v' hb hcur e5 e0 eH
        refine ⟨by omega, by rw [← gn]; rfl, out ++ [byt 1] ++ [byt 0], ?_⟩
        simp only [List.length_append, List.length_singleton, encB_app, encB_one]
        exact ⟨_, by rw [hT2]; simp, rfl, rfl⟩
    · obtain rfl := List.length_eq_zero_iff.1 a3
      have hT2 : out ++ pkT (.mk 2 0 x [] []) = (out ++ [byt 2]) ++ pkX x := by rw [pkT_mk, if_neg (by decide), if_pos rfl, List.append_assoc]; rfl
      rw [hT2]
      have hC := packTextO' (out ++ [byt 2]) x (by omega) (by simp only [List.length_append, List.length_singleton]; omega) 2010 
      refine ACallsF.intro ok133 follows fun X c0 => ?_
      simp only [go_sem, encT_mk, wrapb, encB_len, tk, q1, q2, Int.reduceBEq]
      refine callG (n := 2010) (m := 2010) (hC _ (out.length + 1) (encB out ++ [[V.s (.int .u8 (byt 2).toNat)]]) (by simp) (by rw [encB_app, encB_one])) rfl rfl rfl rfl ⟨?_, ?_⟩
      · simp only [go_sem]
      simp only [go_sem, false_implies]
    · obtain rfl := List.length_eq_zero_iff.1 a3
      have hT2 : out ++ pkT (.mk 3 n ⟨#[]⟩ [] []) = out ++ [byt 3] ++ [byt n] := by rw [pkT_mk, if_neg (by decide), if_neg (by decide), if_pos rfl, List.append_assoc]; rfl
      rw [hT2]
      have hl2 : (out ++ [byt 3] ++ [byt n]).length = out.length + 1 + 1 := by simp
      have hE2 : encB (out ++ [byt 3] ++ [byt n]) = encB out ++ [[V.s (.int .u8 (byt 3).toNat)]] ++ [[V.s (.int .u8 (byt n).toNat)]] := by rw [encB_app, encB_app, encB_one, encB_one]
      refine ACallsF.intro ok133 follows fun X c0 => ?_
      simp only [go_sem, encT_mk, wrapb, encB_len, tk, q1, q2, Int.reduceBEq, tk1, q3, q4, hl2, hE2, false_implies]
    · obtain ⟨b1, b2, b3, rfl, rfl, hn, hf⟩ : (s == 1) = false ∧ (s == 2) = false ∧ (s == 3) = false ∧ n = 0 ∧ x = ⟨#[]⟩ ∧ (∀ y ∈ ns, y.size ≤ 8) ∧ (s = 5 → ns.length = ks.length) := by
        rcases hh with ⟨rfl, rfl, rfl, rfl⟩ | ⟨rfl, rfl, rfl, a1, a2⟩ | ⟨rfl, rfl, rfl, rfl⟩
        · exact ⟨rfl, rfl, rfl, rfl, rfl, (fun _ h => by cases h), fun h => by omega⟩
        · exact ⟨rfl, rfl, rfl, rfl, rfl, a1, fun _ => a2⟩
        · exact ⟨rfl, rfl, rfl, rfl, rfl, (fun _ h => by cases h), fun h => by omega⟩
      have n1 : s ≠ 1 := by simpa using b1
      have n2 : s ≠ 2 := by simpa using b2
      have n3 : s ≠ 3 := by simpa using b3
      have hres : out ++ pkT (.mk s 0 ⟨#[]⟩ ns ks) = out ++ (byt s :: byt ks.length :: pkK (decide (s = 5)) ns (ks.take ks.length)) := by rw [pkT_mk, if_neg n1, if_neg n2, if_neg n3, List.take_length]
      have hpk := pkK_take (decide (s = 5)) hk hn
      rw [hres]
      generalize hW : out ++ (byt s :: byt ks.length :: pkK (decide (s = 5)) ns (ks.take ks.length)) = W
      refine ACallsF.intro ok133 follows fun X c0 => ?_
      have loop : ∀ (Q : Exit → St → Prop) (t : Nat → T) (H : HMap) (c : Nat), inv133 out s ns ks 0 ⟨t, H, c⟩ → (∀ t H c, inv133 out s ns ks ks.length ⟨t, H, c⟩ → Q (.exit 3) ⟨t, H, c⟩) → oneW Tryz.prog X (ok133.sub [1, 1, 1, 1, 0, 1, 0]) Q ⟨t, H, c⟩ := by
        intro Q t0 H0 c0' h0 hQ
        dsimp only [okF.sub, ACode.sub]
        refine AW.uptoA ks.length (inv133 out s ns ks) h0 fun i t H c hi hI => ?_
        have hI0 := hI
        obtain ⟨⟨u3, e3, eH3⟩, e69, e70, e71, cur, v', hcur, e0, eH⟩ := hI
        simp only [T.c, T.i] at e3 eH3 e69 e70 e71 e0 eH
        by_cases hlt : i < ks.length
        · have k0 : (i : Int) < ks.length := by omega
          have gz : (0 : Int) ≤ i := by omega
          have gw : IntKind.i64.wrap ((i : Int) + 1) = ((i + 1 : Nat) : Int) := wrap64 (x := (i : Int) + 1) ⟨by omega, by omega⟩
          obtain ⟨k, hkk⟩ : ∃ k, ks[i]? = some k := ⟨_, List.getElem?_eq_getElem hlt⟩
          have hm := List.mem_of_getElem? hkk
          have hC := ih k hm (d + 1) (hk k hm) (by have := tpartsL_mem hm; omega)
          have ek := encTs_at hkk
          have hkle := pkT_le k (d + 1) (hk k hm)
          have hkp := tpartsL_mem hm
          have hcl : cur.length + 72 * tparts k ≤ out.length + 2 + 72 * tpartsL ks := by have := pkK_take2 (decide (s = 5)) hk hn hkk; rw [hcur]; simp only [List.length_append, List.length_cons]; omega
          have kE : ∀ (cur2 : List UInt8), cur2.length + 72 * tparts k ≤ out.length + 2 + 72 * tpartsL ks + 9 → ∀ v, ACallsF Tryz.prog 133 [.c (.own 2010 v cur2.length), tT k] (grH 2010 2010 v 1 5 (encB cur2) (encB (cur2 ++ pkT k))) (.c (.own 2010 0 (cur2 ++ pkT k).length)) := fun cur2 h v => hC cur2 2010 v (by omega)
          simp only [tT, encT_eta, List.map_cons, List.map_nil] at kE
          by_cases s5 : s = 5
          · have q5 : (s == 5) = true := beq_iff_eq.2 s5
            have hnl := hf s5
            obtain ⟨y, hy⟩ : ∃ y, ns[i]? = some y := ⟨_, List.getElem?_eq_getElem (by omega)⟩
            have hys := hn y (List.mem_of_getElem? hy)
            have ey := encS_at hy
            have k1 : (i : Int) < ns.length := by omega
            have hxl := pkX_len y
            have hC2 := fun v => packTextO_ok cur y (by omega) (by omega) 2010 v
            have hnew : out ++ (byt s :: byt ks.length :: pkK (decide (s = 5)) ns (ks.take (i + 1))) = cur ++ pkX y ++ pkT k := by
              rw [hcur, pkK_snoc _ ks ns i k y hkk (fun _ => hy), decide_eq_true s5]; simp
            generalize hW2 : cur ++ pkX y = cur2 at *
            have hc2l : cur2.length = cur.length + (pkX y).length := by rw [← hW2, List.length_append]
            have hC3 := fun v => kE cur2 (by omega) v
            generalize hW3 : cur2 ++ pkT k = cur3 at *
            refine oneW.of ?_
            simp only [go_sem, e70, e71, k0, e69, encTs_len, gz, ek, Int.toNat_natCast, List.length_map, encT_len, takeT, encT_eta, e0, e3, eH3, q5, k1, encS_len, ey]
            refine callG (n := 2010) (m := 2010) (hC2 _) rfl rfl rfl eH ⟨?_, ?_⟩
            · simp only [go_sem]
            simp only [go_sem]
            refine callG (n := 2010) (m := 2010) (hC3 _) rfl rfl (by simp [closedA, closedP, closedC]) rfl ⟨?_, ?_⟩
            · simp only [go_sem]
            simp only [go_sem, e71, gw]
            exact ⟨hlt, ⟨u3, e3, eH3⟩, e69, e70, rfl, cur3, _, hnew.symm, rfl, rfl⟩
          · have q5 : (s == 5) = false := beq_eq_false_iff_ne.2 s5
            have hnew : out ++ (byt s :: byt ks.length :: pkK (decide (s = 5)) ns (ks.take (i + 1))) = cur ++ pkT k := by
              rw [hcur, pkK_snoc _ ks ns i k ⟨#[]⟩ hkk (fun h => by rw [decide_eq_false s5] at h; cases h), decide_eq_false s5]; simp
            have hC3 := fun v => kE cur (by omega) v
            generalize hW3 : cur ++ pkT k = cur3 at *
            refine oneW.of ?_
            simp only [go_sem, e70, e71, k0, e69, encTs_len, gz, ek, Int.toNat_natCast, List.length_map, encT_len, takeT, encT_eta, e0, e3, eH3, q5]
            refine callG (n := 2010) (m := 2010) (hC3 _) rfl rfl (by simp [closedA, closedP, closedC]) eH ⟨?_, ?_⟩
            · simp only [go_sem]
            simp only [go_sem, e71, gw]
            exact ⟨hlt, ⟨u3, e3, eH3⟩, e69, e70, rfl, cur3, _, hnew.symm, rfl, rfl⟩
        · have hi2 : i = ks.length := by omega
          have k0 : ¬ (i : Int) < ks.length := by omega
          refine oneW.of ?_
          simp only [go_sem, e70, e71, k0]
          exact hQ _ _ _ (hi2 ▸ hI0)
      simp only [go_sem, encT_mk, wrapb, encB_len, tk, q1, q2, b1, b2, b3, tk1, q3, q4, encTs_len]
      refine loop _ _ _ _ ?_ fun t H c hI => ?_
      · refine ⟨⟨_, rfl, rfl⟩, rfl, rfl, rfl, out ++ [byt s] ++ [byt ks.length], ?_⟩
        simp only [List.length_append, List.length_singleton, encB_app, encB_one]
        exact ⟨_, by rw [List.take_zero, pkK_nil, List.append_assoc]; rfl, rfl, rfl⟩
      obtain ⟨_, _, _, _, cur, v', hcur, e0, eH⟩ := hI
      simp only [T.c, T.i] at e0 eH
      rw [hW] at hcur
      subst hcur
      simp only [go_sem, e0, eH, false_implies]
end Go.V
set_option linter.unusedSimpArgs false
set_option maxRecDepth 20000
namespace Go.V
open Go.Proofs
def ok132 := okF.gu (P := Tryz.prog) tab Tryz.func132 Tryz.ntmps132 (by conv => lhs; cbv) (by kernel_rfl)
theorem evOkI_ok (e : Ev) (hB : EvB e) : ACallsF Tryz.prog 132 [tE e] [] (.b (evOk e)) := by
  have hC1 := isName_ok e.typ (by have := hB.typ; omega)
  have hC2 := inRange_ok e.ver 1 12
  have hC3 := treeOk_ok e.body hB.body
  simp only [tT, encT_eta, List.map_cons, List.map_nil] at hC3
  unfold evOk
  refine ACallsF.intro ok132 follows fun X c0 => ?_
  simp only [go_sem]
  refine callC hC1 rfl rfl rfl rfl ?_
  cases h1 : nameOk e.typ with
  | false => simp only [go_sem]
  | true =>
    simp only [go_sem]
    refine callC hC2 rfl rfl rfl rfl ?_
    generalize (decide (1 ≤ e.ver) && decide (e.ver ≤ 12)) = A
    cases A with
    | false => simp only [go_sem]
    | true =>
      cases h5 : (e.body.s == 5) with
      | false => simp only [go_sem, h5]
      | true =>
        simp only [go_sem, h5]
        refine callC hC3 rfl rfl rfl rfl ?_
        simp only [go_sem]
def ok120 := okF.gu (P := Tryz.prog) tab Tryz.func120 Tryz.ntmps120 (by conv => lhs; cbv) (by kernel_rfl)
theorem packTree' (t : Tr) (d : Nat) (h : TOk d t) (hp : tparts t ≤ 120) (out : List UInt8) (m v N : Nat) (E : List (List V)) (ho : out.length ≤ 10000) (hN : N = out.length) (hE : E = encB out) : ACallsF Tryz.prog 133 [.c (.own 2010 v N), tT t] (grH 2010 m v 1 5 E (encB (out ++ pkT t))) (.c (.own 2010 0 (out ++ pkT t).length)) := by
  subst hN hE; exact packTree_ok t d h hp out m v (by omega)
/-! The program's reader. -/
abbrev PI := List UInt8 × Bool
def takeI (n : Nat) (p : PI) : List UInt8 × PI := if n ≤ p.1.length then (p.1.take n, (p.1.drop n, p.2)) else (List.replicate n 0, (p.1, true))
def oneI (p : PI) : Nat × PI := ((((takeI 1 p).1)[0]?.getD 0).toNat, (takeI 1 p).2)
def textI (p : PI) : ByteArray × PI := (ofL (takeI (oneI p).1 (oneI p).2).1, (takeI (oneI p).1 (oneI p).2).2)
abbrev rcI (p : PI) : List V := [.sl (encB p.1), .s (.bool p.2)]
abbrev riH (m v : Nat) (p p' : PI) : Hand := ⟨1000, m, some (.var v 149 ((rcI p).map .v)), .var v 149 ((rcI p').map .v), true⟩
def ok105 := okF.gu (P := Tryz.prog) tab Tryz.func105 Tryz.ntmps105 (by conv => lhs; cbv) (by kernel_rfl)
theorem takeI_ok (n : Nat) (hn : n ≤ 1000000) (p : PI) (hp : p.1.length ≤ 1000000) (m v : Nat) : ACallsF Tryz.prog 105 [rp v, .i n] [riH m v p (takeI n p).2] (tL (encB (takeI n p).1)) := by
  obtain ⟨bs, bad⟩ := p
  simp only at hp
  refine ACallsF.intro ok105 follows fun X c0 => ?_
  by_cases h : n ≤ bs.length
  · have k0 : ¬ (n : Int) > bs.length := by omega
    have e : takeI n (bs, bad) = (bs.take n, (bs.drop n, bad)) := if_pos h
    rw [e]
    have j0 : (0 : Int) ≤ n := by omega
    have j1 : (n : Int) ≤ bs.length := by omega
    have j2 : ((0 : Int) ≤ 0) = True := eq_true (by decide)
    have j3 : (bs.length : Int) ≤ bs.length := by omega
    have hd : List.take (bs.length - n) (encB (bs.drop n)) = encB (bs.drop n) := List.take_of_length_le (by rw [encB_len, List.length_drop]; omega)
    simp only [go_sem, List.map_cons, List.map_nil, encB_len, k0, lohi, j0, j1, j2, j3, Int.toNat_natCast, Int.toNat_zero, Nat.sub_zero, encB_all1, List.drop_zero, encB_take, encB_drop, hd]
  · have k0 : (n : Int) > bs.length := by omega
    have e : takeI n (bs, bad) = (List.replicate n 0, (bs, true)) := if_neg h
    rw [e]
    have hrep : encB (List.replicate n 0) = List.replicate n [V.s (.int .u8 0)] := by simp [encB]
    have z0 : (0 : Int) ≤ n := by omega
    have z3 : ((1 : Nat) : Int) * (n : Int) ≤ 281474976710656 := by omega
    have z4 : (n : Int) ≤ 9223372036854775807 := by omega
    have z5 : (n : Int) ≤ n := Int.le_refl _
    have z6 : ((0 : Nat) < 1) = True := eq_true (by decide)
    have tk : List.take n (List.replicate n [V.s (.int .u8 0)]) = List.replicate n [V.s (.int .u8 0)] := by simp
    simp only [go_sem, List.map_cons, List.map_nil, encB_len, k0, hrep, z0, z3, z4, z5, z6, Int.toNat_natCast, List.length_replicate, tk]
theorem takeI_le (n : Nat) (p : PI) : (takeI n p).2.1.length ≤ p.1.length ∧ (takeI n p).1.length = n := by
  unfold takeI
  split
  · simp only [List.length_drop, List.length_take]; omega
  · simp
def ok103 := okF.gu (P := Tryz.prog) tab Tryz.func103 Tryz.ntmps103 (by conv => lhs; cbv) (by kernel_rfl)
theorem oneI_le (p : PI) : (oneI p).2.1.length ≤ p.1.length ∧ (oneI p).1 ≤ 255 := ⟨(takeI_le 1 p).1, byt_lt _⟩
theorem oneI_ok (p : PI) (hp : p.1.length ≤ 1000000) (m v : Nat) : ACallsF Tryz.prog 103 [rp v] [riH m v p (oneI p).2] (.i ((oneI p).1 : Int)) := by
  have hC := takeI_ok 1 (by decide) p hp 1000 v
  have hl := (takeI_le 1 p).2
  unfold oneI
  generalize takeI 1 p = q at *
  obtain ⟨l, p'⟩ := q
  simp only at hl hC
  obtain ⟨b, rfl⟩ : ∃ b, l = [b] := by
    match l, hl with
    | [b], _ => exact ⟨b, rfl⟩
  have gb : IntKind.i64.wrap (b.toNat : Int) = b.toNat := wrap64 ⟨by omega, by have := byt_lt b; omega⟩
  have k1 : (0 : Int) < ((1 : Nat) : Int) := by omega
  have k2 : ((0 : Int) ≤ 0) = True := eq_true (Int.le_refl 0)
  refine ACallsF.intro ok103 follows fun X c0 => ?_
  simp only [go_sem]
  refine callQ (m := 1000) hC rfl rfl rfl rfl rfl ⟨?_, ?_⟩
  · simp only [go_sem]
  simp only [go_sem, encB_one, k1, k2, Int.toNat_zero, List.getElem?_cons_zero, gb, Option.getD_some]
def ok102 := okF.gu (P := Tryz.prog) tab Tryz.func102 Tryz.ntmps102 (by conv => lhs; cbv) (by kernel_rfl)
theorem textI_le (p : PI) : (textI p).2.1.length ≤ p.1.length ∧ (textI p).1.size ≤ 255 := by
  have h1 := oneI_le p
  have h2 := takeI_le (oneI p).1 (oneI p).2
  refine ⟨Nat.le_trans h2.1 h1.1, ?_⟩
  show (ofL (takeI (oneI p).1 (oneI p).2).1).size ≤ 255
  rw [ofL_size, h2.2]; exact h1.2
theorem textI_ok (p : PI) (hp : p.1.length ≤ 1000000) (m v : Nat) : ACallsF Tryz.prog 102 [rp v] [riH m v p (textI p).2] (tS (textI p).1) := by
  have h1 := oneI_le p
  have hC := oneI_ok p hp 1000 v
  have hC2 := takeI_ok (oneI p).1 (by omega) (oneI p).2 (by omega) 1000 v
  unfold textI
  generalize takeI (oneI p).1 (oneI p).2 = q at *
  generalize oneI p = o at *
  refine ACallsF.intro ok102 follows fun X c0 => ?_
  simp only [go_sem]
  refine callQ (m := 1000) hC rfl rfl rfl rfl rfl ⟨?_, ?_⟩
  · simp only [go_sem]
  simp only [go_sem]
  refine callQ (m := 1000) hC2 rfl rfl rfl rfl rfl ⟨?_, ?_⟩
  · simp only [go_sem]
  simp only [go_sem, bytesOf_enc, pushB_enc]
end Go.V
set_option linter.unusedSimpArgs false
set_option maxRecDepth 20000
namespace Go.V
open Go.Proofs
def szI : Nat → Nat → Nat → PI → Nat × PI
  | 0, _, _, p => (0, (p.1, true))
  | k + 1, i, acc, p => if (oneI p).1 < 128 then (acc + (oneI p).1 % 128 * 128 ^ i, (oneI p).2) else szI k (i + 1) (acc + (oneI p).1 % 128 * 128 ^ i) (oneI p).2
def numI (p : PI) : Int × PI := (if (oneI p).1 = 1 then -((szI 5 0 0 (oneI p).2).1 : Int) else ((szI 5 0 0 (oneI p).2).1 : Int), (szI 5 0 0 (oneI p).2).2)
def RI : Rd PI := ⟨fun p => p.2, oneI, textI, numI, fun p => (p.1, true)⟩
theorem szI_le : ∀ k i acc p, (szI k i acc p).2.1.length ≤ p.1.length
  | 0, _, _, p => Nat.le_refl _
  | k + 1, i, acc, p => by
    have := (oneI_le p).1
    rw [szI]
    split
    · exact this
    · exact Nat.le_trans (szI_le k _ _ _) this
theorem szI_lt : ∀ k i acc p, k + i = 5 → acc < 128 ^ i → (szI k i acc p).1 < 34359738368
  | 0, i, acc, p, hk, ha => by rw [szI]; show 0 < _; omega
  | k + 1, i, acc, p, hk, ha => by
    have h1 : (oneI p).1 % 128 * 128 ^ i ≤ 127 * 128 ^ i := Nat.mul_le_mul_right _ (by omega)
    have h2 : 128 ^ (i + 1) = 128 * 128 ^ i := by rw [Nat.pow_succ, Nat.mul_comm]
    have h3 : 128 ^ (i + 1) ≤ 128 ^ 5 := Nat.pow_le_pow_right (by omega) (by omega)
    have h4 : (128 : Nat) ^ 5 = 34359738368 := by decide
    rw [szI]
    split
    · show acc + _ < _; omega
    · exact szI_lt k (i + 1) _ _ (by omega) (by omega)
theorem bv_nat {x : Nat} (h : x < 18446744073709551616) : (BitVec.ofInt 64 (x : Int)).toNat = x := by
  rw [BitVec.toNat_ofInt]; omega
theorem bv_and (x : Nat) (h : x ≤ 255) : (BitVec.ofInt 64 (x : Int) &&& BitVec.ofInt 64 127).toNat = x % 128 := by
  show (BitVec.ofInt 64 (x : Int) &&& BitVec.ofInt 64 ((127 : Nat) : Int)).toNat = _
  rw [BitVec.toNat_and, bv_nat (by omega), bv_nat (by omega)]
  exact Nat.and_two_pow_sub_one_eq_mod x 7
theorem bv_or {a b k : Nat} (ha : a < 2 ^ k) (hk : k ≤ 35) (hb : b * 2 ^ k < 18446744073709551616) : (BitVec.ofInt 64 (a : Int) ||| BitVec.ofInt 64 ((b * 2 ^ k : Nat) : Int)).toNat = a + b * 2 ^ k := by
  have h1 : 2 ^ k ≤ 2 ^ 35 := Nat.pow_le_pow_right (by omega) hk
  have h2 : (2 : Nat) ^ 35 = 34359738368 := by decide
  show (BitVec.ofInt 64 (a : Int) ||| BitVec.ofInt 64 ((b * 2 ^ k : Nat) : Int)).toNat = _
  rw [BitVec.toNat_or, bv_nat (by omega), bv_nat hb, Nat.or_comm, Nat.mul_comm, ← Nat.two_pow_add_eq_or_of_lt ha, Nat.add_comm]
theorem pow7 (i : Nat) : (128 : Nat) ^ i = 2 ^ (7 * i) := by rw [Nat.pow_mul]
def ok131 := okF.gu (P := Tryz.prog) tab Tryz.func131 Tryz.ntmps131 (by conv => lhs; cbv) (by kernel_rfl)
def inv131 (v : Nat) (R : Nat × PI) (k : Nat) (σ : St) : Prop :=
  ∃ (i acc : Nat) (p : PI), k + i = 5 ∧ acc < 128 ^ i ∧ p.1.length ≤ 1000000 ∧ szI k i acc p = R ∧ σ.t 0 = rp v ∧ σ.t 3 = .i acc ∧ σ.t 4 = .i ((7 * i : Nat) : Int) ∧ σ.H 1000 = some (.var v 149 ((rcI p).map .v))
theorem sizeI_ok (p0 : PI) (hp : p0.1.length ≤ 1000000) (m v : Nat) : ACallsF Tryz.prog 131 [rp v] [riH m v p0 (szI 5 0 0 p0).2] (.i ((szI 5 0 0 p0).1 : Int)) := by
  refine ACallsF.intro ok131 follows fun X c0 => ?_
  generalize hR : szI 5 0 0 p0 = R
  simp only [go_sem]
  refine AW.loopM (inv131 v R) (fun k => k) 5 ⟨0, 0, p0, rfl, by simp, hp, hR, rfl, rfl, rfl, rfl⟩ fun k σ hI => ?_
  obtain ⟨t, H, c⟩ := σ
  obtain ⟨i, acc, p1, hk, hacc, hp1, hsz, e0, e3, e4, eH⟩ := hI
  simp only [T.c, T.i, List.map_cons, List.map_nil] at e0 e3 e4 eH
  have hP3 : 128 ^ i ≤ 128 ^ 5 := Nat.pow_le_pow_right (by omega) (by omega)
  have hP4 : (128 : Nat) ^ 5 = 34359738368 := by decide
  cases k with
  | zero =>
    have k0 : ¬ ((7 * i : Nat) : Int) < 35 := by omega
    rw [szI] at hsz
    subst hsz
    refine oneW.of ?_
    simp only [go_sem, e4, k0, e0, eH]
    rfl
  | succ k =>
    have k0 : ((7 * i : Nat) : Int) < 35 := by omega
    have hP2 : 128 ^ (i + 1) = 128 * 128 ^ i := by rw [Nat.pow_succ, Nat.mul_comm]
    have hP5 : 128 ^ (i + 1) ≤ 128 ^ 5 := Nat.pow_le_pow_right (by omega) (by omega)
    have hC1 := oneI_ok p1 hp1 1000 v
    obtain ⟨h3, h4⟩ := oneI_le p1
    rw [szI] at hsz
    generalize oneI p1 = q at *
    obtain ⟨x, p2⟩ := q
    simp only at h3 h4 hC1 hsz
    have hm : x % 128 * 128 ^ i ≤ 127 * 128 ^ i := Nat.mul_le_mul_right _ (by omega)
    have g1 : IntKind.i64.wrap ((x % 128 : Nat) : Int) = ((x % 128 : Nat) : Int) := wrap64 ⟨by omega, by omega⟩
    have b1 := bv_and x (by omega)
    have m1 : min (7 * i) 64 = 7 * i := by omega
    have g2 : IntKind.i64.wrap (((x % 128 : Nat) : Int) * 2 ^ (7 * i)) = ((x % 128 * 2 ^ (7 * i) : Nat) : Int) := by
      have : ((x % 128 : Nat) : Int) * 2 ^ (7 * i) = ((x % 128 * 2 ^ (7 * i) : Nat) : Int) := by rw [Int.natCast_mul, Int.natCast_pow]; rfl
      rw [this]; rw [pow7] at hm hP3; exact wrap64 ⟨by omega, by omega⟩
    have hacc2 : acc < 2 ^ (7 * i) := by rw [← pow7]; exact hacc
    have b2 := bv_or (b := x % 128) hacc2 (by omega) (by rw [← pow7]; omega)
    have g3 : IntKind.i64.wrap ((acc + x % 128 * 2 ^ (7 * i) : Nat) : Int) = ((acc + x % 128 * 128 ^ i : Nat) : Int) := by
      rw [← pow7]; exact wrap64 ⟨by omega, by omega⟩
    have g4 : IntKind.i64.wrap (((7 * i : Nat) : Int) + 7) = ((7 * (i + 1) : Nat) : Int) := (wrap64 (x := ((7 * i : Nat) : Int) + 7) ⟨by omega, by omega⟩).trans (by omega)
    have nz : ¬ ((7 * i : Nat) : Int) < 0 := by omega
    have A1 : sInt .and .i64 (x : Int) 127 = some (.int .i64 ((x % 128 : Nat) : Int)) := by
      show some (Value.int .i64 (IntKind.i64.wrap ((BitVec.ofInt 64 (x : Int) &&& BitVec.ofInt 64 127).toNat : Nat))) = _
      rw [b1, g1]
    have A2 : sInt .shl .i64 ((x % 128 : Nat) : Int) ((7 * i : Nat) : Int) = some (.int .i64 ((x % 128 * 2 ^ (7 * i) : Nat) : Int)) := by
      show (if ((7 * i : Nat) : Int) < 0 then none else some (Value.int .i64 (IntKind.i64.wrap (((x % 128 : Nat) : Int) * 2 ^ (min (7 * i) 64))))) = _
      rw [if_neg nz, m1, g2]
    have A3 : sInt .or .i64 (acc : Int) ((x % 128 * 2 ^ (7 * i) : Nat) : Int) = some (.int .i64 ((acc + x % 128 * 128 ^ i : Nat) : Int)) := by
      show some (Value.int .i64 (IntKind.i64.wrap ((BitVec.ofInt 64 (acc : Int) ||| BitVec.ofInt 64 ((x % 128 * 2 ^ (7 * i) : Nat) : Int)).toNat : Nat))) = _
      rw [b2, g3]
    refine oneW.of ?_
    simp only [go_sem, e4, k0, e0]
    refine callQ (m := 1000) hC1 rfl rfl rfl rfl eH ⟨?_, ?_⟩
    · simp only [go_sem]
    by_cases hx : x < 128
    · rw [if_pos hx] at hsz
      subst hsz
      have k1 : (x : Int) < 128 := by omega
      simp only [go_sem, e3, e4, A1, A2, A3, k1]
    · rw [if_neg hx] at hsz
      have k1 : ¬ (x : Int) < 128 := by omega
      simp only [go_sem, e3, e4, A1, A2, A3, k1, g4]
      exact ⟨k, Nat.lt_succ_self _, i + 1, _, p2, by omega, by omega, by omega, hsz, e0, rfl, rfl, rfl⟩
end Go.V
set_option linter.unusedSimpArgs false
namespace Go.V
open Go.Proofs
def HasI (p : PI) (l : List UInt8) : Prop := p = (l, false)
theorem oneI_has (b : UInt8) (l : List UInt8) : oneI (b :: l, false) = (b.toNat, (l, false)) := by
  have : takeI 1 (b :: l, false) = ([b], (l, false)) := if_pos (by simp)
  rw [oneI, this]; rfl
theorem textI_has (x : ByteArray) (l : List UInt8) (hx : x.size ≤ 255) : textI (pkX x ++ l, false) = (x, (l, false)) := by
  have e : oneI (pkX x ++ l, false) = (x.size, (x.data.toList ++ l, false)) := by
    have := oneI_has (byt x.size) (x.data.toList ++ l)
    rw [byt_nat hx] at this
    exact this
  have hxl : x.data.toList.length = x.size := by rw [Array.length_toList]; rfl
  have t : takeI x.size (x.data.toList ++ l, false) = (x.data.toList, (l, false)) := by
    rw [takeI, if_pos (by simp only [List.length_append]; omega)]
    simp only
    rw [List.take_append_of_le_length (by omega), List.take_of_length_le (by omega), List.drop_append_of_le_length (by omega), List.drop_of_length_le (by omega), List.nil_append]
  rw [textI, e]
  simp only
  rw [t]
  simp only [ofL_data]
theorem szI_has : ∀ (k i acc n : Nat) (l : List UInt8), 0 < k → n < 128 ^ k → k ≤ 5 → szI k i acc (pkL n ++ l, false) = (acc + n * 128 ^ i, (l, false))
  | 0, _, _, _, _, hk, _, _ => by omega
  | k + 1, i, acc, n, l, _, hn, h5 => by
    have hn5 : n < 34359738368 := Nat.lt_of_lt_of_le hn (Nat.le_trans (Nat.pow_le_pow_right (by omega) h5) (by decide))
    by_cases hs : n < 128
    · have e := oneI_has (byt n) l
      rw [byt_nat (by omega)] at e
      have e' : oneI (pkL n ++ l, false) = (n, (l, false)) := by rw [pkL_small hs]; exact e
      rw [szI, e']
      simp only [hs, if_true, Nat.mod_eq_of_lt hs]
    · have e := oneI_has (byt ((n % 128 + 128 : Nat) : Int)) (pkL (n / 128) ++ l)
      rw [byt_nat (by omega)] at e
      have e' : oneI (pkL n ++ l, false) = (n % 128 + 128, (pkL (n / 128) ++ l, false)) := by rw [pkL_big (by omega) hn5]; exact e
      have hk : 0 < k := by
        rcases Nat.eq_zero_or_pos k with rfl | h
        · simp at hn; omega
        · exact h
      have hd : n / 128 < 128 ^ k := by
        rw [Nat.pow_succ] at hn
        exact Nat.div_lt_of_lt_mul (by rw [Nat.mul_comm]; exact hn)
      have ih := szI_has k (i + 1) (acc + (n % 128 + 128) % 128 * 128 ^ i) (n / 128) l hk hd (by omega)
      rw [szI, e']
      simp only [show ¬ n % 128 + 128 < 128 from by omega, if_false]
      rw [ih, show (n % 128 + 128) % 128 = n % 128 from by omega, Nat.pow_succ, Nat.add_assoc]
      congr 2
      rw [Nat.mul_comm (128 ^ i), ← Nat.mul_assoc, ← Nat.add_mul]
      congr 1
      omega
theorem RI_ok : RdOk RI HasI where
  fail h := by rw [h]; rfl
  one h := by
    rw [h]
    have := oneI_has ‹_› ‹_›
    show (oneI _).1 = _ ∧ HasI (oneI _).2 _
    rw [this]; exact ⟨rfl, rfl⟩
  text hx h := by
    rw [h]
    show (textI _).1 = _ ∧ HasI (textI _).2 _
    rw [textI_has _ _ hx]; exact ⟨rfl, rfl⟩
  num {p n l} h1 h2 h := by
    rw [h]
    show (numI _).1 = _ ∧ HasI (numI _).2 _
    have e : oneI (pkN n ++ l, false) = ((byt (if n < 0 then 1 else 0)).toNat, (pkL n.natAbs ++ l, false)) := oneI_has _ _
    have hn : n.natAbs < 128 ^ 5 := Nat.lt_of_lt_of_le (show n.natAbs < 1000000000 by omega) (by decide)
    have s := szI_has 5 0 0 n.natAbs l (by omega) hn (by omega)
    simp only [Nat.pow_zero, Nat.mul_one, Nat.zero_add] at s
    unfold numI
    rw [e]
    simp only
    rw [s]
    by_cases h0 : n < 0
    · have : (byt (if n < 0 then 1 else 0)).toNat = 1 := by rw [if_pos h0]; rfl
      refine ⟨?_, rfl⟩
      simp only [this, if_true]
      omega
    · have : (byt (if n < 0 then 1 else 0)).toNat = 0 := by rw [if_neg h0]; rfl
      refine ⟨?_, rfl⟩
      simp only [this, show ¬ (0 = 1) from by decide, if_false]
      omega
theorem RI_B : RdB RI := ⟨fun p => (oneI_le p).2, fun p => (textI_le p).2⟩
section
variable {P : Program} {t : Nat → T} {H : HMap} {c : Nat} {f : Opd} {args : List Opd} {fid : FuncId} {n m v : Nat} {ty : TypeId} {xs ys : List V} {argsC : List T} {r r' : T} {k : Nat} {d : Option Nat} {un : List Nat} {l : List AOper} {prev : List (Nat × List Nat × List Nat)} {K : St → Prop}
abbrev trR (m v c1 c2 m1 m2 : Nat) (p p' : PI) (y : Tr) : List Hand := trH2 c1 c2 m1 m2 y ++ [riH m v p p']
/-- A call of the reader that gives a tree. -/
theorem callQt {c1 c2 m1 m2 : Nat} {p p' : PI} {y : Tr} (hC : ACallsF P fid (.c (.ptr 1000 v 0) :: argsC) (trR m v c1 c2 m1 m2 p p' y) (.pt (oTr c1 0 c2 0 y))) (hcc : c1 ≠ c2 ∧ c1 ≠ 1000 ∧ c2 ≠ 1000) (hm : m1 ≠ m2 ∧ m1 ≠ m ∧ m2 ≠ m) (hf : ev t f = .pt (.one (.fn fid []))) (hl : args.map (ev t) = .c (.ptr m v 0) :: argsC)
    (ha : argsC.all closedA = true) (hH : H m = some (.var v 149 ((rcI p).map .v)))
    (hk : chk prev un ⟨.pt (oTr m1 (c + k) m2 (c + k) y), [(m1, .arr (c + k) true 1 9 (encS y.n)), (m2, .tree (c + k) true 5 118 (encTs y.k) none), (m, .var v 149 ((rcI p').map .v))], [m1, m2, m], [m1, m2, m]⟩ = true ∧
      DRun P l ((k, [m1, m2, m], [m1, m2, m]) :: prev) K ⟨updD t d (.pt (oTr m1 (c + k) m2 (c + k) y)), upd (upd (upd H m1 (some (.arr (c + k) true 1 9 (encS y.n)))) m2 (some (.tree (c + k) true 5 118 (encTs y.k) none))) m (some (.var v 149 ((rcI p').map .v))), c⟩) :
    step P k d un (.call f args) l prev K t H c := by
  obtain ⟨d1, d2, d3⟩ := hcc
  obtain ⟨e1, e2, e3⟩ := hm
  generalize hhs : trR m v c1 c2 m1 m2 p p' y = hs at hC
  have N1 : renN hs c1 = some (newH c1 m1 1 9 (encS y.n)) := by rw [← hhs]; simp [renN]
  have N2 : renN hs c2 = some (newT c2 m2 5 118 (encTs y.k)) := by rw [← hhs]; simp [renN, d1]
  have N3 : renN hs 1000 = some (riH m v p p') := by rw [← hhs]; simp [renN, d2, d3]
  have I3 : inN hs 1000 = some m := by simp [inN, N3]
  obtain ⟨x1, x2⟩ := closed_As hs H argsC ha
  refine callW (caps := []) (ws := []) (ns := []) («as» := .c (.ptr m v 0) :: argsC) (r' := .pt (oTr m1 (c + k) m2 (c + k) y)) (ob := [(m1, .arr (c + k) true 1 9 (encS y.n)), (m2, .tree (c + k) true 5 118 (encTs y.k) none), (m, .var v 149 ((rcI p').map .v))]) hs hC hf ?_ ?_ ?_ ?_ ?_ ?_ ?_ ?_
  · rw [hl]
    simp only [List.map_nil, T.c, lendTs, lendT, lendC, Option.map_some, List.append_nil, x1]
  · simp only [List.map_nil, List.append_nil, T.c, renITs, renIT, renI, I3, Option.map_some, x2]
  · have key : handsIn (updH H []) hs (trR m v c1 c2 m1 m2 p p' y) := by
      refine ⟨trivial, trivial, ?_, trivial⟩
      simp only [renIB, List.map_cons, List.map_nil, renIs, renI, Option.map_some, updH]
      exact hH
    rw [hhs] at key
    exact key
  · rw [← hhs]; simp [e1, e2, e3]
  · rw [← hhs]; simp [d1, d2, d3]
  · simp only [renOT, renOP, renOs, renO, N1, N2, Option.map_some, verOf]; rfl
  · have key : renOBs hs (c + k) (trR m v c1 c2 m1 m2 p p' y) = some [(m1, .arr (c + k) true 1 9 (encS y.n)), (m2, .tree (c + k) true 5 118 (encTs y.k) none), (m, .var v 149 ((rcI p').map .v))] := by
      simp only [trR, trH2, List.cons_append, List.nil_append, renOBs, renOB, verOf, List.map_cons, List.map_nil, renOs, renO, Option.map_some]; rfl
    rw [hhs] at key
    exact key
  · have hq : quiet (.pt (oTr c1 0 c2 0 y)) hs = false := by rw [← hhs]; simp [quiet]
    have hms : hs.map (·.m) = [m1, m2, m] := by rw [← hhs]; rfl
    rw [hq, hms]
    simpa [updH] using hk
end
/-- A leaf of nil slices. -/
theorem ownLeaf {P : Program} {f : FuncId} {args : List T} {m v m1 m2 : Nat} {p p' : PI} {s n : Int} {x : ByteArray} (h : ACallsF P f args [riH m v p p'] (.pt (.agg [.v (.s (.int .i64 s)), .v (.s (.int .i64 n)), .v (.s (.string x)), .nil0, .nil0]))) :
    ACallsF P f args (trR m v 2005 2004 m1 m2 p p' (.mk s n x [] [])) (.pt (oTr 2005 0 2004 0 (.mk s n x [] []))) :=
  own0 (r := .pt (.agg [.v (.s (.int .i64 s)), .v (.s (.int .i64 n)), .v (.s (.string x)), .nil0, .tr 2004 0 0])) (hs := newT 2004 m2 5 118 [] :: [riH m v p p']) false 0 3 2005 m1 1 9 (by decide) rfl rfl (fun ν ν' h => by simp [verT, verP, verC, h]) (fun ν ν' h x hx v => by simp at hx; rcases hx with rfl | rfl <;> simp [verB, verC])
    (own0 (r := .pt (.agg [.v (.s (.int .i64 s)), .v (.s (.int .i64 n)), .v (.s (.string x)), .nil0, .nil0])) (hs := [riH m v p p']) true 0 4 2004 m2 5 118 (by decide) rfl rfl (fun ν ν' h => by simp [verT, verP, verC]) (fun ν ν' h x hx v => by simp at hx; subst hx; simp [verB, verC]) h)
end Go.V

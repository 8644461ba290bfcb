/- The program's LogPlay returns what the reference's returns, for all arguments. -/
import Derived.Test.YtaojogkldejmhaaGreatDoorMX3
import Derived.Test.YtaojogkldejmhaaGreatDoorMK1
set_option linter.unusedVariables false
set_option linter.unusedSimpArgs false
namespace Go.V
open Go.Proofs Go.RowKit
/-! Contracts of the kit, told over abstract values. -/
theorem lift_vs {w : World} {imm : Imm} {H : HMap} {L : Locs} {U : Nat → Prop} : ∀ {args vs : List Value}, TsRep w imm H L U vs (args.map T.s) → vs = args
  | [], vs, h => by have := h.1; simpa using this
  | a :: l, [], h => by have := h.1; simp at this
  | a :: l, v :: vs, h => by
    have h0 : v = a := rep_s (h.2 0 v (T.s a) rfl rfl)
    have h1 := lift_vs (args := l) (vs := vs) ⟨by have := h.1; simpa using this, fun k x y hx hy => h.2 (k + 1) x y (by simpa using hx) (by simpa using hy)⟩
    rw [h0, h1]
theorem keep_below {w w' : World} {imm : Imm} (hb : Below w.heap.size w w') (hi : ∀ b o, imm b o → b < w.heap.size) : ∀ b o, imm b o → imm b o ∧ w'.cell? ⟨b, o, none⟩ = w.cell? ⟨b, o, none⟩ := fun b o h =>
  ⟨h, by simp only [World.cell?, hb.block b (hi b o h)]⟩
theorem lift0 {P : Program} {f : FuncId} {args : List Value} {r : T} {x : Value} (hfn : isFn P f = true) (hr : closedT r = true) (hx : ∀ w imm H L U, TRep w imm H L U x r)
    (h : ∀ w imm, Glob w imm → Calls P f args.toArray w fun e w' => e = .returned x ∧ Below w.heap.size w w') : ACallsF P f (args.map T.s) [] r := by
  refine ⟨hfn, fun w imm L c vs hH hT => ?_⟩
  rw [lift_vs hT]
  refine (h w imm hH.glob).mono ?_
  rintro e w' ⟨rfl, hb⟩
  have hk := keep_below hb hH.imm
  exact ⟨x, r, fun _ => none, imm, L, c, rfl, ⟨fun v => v, (closedT_ver _ hr).symm, fun n q hn => by simp [renN] at hn⟩, hx _ _ _ _ _,
    ⟨fun n B hB => (by cases hB), fun n m g hn => absurd rfl hn, fun n g hn => absurd rfl hn, hH.glob.keep hk, fun b o h => Nat.lt_of_lt_of_le (hH.imm b o h) hb.size⟩,
    ⟨hb.os, hb.tape, hb.output, hb.size, fun b hlt _ => hb.block b hlt, hk, fun b o h => .inl h⟩, fun n g hn => absurd rfl hn,
    ⟨fun _ h => h, fun n ver ty cs _ hB => (by cases hB), fun n ver wr st ty es _ hB => (by cases hB), fun n ver wr st ty es g cur _ hB => (by cases hB), fun n ver wr st ty es op _ hB => (by cases hB), fun n ver wr st ty es op g cur _ hB => (by cases hB)⟩⟩
theorem rep_str (s : ByteArray) : ∀ w imm H L U, TRep w imm H L U (.string s) (tS s) := fun _ _ _ _ _ => .s _ rfl
theorem tab_of {w : World} {imm : Imm} (h : Glob w imm) : Lib.TabIs Tryz.prog w "internal/strconv.uint64pow10" .u64 Lib.pow10Tab := by
  have h0 := h (0, _) (List.mem_cons_self)
  have hg : Tryz.prog.globalNamed "internal/strconv.uint64pow10" = some 0 := by kernel_rfl
  unfold Lib.TabIs World.var?
  rw [hg, Option.bind_some]
  have hl : ((List.range 20).map fun i => Value.int .u64 ((10 ^ i : Nat) : Int)) = Lib.pow10Tab.map fun z => Value.int .u64 z := by simp [Lib.pow10Tab, Function.comp_def]
  have hc : ∀ o, w.cell? ⟨0, o, none⟩ = (Lib.pow10Tab.map fun z => Value.int .u64 z)[o]? := fun o => (h0 o).2.trans (by rw [hl])
  unfold World.cell? at hc
  cases hb : w.heap[0]? with
  | none => have := hc 0; simp [hb, Lib.pow10Tab] at this
  | some b =>
    cases b with
    | cells cs e fr =>
      simp only [Option.some.injEq]
      apply Array.ext_getElem?
      intro i
      have := hc i
      simp only [hb] at this
      rw [List.getElem?_toArray]
      simpa using this
    | _ => have := hc 0; simp [hb, Lib.pow10Tab] at this
theorem iface1 {w : World} {imm : Imm} (h : Glob w imm) : ∃ a b, w.cell? ⟨1, 0, none⟩ = some (.iface a b) := (h (1, _) (List.mem_cons_of_mem _ List.mem_cons_self) 0).2 rfl
theorem iface2 {w : World} {imm : Imm} (h : Glob w imm) : ∃ a b, w.cell? ⟨2, 0, none⟩ = some (.iface a b) := (h (2, _) (List.mem_cons_of_mem _ (List.mem_cons_of_mem _ List.mem_cons_self)) 0).2 rfl
theorem int3 {w : World} {imm : Imm} (h : Glob w imm) : ∃ m, w.cell? ⟨3, 0, none⟩ = some (.int .i64 m) := (h (3, _) (List.mem_cons_of_mem _ (List.mem_cons_of_mem _ (List.mem_cons_of_mem _ List.mem_cons_self))) 0).2 rfl
theorem itoa_ok (n : Int) (h : -9223372036854775808 ≤ n ∧ n ≤ 9223372036854775807) : ACallsF Tryz.prog 140 [.i n] [] (tS (dc n)) :=
  lift0 (args := [.int .i64 n]) (x := .string (dc n)) (by kernel_rfl) rfl (rep_str _) fun w imm hg => (Any.strconv_Itoa laysItoa n h.1 h.2 w (tab_of hg)).mono fun e w' ⟨h1, k, os, h2⟩ => ⟨h1, by
    subst h2
    refine ⟨rfl, rfl, rfl, by simp [Go.Sort.grow, World.drewN], fun j hj => ?_⟩
    show (w.heap ++ os)[j]? = _
    rw [Array.getElem?_append_left hj]⟩
theorem readNum_ok (s : ByteArray) (hs : s.size ≤ 281474976710656) : ACallsF Tryz.prog 155 [tS s] [] (.tup [.one (.v (.s (.int .i64 (rnN s)))), .one (.v (.s (.bool (rnB s))))]) :=
  lift0 (args := [.string s]) (x := .tuple #[.int .i64 (rnN s), .bool (rnB s)]) (by kernel_rfl) rfl (fun w imm H L U => ⟨[_, _], rfl, rfl, fun k u y hu hy => by
      rcases k with _ | _ | k
      · simp at hu hy; subst hu hy; exact .s _ rfl
      · simp at hu hy; subst hu hy; exact .s _ rfl
      · simp at hu⟩) fun w imm hg => by
    exact readNum_kit s hs w (tab_of hg) (iface1 hg) (iface2 hg)
end Go.V
set_option linter.unusedSimpArgs false
set_option maxRecDepth 20000
namespace Go.V
open Go.Proofs Go.RowKit
def joinB (s : ByteArray) : List Int → ByteArray
  | [] => s
  | n :: ns => joinB (s ++ (⟨#[32]⟩ ++ dc n)) ns
theorem dc_le (n : Int) (h : -9223372036854775808 ≤ n ∧ n ≤ 9223372036854775807) : (dc n).size ≤ 20 := by
  rw [dc, ofL_size, Lib.itoa]
  split
  · have := dd_len 18 n.natAbs (by omega)
    rw [List.length_cons]; omega
  · have := dd_len 18 n.toNat (by omega)
    omega
def ok166 := okF.gu (P := Tryz.prog) tab Tryz.func166 Tryz.ntmps166 (by conv => lhs; cbv) (by kernel_rfl)
def inv166 (s : ByteArray) (ns : List Int) (i : Nat) (σ : St) : Prop := ∃ c : ByteArray, joinB s ns = joinB c (ns.drop i) ∧ c.size ≤ s.size + 21 * i ∧ σ.t 0 = tS c ∧ σ.t 7 = tL (en eI ns) ∧ σ.t 8 = .i ns.length ∧ σ.t 9 = .i i
theorem joined_ok (s : ByteArray) (ns : List Int) (hn : ∀ n ∈ ns, -9223372036854775808 ≤ n ∧ n ≤ 9223372036854775807) (hs : s.size ≤ 1000000) (hl : ns.length ≤ 1000000) : ACallsF Tryz.prog 166 [tS s, tL (en eI ns)] [] (tS (joinB s ns)) := by
  refine ACallsF.intro ok166 follows fun X c0 => ?_
  simp only [go_sem]
  refine AW.upto ns.length (inv166 s ns) ⟨s, rfl, Nat.le_refl _, rfl, rfl, rfl, rfl⟩ fun i t H c hi h => ?_
  obtain ⟨cur, hj, hz, e0, e7, e8, e9⟩ := h
  simp only [T.c, T.i, T.s, tL] at e0 e7 e8 e9
  by_cases hlt : i < ns.length
  · obtain ⟨n, hn1⟩ : ∃ n, ns[i]? = some n := ⟨_, List.getElem?_eq_getElem hlt⟩
    have en1 := en_at eI hn1
    have hn2 := hn n (List.mem_of_getElem? hn1)
    have k1 : (i : Int) < ns.length := by omega
    have gz : (0 : Int) ≤ i := by omega
    have gw : IntKind.i64.wrap ((i : Int) + 1) = ((i + 1 : Nat) : Int) := wrap64 (x := (i : Int) + 1) ⟨by omega, by omega⟩
    have hd := dc_le n hn2
    have h1 : (⟨#[32]⟩ : ByteArray).size = 1 := rfl
    have f1 : fits ⟨#[32]⟩ (dc n) := by rw [fits, h1]; omega
    have f2 : fits cur (⟨#[32]⟩ ++ dc n) := by rw [fits, ByteArray.size_append, h1]; omega
    simp only [go_sem, e0, e7, e8, e9, k1, gz, en1, eI]
    refine callC (itoa_ok n hn2) rfl rfl rfl rfl ?_
    simp only [go_sem, e0, e7, e8, e9, sStr, f1, f2, gw]
    refine ⟨hlt, _, ?_, ?_, rfl, e7, e8, rfl⟩
    · rw [hj, drop_at hn1, joinB]
    · rw [ByteArray.size_append, ByteArray.size_append, h1]; omega
  · have hi2 : i = ns.length := by omega
    subst hi2
    have k1 : ¬ (ns.length : Int) < ns.length := by omega
    rw [List.drop_length, joinB] at hj
    rw [hj]
    simp only [go_sem, e0, e7, e8, e9, k1]
/-- A contract at a world that is known. -/
theorem ACallsF.kit {P : Program} {f : FuncId} {args : List T} {r : T} {W : World} {imm : Imm} {vs : List Value} (hC : ACallsF P f args [] r) (hr : closedT r = true) (hg : Glob W imm) (hi : ∀ b o, imm b o → b < W.heap.size) (ht : TsRep W imm (fun _ => none) ⟨fun _ => none, fun _ _ => False⟩ (· < 0) vs args) :
    Calls P f vs.toArray W fun e W' => ∃ x imm', e = .returned x ∧ TRep W' imm' (fun _ => none) ⟨fun _ => none, fun _ _ => False⟩ (fun _ => False) x r ∧ Below W.heap.size W W' := by
  have hin : hinOf [] = fun _ => none := rfl
  refine (hC.2 W imm ⟨fun _ => none, fun _ _ => False⟩ 0 vs ⟨fun n B hB => (by cases hB), fun n m g hn => absurd rfl hn, fun n g hn => absurd rfl hn, hg, hi⟩ ht).mono ?_
  rintro e W' ⟨x, r', h', imm', L', c', rfl, ⟨ν, hr', _⟩, hx, hok, hst, _, _⟩
  rw [hr', closedT_ver ν hr] at hx
  refine ⟨x, imm', rfl, closedT_rep (fun _ _ h => ⟨h, rfl⟩) hr hx, hst.os, hst.tape, hst.output, hst.size, fun k hk => hst.frame k hk ?_⟩
  rintro ⟨n, hn, _⟩
  exact hn rfl
/-- .. of a row of numbers in a block of its own. -/
theorem joined_kit (s : ByteArray) (ns : List Int) (hn : ∀ n ∈ ns, -9223372036854775808 ≤ n ∧ n ≤ 9223372036854775807) (hs : s.size ≤ 1000000) (hl : ns.length ≤ 1000000) (h0 : ns ≠ []) (W : World) (g : Nat) (hg : W.heap[g]? = some (.cells (ns.map fun n => Value.int .i64 n).toArray 3 (0, 0))) (imm : Imm) (hG : Glob W imm) (hi : ∀ b o, imm b o → b < W.heap.size) :
    Calls Tryz.prog 166 #[.string s, .slice (some ⟨g, 0, none⟩) ns.length ns.length] W fun e W' => e = .returned (.string (joinB s ns)) ∧ Below W.heap.size W W' := by
  have hlt : g < W.heap.size := (Array.getElem?_eq_some_iff.1 hg).1
  refine (ACallsF.kit (vs := [.string s, .slice (some ⟨g, 0, none⟩) ns.length ns.length]) (imm := fun b o => imm b o ∨ b = g) (joined_ok s ns hn hs hl) rfl (hG.keep fun b o h => ⟨.inl h, rfl⟩) (fun b o h => by rcases h with h | rfl; exact hi b o h; exact hlt) ⟨rfl, fun k x y hx hy => ?_⟩).mono ?_
  · rcases k with _ | _ | k
    · simp at hx hy; subst hx hy; exact .s _ rfl
    · simp at hx hy
      subst hx hy
      have hlen : ns.length = (en eI ns).length := (en_len eI ns).symm
      show VRep W _ (.slice (some ⟨g, 0, none⟩) ns.length ns.length) (.sl (en eI ns))
      rw [hlen]
      refine .sl (en eI ns) 1 g 0 _ (fun i _ => (ns[i]?).elim (.bool false) fun n => .int .i64 n) Nat.one_pos (by simp [en, h0]) (Nat.le_refl _) (fun e he => (by
          simp only [en, List.mem_map] at he; obtain ⟨n, _, rfl⟩ := he; rfl)) (fun i j x hx => ?_) fun i j x hx => ?_
      all_goals
        unfold at2 at hx
        cases hni : ns[i]? with
        | none => rw [show (en eI ns)[i]? = none from by simp [en, hni]] at hx; simp at hx
        | some n =>
          rw [en_at eI hni] at hx
          cases j with
          | succ j => simp [eI] at hx
          | zero =>
            simp [eI] at hx
            subst hx
            first
              | exact .s _ rfl
              | exact ⟨by simp [World.cell?, hg, hni], .inr rfl⟩
    · simp at hx
  · rintro e W' ⟨x, imm', rfl, hx, hb⟩
    have hx' : x = .string (joinB s ns) := rep_s hx
    exact ⟨by rw [hx'], hb⟩
end Go.V
set_option linter.unusedSimpArgs false
namespace Go.V
open Go.Proofs Go.RowKit
/-! The text of a plan. -/
def wSeal : ByteArray := ⟨#[115, 101, 97, 108]⟩
def wOpen : ByteArray := ⟨#[111, 112, 101, 110]⟩
def lineB (x : LP) : ByteArray := joinB wSeal [x.num, x.first, x.next, x.size] ++ ⟨#[10]⟩
def endB (p : Pl) : ByteArray := joinB wOpen [p.opn, p.first] ++ ⟨#[10, 101, 110, 100, 10]⟩
def linesL (xs : List LP) : List UInt8 := xs.flatMap fun x => (lineB x).data.toList
/-- The text of a plan. -/
def planT (p : Pl) : ByteArray := ofL (linesL p.parts ++ (endB p).data.toList)
def kOf (x : LP) : KP := ⟨x.num, x.first, x.next, x.size⟩
theorem kText_of (xs : List LP) : kText joinB (xs.map kOf) = linesL xs := by
  induction xs with
  | nil => rfl
  | cons x xs ih => rw [List.map_cons, kText, ih]; rfl
def i64 (n : Int) : Prop := -9223372036854775808 ≤ n ∧ n ≤ 9223372036854775807
structure okPl (p : Pl) : Prop where
  len : p.parts.length ≤ 100000
  part : ∀ x ∈ p.parts, i64 x.num ∧ i64 x.first ∧ i64 x.next ∧ i64 x.size
  opn : i64 p.opn
  first : i64 p.first
theorem joinB_le : ∀ (ns : List Int) (s : ByteArray), (∀ n ∈ ns, i64 n) → (joinB s ns).size ≤ s.size + 21 * ns.length
  | [], s, _ => Nat.le_refl _
  | n :: ns, s, h => by
    have h1 := dc_le n (h n List.mem_cons_self)
    have h2 := joinB_le ns (s ++ (⟨#[32]⟩ ++ dc n)) fun m hm => h m (List.mem_cons_of_mem _ hm)
    have h3 : (⟨#[32]⟩ : ByteArray).size = 1 := rfl
    rw [ByteArray.size_append, ByteArray.size_append, h3] at h2
    rw [joinB, List.length_cons]; omega
/-- joinB where it is short. -/
def jB (s : ByteArray) (ns : List Int) : ByteArray := if (joinB s ns).size ≤ 1000 then joinB s ns else ⟨#[]⟩
theorem jB_le (s : ByteArray) (ns : List Int) : (jB s ns).size ≤ 1000 := by
  unfold jB
  split
  · assumption
  · exact Nat.zero_le _
theorem jB_eq {s : ByteArray} {ns : List Int} (h : ∀ n ∈ ns, i64 n) (hs : s.size ≤ 10) (hl : ns.length ≤ 10) : jB s ns = joinB s ns := if_pos (by have := joinB_le ns s h; omega)
theorem i64_4 {a b c d : Int} (h : i64 a ∧ i64 b ∧ i64 c ∧ i64 d) : ∀ n ∈ [a, b, c, d], i64 n := by
  intro n hn
  simp only [List.mem_cons, List.not_mem_nil, or_false] at hn
  rcases hn with rfl | rfl | rfl | rfl
  · exact h.1
  · exact h.2.1
  · exact h.2.2.1
  · exact h.2.2.2
theorem i64_2 {a b : Int} (h : i64 a ∧ i64 b) : ∀ n ∈ [a, b], i64 n := by
  intro n hn
  simp only [List.mem_cons, List.not_mem_nil, or_false] at hn
  rcases hn with rfl | rfl
  · exact h.1
  · exact h.2
theorem kText_jB {xs : List LP} (h : ∀ x ∈ xs, i64 x.num ∧ i64 x.first ∧ i64 x.next ∧ i64 x.size) : kText jB (xs.map kOf) = linesL xs := by
  rw [← kText_of]
  induction xs with
  | nil => rfl
  | cons x xs ih =>
    rw [List.map_cons, kText, kText, ih fun y hy => h y (List.mem_cons_of_mem _ hy)]
    have : kLine jB (kOf x) = kLine joinB (kOf x) := by
      have e := jB_eq (s := wSeal) (i64_4 (h x List.mem_cons_self)) (Nat.le_of_ble_eq_true rfl) (by simp)
      exact congrArg (· ++ (⟨#[10]⟩ : ByteArray)) e
    rw [this]
theorem planText_ok (p : Pl) (hp : okPl p) : ACallsF Tryz.prog 160 [tPl p] [] (tS (planT p)) := by
  have hJ4 := fun x hx => i64_4 (hp.part x hx)
  have hJ2 := i64_2 ⟨hp.opn, hp.first⟩
  refine ⟨by kernel_rfl, fun w imm L c vs hH hT => ?_⟩
  obtain ⟨v, rfl⟩ : ∃ v, vs = [v] := by
    have := hT.1
    match vs, this with
    | [v], _ => exact ⟨v, rfl⟩
  have hv : PRep w imm _ L _ v (.agg (cPl p)) := hT.2 0 v _ rfl rfl
  obtain ⟨us, rfl, hul, hu⟩ := hv
  obtain ⟨u0, u1, u2, rfl⟩ : ∃ u0 u1 u2, us = [u0, u1, u2] := by
    match us, hul with
    | [u0, u1, u2], _ => exact ⟨u0, u1, u2, rfl⟩
  have h1 : u1 = .int .i64 p.opn := rep_s (H := hinOf []) (L := L) (U := (· < c)) (hu 1 u1 _ rfl rfl)
  have h2 : u2 = .int .i64 p.first := rep_s (H := hinOf []) (L := L) (U := (· < c)) (hu 2 u2 _ rfl rfl)
  have h0 : VRep w imm u0 (.sl (en eP p.parts)) := hu 0 u0 _ rfl rfl
  subst h1 h2
  obtain ⟨ad, cap, rfl, hcell⟩ : ∃ ad cap, u0 = .slice ad (p.parts.map kOf).length cap ∧ ∀ k x, (p.parts.map kOf)[k]? = some x → ∃ b off, ad = some ⟨b, off, none⟩ ∧ b < w.heap.size ∧ w.cell? ⟨b, off + k * 4, none⟩ = some (.int .i64 x.a) ∧ w.cell? ⟨b, off + k * 4 + 1, none⟩ = some (.int .i64 x.b) ∧ w.cell? ⟨b, off + k * 4 + 2, none⟩ = some (.int .i64 x.c) ∧ w.cell? ⟨b, off + k * 4 + 3, none⟩ = some (.int .i64 x.d) := by
    generalize hes : en eP p.parts = es at h0
    have hlen : es.length = (p.parts.map kOf).length := by rw [← hes, en_len, List.length_map]
    cases h0 with
    | nil a cap =>
      have : (p.parts.map kOf) = [] := List.length_eq_zero_iff.1 (by rw [← hlen]; rfl)
      rw [this]
      exact ⟨a, cap, rfl, fun k x hx => by simp at hx⟩
    | sl _ st b o cap vals hst hne hcap hl hc hr =>
      rw [hlen]
      refine ⟨_, cap, rfl, fun k x hx => ⟨b, o, rfl, ?_⟩⟩
      rw [List.getElem?_map, Option.map_eq_some_iff] at hx
      obtain ⟨y, hy, rfl⟩ := hx
      have hek : es[k]? = some (eP y) := by rw [← hes]; exact en_at eP hy
      have hst4 : st = 4 := by rw [← hl _ (List.mem_of_getElem? hek)]; rfl
      subst hst4
      have hat : ∀ j z, (eP y)[j]? = some z → at2 es k j = some z := fun j z hz => by simp [at2, hek, hz]
      have key : ∀ (j : Nat) (z : Int), (eP y)[j]? = some (.s (.int .i64 z)) → w.cell? ⟨b, o + k * 4 + j, none⟩ = some (.int .i64 z) ∧ b < w.heap.size := fun j z hz => by
        obtain ⟨g1, g2⟩ := hc k j _ (hat j _ hz)
        have g3 := hr k j _ (hat j _ hz)
        generalize vals k j = q at g1 g3
        cases g3 with
        | s _ _ => exact ⟨g1, hH.imm b _ g2⟩
      exact ⟨(key 0 _ rfl).2, (key 0 _ rfl).1, (key 1 _ rfl).1, (key 2 _ rfl).1, (key 3 _ rfl).1⟩
  have hkit := planText_kit jB (p.parts.map kOf) p.opn p.first ad cap w (by rw [List.length_map]; exact hp.len) jB_le hcell
    (fun x hx W g hb hg => by
      obtain ⟨y, hy, rfl⟩ := List.mem_map.1 hx
      have e := jB_eq (s := wSeal) (hJ4 y hy) (Nat.le_of_ble_eq_true rfl) (by simp)
      have hk := joined_kit wSeal [y.num, y.first, y.next, y.size] (hJ4 y hy) (Nat.le_of_ble_eq_true rfl) (by simp) (by simp) W g hg imm (hH.glob.keep (keep_below hb hH.imm)) (fun b o h => Nat.lt_of_lt_of_le (hH.imm b o h) hb.size)
      rw [← e] at hk
      exact hk)
    (fun W g hb hg => by
      have e := jB_eq (s := wOpen) hJ2 (Nat.le_of_ble_eq_true rfl) (by simp)
      have hk := joined_kit wOpen [p.opn, p.first] hJ2 (Nat.le_of_ble_eq_true rfl) (by simp) (by simp) W g hg imm (hH.glob.keep (keep_below hb hH.imm)) (fun b o h => Nat.lt_of_lt_of_le (hH.imm b o h) hb.size)
      rw [← e] at hk
      exact hk)
  have e2 : jB ⟨#[111, 112, 101, 110]⟩ [p.opn, p.first] = joinB wOpen [p.opn, p.first] := jB_eq hJ2 (Nat.le_of_ble_eq_true rfl) (by simp)
  rw [kText_jB hp.part, kEnd, e2] at hkit
  refine hkit.mono ?_
  rintro e w' ⟨rfl, hb⟩
  have hk := keep_below hb hH.imm
  exact ⟨_, tS (planT p), fun _ => none, imm, L, c, rfl, ⟨fun v => v, rfl, fun n q hn => by simp [renN] at hn⟩, .s _ rfl,
    ⟨fun n B hB => (by cases hB), fun n m g hn => absurd rfl hn, fun n g hn => absurd rfl hn, hH.glob.keep hk, fun b o h => Nat.lt_of_lt_of_le (hH.imm b o h) hb.size⟩,
    ⟨hb.os, hb.tape, hb.output, hb.size, fun b hlt _ => hb.block b hlt, hk, fun b o h => .inl h⟩, fun n g hn => absurd rfl hn,
    ⟨fun _ h => h, fun n ver ty cs _ hB => (by cases hB), fun n ver wr st ty es _ hB => (by cases hB), fun n ver wr st ty es g cur _ hB => (by cases hB), fun n ver wr st ty es op _ hB => (by cases hB), fun n ver wr st ty es op g cur _ hB => (by cases hB)⟩⟩
end Go.V
set_option linter.unusedSimpArgs false
set_option maxRecDepth 20000
namespace Go.V
open Go.Proofs
theorem ba_assoc (a b c : ByteArray) : a ++ b ++ c = a ++ (b ++ c) := by
  apply ByteArray.ext
  simp [Array.append_assoc]
/-- What an ok plan's parts are. -/
structure LPok (x : LP) : Prop where
  num : 1 ≤ x.num ∧ x.num ≤ 999999
  first : 1 ≤ x.first ∧ x.first ≤ 1000000
  next : x.first ≤ x.next ∧ x.next ≤ 1000000
  size : 0 ≤ x.size ∧ x.size ≤ 20000
theorem plGo_ok : ∀ (xs : List LP) (seen : List Int) (nx f : Int), plGo seen nx xs = some f → 1 ≤ nx ∧ nx ≤ 1000000 → (∀ x ∈ xs, LPok x) ∧ 1 ≤ f ∧ f ≤ 1000000
  | [], _, nx, f, h, hn => by
    rw [plGo] at h; cases h; exact ⟨fun x hx => (by cases hx), hn⟩
  | x :: xs, seen, nx, f, h, hn => by
    rw [plGo] at h
    split at h
    · rename_i ho
      obtain ⟨h1, h2, h3, h4, h5, h6⟩ := ho
      obtain ⟨g1, g2⟩ := plGo_ok xs _ _ f h ⟨by omega, h5⟩
      refine ⟨fun y hy => ?_, g2⟩
      rcases List.mem_cons.1 hy with rfl | hy
      · exact ⟨h1, by omega, ⟨h4, h5⟩, h6⟩
      · exact g1 y hy
    · cases h
theorem planOk_ok {p : Pl} (h : planOk p = true) : p.parts.length ≤ 40 ∧ (∀ x ∈ p.parts, LPok x) ∧ (1 ≤ p.opn ∧ p.opn ≤ 999999) ∧ 1 ≤ p.first ∧ p.first ≤ 1000000 := by
  obtain ⟨h1, h2, h3⟩ := (planOk_iff p).1 h
  obtain ⟨h4, h5⟩ := plGo_ok _ _ _ _ h3 ⟨by omega, by omega⟩
  exact ⟨h1, h4, h2, h5⟩
theorem planOk_pl {p : Pl} (h : planOk p = true) : okPl p := by
  obtain ⟨h1, h2, h3, h4⟩ := planOk_ok h
  refine ⟨by omega, fun x hx => ?_, ⟨by omega, by omega⟩, ⟨by omega, by omega⟩⟩
  obtain ⟨g1, g2, g3, g4⟩ := h2 x hx
  exact ⟨⟨by omega, by omega⟩, ⟨by omega, by omega⟩, ⟨by omega, by omega⟩, ⟨by omega, by omega⟩⟩
theorem decI (n : Int) (h : 0 ≤ n ∧ n ≤ 1000000) : ACallsF Tryz.prog 55 [.i n] [] (tS (dc n)) := by
  obtain ⟨k, rfl⟩ : ∃ k : Nat, n = k := ⟨n.toNat, (Int.toNat_of_nonneg h.1).symm⟩
  exact dec_ok 6 k (by omega) (by omega)
theorem dc_le7 (n : Int) (h : 0 ≤ n ∧ n ≤ 1000000) : (dc n).size ≤ 7 := by
  obtain ⟨k, rfl⟩ : ∃ k : Nat, n = k := ⟨n.toNat, (Int.toNat_of_nonneg h.1).symm⟩
  have hn : ¬ (k : Int) < 0 := by omega
  rw [dc, ofL_size, Lib.itoa, if_neg hn, Int.toNat_natCast]
  exact dd_len 6 k (by omega)
/-- What LogPlanWrite makes. -/
def planW (p : Pl) : ByteArray := if planOk p = true then planT p else ⟨#[]⟩
def ok158 := okF.gu (P := Tryz.prog) tab Tryz.func158 Tryz.ntmps158 (by conv => lhs; cbv) (by kernel_rfl)
theorem planWI_ok (p : Pl) (hl : p.parts.length ≤ 1000000000000) : ACallsF Tryz.prog 158 [tPl p] [] (tS (planW p)) := by
  refine ACallsF.intro ok158 follows fun X c0 => ?_
  simp only [go_sem]
  refine callC (planOkI_ok p hl) rfl rfl rfl rfl ?_
  cases h : planOk p with
  | false =>
    have e : planW p = ⟨#[]⟩ := if_neg (by rw [h]; decide)
    simp only [go_sem, e]
  | true =>
    have e : planW p = planT p := if_pos h
    simp only [go_sem]
    refine callC (planText_ok p (planOk_pl h)) rfl rfl rfl rfl ?_
    simp only [go_sem, e]
theorem lineB_eq (x : LP) : lineB x = (⟨#[115, 101, 97, 108, 32]⟩ : ByteArray) ++ dc x.num ++ ⟨#[32]⟩ ++ dc x.first ++ ⟨#[32]⟩ ++ dc x.next ++ ⟨#[32]⟩ ++ dc x.size ++ ⟨#[10]⟩ := by
  have e : (⟨#[115, 101, 97, 108, 32]⟩ : ByteArray) = wSeal ++ ⟨#[32]⟩ := by decide
  rw [e, lineB]
  simp only [joinB, ba_assoc]
theorem endB_eq (p : Pl) : endB p = (⟨#[111, 112, 101, 110, 32]⟩ : ByteArray) ++ dc p.opn ++ ⟨#[32]⟩ ++ dc p.first ++ ⟨#[10, 101, 110, 100, 10]⟩ := by
  have e : (⟨#[111, 112, 101, 110, 32]⟩ : ByteArray) = wOpen ++ ⟨#[32]⟩ := by decide
  rw [e, endB]
  simp only [joinB, ba_assoc]
theorem data_ofL (b : ByteArray) : ofL b.data.toList = b := ofL_data b
theorem planT_step (xs : List LP) (x : LP) : ofL (linesL (xs ++ [x])) = ofL (linesL xs) ++ lineB x := by
  rw [linesL, List.flatMap_append, ofL_app]
  congr 1
  simp only [List.flatMap_cons, List.flatMap_nil, List.append_nil]
  exact ofL_data _
theorem planT_end (p : Pl) : planT p = ofL (linesL p.parts) ++ endB p := by rw [planT, ofL_app, data_ofL]
theorem sz_seal : (⟨#[115, 101, 97, 108, 32]⟩ : ByteArray).size = 5 := rfl
theorem sz_sp : (⟨#[32]⟩ : ByteArray).size = 1 := rfl
theorem sz_nl : (⟨#[10]⟩ : ByteArray).size = 1 := rfl
theorem sz_open : (⟨#[111, 112, 101, 110, 32]⟩ : ByteArray).size = 5 := rfl
theorem sz_end : (⟨#[10, 101, 110, 100, 10]⟩ : ByteArray).size = 5 := rfl
def ok125 := okF.gu (P := Tryz.prog) tab Tryz.func125 Tryz.ntmps125 (by conv => lhs; cbv) (by kernel_rfl)
def inv125 (p : Pl) (i : Nat) (σ : St) : Prop := (ofL (linesL (p.parts.take i))).size ≤ 50 * i ∧ (∃ u, σ.t 1 = .c (.ptr 1 u 0) ∧ σ.H 1 = some (.var u 38 (cPl p))) ∧ σ.t 3 = tS (ofL (linesL (p.parts.take i))) ∧ σ.t 4 = .i i
set_option maxHeartbeats 1000000 in
theorem planWS_ok (p : Pl) (hl : p.parts.length ≤ 9000000000000000000) : ACallsF Tryz.prog 125 [tPl p] [] (tS (planW p)) := by
  refine ACallsF.intro ok125 follows fun X c0 => ?_
  simp only [go_sem]
  refine callC (planOkS_ok p hl) rfl rfl rfl rfl ?_
  cases h : planOk p with
  | false =>
    have e : planW p = ⟨#[]⟩ := if_neg (by rw [h]; decide)
    simp only [go_sem, e]
  | true =>
  have e : planW p = planT p := if_pos h
  obtain ⟨hl40, hparts, hopn, hfirst⟩ := planOk_ok h
  rw [e, planT_end, endB_eq]
  simp only [go_sem]
  refine AW.upto p.parts.length (inv125 p) ⟨Nat.zero_le _, ⟨_, rfl, rfl⟩, rfl, rfl⟩ fun i t H c hi h => ?_
  obtain ⟨ho, ⟨u, e1, eH⟩, e3, e4⟩ := h
  simp only [T.c, T.i, T.s] at e1 eH e3 e4
  by_cases k1 : (i : Int) < p.parts.length
  · obtain ⟨x, hx⟩ : ∃ x, p.parts[i]? = some x := ⟨_, List.getElem?_eq_getElem (by omega)⟩
    have ex := en_at eP hx
    obtain ⟨x1, x2, x3, x4⟩ := hparts x (List.mem_of_getElem? hx)
    have gz : (0 : Int) ≤ i := by omega
    have w2 : IntKind.i64.wrap ((i : Int) + 1) = ((i + 1 : Nat) : Int) := wrap64 (x := (i : Int) + 1) ⟨by omega, by omega⟩
    have C1 := decI x.num ⟨by omega, by omega⟩
    have C2 := decI x.first ⟨by omega, by omega⟩
    have C3 := decI x.next ⟨by omega, by omega⟩
    have C4 := decI x.size ⟨by omega, by omega⟩
    have z1 := dc_le7 x.num ⟨by omega, by omega⟩
    have z2 := dc_le7 x.first ⟨by omega, by omega⟩
    have z3 := dc_le7 x.next ⟨by omega, by omega⟩
    have z4 := dc_le7 x.size ⟨by omega, by omega⟩
    have hs := planT_step (p.parts.take i) x
    rw [← take_snoc hx, lineB_eq] at hs
    generalize hout : ofL (linesL (p.parts.take i)) = o at ho e3 hs
    simp only [← ba_assoc] at hs
    generalize hd1 : dc x.num = s1 at *
    generalize hd2 : dc x.first = s2 at *
    generalize hd3 : dc x.next = s3 at *
    generalize hd4 : dc x.size = s4 at *
    have q0 : fits o (⟨#[115, 101, 97, 108, 32]⟩ : ByteArray) := by simp only [fits, ByteArray.size_append, sz_seal, sz_sp, sz_nl]; omega
    have q1 : fits (o ++ (⟨#[115, 101, 97, 108, 32]⟩ : ByteArray)) s1 := by simp only [fits, ByteArray.size_append, sz_seal, sz_sp, sz_nl]; omega
    have q2 : fits (o ++ (⟨#[115, 101, 97, 108, 32]⟩ : ByteArray) ++ s1) (⟨#[32]⟩ : ByteArray) := by simp only [fits, ByteArray.size_append, sz_seal, sz_sp, sz_nl]; omega
    have q3 : fits (o ++ (⟨#[115, 101, 97, 108, 32]⟩ : ByteArray) ++ s1 ++ (⟨#[32]⟩ : ByteArray)) s2 := by simp only [fits, ByteArray.size_append, sz_seal, sz_sp, sz_nl]; omega
    have q4 : fits (o ++ (⟨#[115, 101, 97, 108, 32]⟩ : ByteArray) ++ s1 ++ (⟨#[32]⟩ : ByteArray) ++ s2) (⟨#[32]⟩ : ByteArray) := by simp only [fits, ByteArray.size_append, sz_seal, sz_sp, sz_nl]; omega
    have q5 : fits (o ++ (⟨#[115, 101, 97, 108, 32]⟩ : ByteArray) ++ s1 ++ (⟨#[32]⟩ : ByteArray) ++ s2 ++ (⟨#[32]⟩ : ByteArray)) s3 := by simp only [fits, ByteArray.size_append, sz_seal, sz_sp, sz_nl]; omega
    have q6 : fits (o ++ (⟨#[115, 101, 97, 108, 32]⟩ : ByteArray) ++ s1 ++ (⟨#[32]⟩ : ByteArray) ++ s2 ++ (⟨#[32]⟩ : ByteArray) ++ s3) (⟨#[32]⟩ : ByteArray) := by simp only [fits, ByteArray.size_append, sz_seal, sz_sp, sz_nl]; omega
    have q7 : fits (o ++ (⟨#[115, 101, 97, 108, 32]⟩ : ByteArray) ++ s1 ++ (⟨#[32]⟩ : ByteArray) ++ s2 ++ (⟨#[32]⟩ : ByteArray) ++ s3 ++ (⟨#[32]⟩ : ByteArray)) s4 := by simp only [fits, ByteArray.size_append, sz_seal, sz_sp, sz_nl]; omega
    have q8 : fits (o ++ (⟨#[115, 101, 97, 108, 32]⟩ : ByteArray) ++ s1 ++ (⟨#[32]⟩ : ByteArray) ++ s2 ++ (⟨#[32]⟩ : ByteArray) ++ s3 ++ (⟨#[32]⟩ : ByteArray) ++ s4) (⟨#[10]⟩ : ByteArray) := by simp only [fits, ByteArray.size_append, sz_seal, sz_sp, sz_nl]; omega
    simp only [go_sem, e1, eH, e3, e4, k1, ex, gz, eP, sStr, q0]
    refine callC C1 rfl rfl rfl rfl ?_
    simp only [go_sem, e1, eH, e3, e4, eP, sStr, q1, q2]
    refine callC C2 rfl rfl rfl rfl ?_
    simp only [go_sem, e1, eH, e3, e4, eP, sStr, q3, q4]
    refine callC C3 rfl rfl rfl rfl ?_
    simp only [go_sem, e1, eH, e3, e4, eP, sStr, q5, q6]
    refine callC C4 rfl rfl rfl rfl ?_
    simp only [go_sem, e1, eH, e3, e4, eP, sStr, q7, q8, w2]
    refine ⟨by omega, ?_, ⟨u, e1, eH⟩, ?_, rfl⟩
    · rw [hs]; simp only [ByteArray.size_append, sz_seal, sz_sp, sz_nl]; omega
    · rw [hs]; rfl
  · have hi2 : i = p.parts.length := by omega
    subst hi2
    rw [List.take_length] at ho e3
    have C1 := decI p.opn ⟨by omega, by omega⟩
    have C2 := decI p.first ⟨by omega, by omega⟩
    have z1 := dc_le7 p.opn ⟨by omega, by omega⟩
    have z2 := dc_le7 p.first ⟨by omega, by omega⟩
    simp only [← ba_assoc]
    generalize hout : ofL (linesL p.parts) = o at ho e3 ⊢
    generalize hd1 : dc p.opn = s1 at *
    generalize hd2 : dc p.first = s2 at *
    have q0 : fits o (⟨#[111, 112, 101, 110, 32]⟩ : ByteArray) := by simp only [fits, ByteArray.size_append, sz_open, sz_sp, sz_end]; omega
    have q1 : fits (o ++ (⟨#[111, 112, 101, 110, 32]⟩ : ByteArray)) s1 := by simp only [fits, ByteArray.size_append, sz_open, sz_sp, sz_end]; omega
    have q2 : fits (o ++ (⟨#[111, 112, 101, 110, 32]⟩ : ByteArray) ++ s1) (⟨#[32]⟩ : ByteArray) := by simp only [fits, ByteArray.size_append, sz_open, sz_sp, sz_end]; omega
    have q3 : fits (o ++ (⟨#[111, 112, 101, 110, 32]⟩ : ByteArray) ++ s1 ++ (⟨#[32]⟩ : ByteArray)) s2 := by simp only [fits, ByteArray.size_append, sz_open, sz_sp, sz_end]; omega
    have q4 : fits (o ++ (⟨#[111, 112, 101, 110, 32]⟩ : ByteArray) ++ s1 ++ (⟨#[32]⟩ : ByteArray) ++ s2) (⟨#[10, 101, 110, 100, 10]⟩ : ByteArray) := by simp only [fits, ByteArray.size_append, sz_open, sz_sp, sz_end]; omega
    simp only [go_sem, e1, eH, e3, e4, k1, sStr, q0]
    refine callC C1 rfl rfl rfl rfl ?_
    simp only [go_sem, e1, eH, e3, e4, sStr, q1, q2]
    refine callC C2 rfl rfl rfl rfl ?_
    simp only [go_sem, e1, eH, e3, e4, sStr, q3, q4]
end Go.V
set_option linter.unusedSimpArgs false
set_option maxRecDepth 20000
namespace Go.V
open Go.Proofs Go.RowKit
/-- The pieces of a text between bytes. -/
def splitL (s : ByteArray) (c : UInt8) : List ByteArray := Lib.splitB ⟨#[c]⟩ 0 (Lib.countB s ⟨#[c]⟩) s
theorem splitL_len (s : ByteArray) (c : UInt8) : (splitL s c).length = Lib.countB s ⟨#[c]⟩ + 1 := Lib.splitB_all ⟨#[c]⟩ (Nat.le_refl 1) 0 _ s rfl
theorem splitL_le (s : ByteArray) (c : UInt8) : (splitL s c).length ≤ s.size + 1 := by
  rw [splitL_len]
  have := Lib.countB_le ⟨#[c]⟩ (Nat.le_refl 1) s.size s (Nat.le_refl _)
  omega
theorem splitB_size (sep : ByteArray) : ∀ (k : Nat) (s x : ByteArray), x ∈ Lib.splitB sep 0 k s → x.size ≤ s.size
  | 0, s, x, h => by rw [Lib.splitB_zero] at h; rw [List.mem_singleton.1 h]; exact Nat.le_refl _
  | k + 1, s, x, h => by
    unfold Lib.splitB at h
    split at h
    · rw [List.mem_singleton.1 h]; exact Nat.le_refl _
    · rcases List.mem_cons.1 h with rfl | h
      · rw [ByteArray.size_extract]; omega
      · have := splitB_size sep k _ x h
        rw [ByteArray.size_extract] at this; omega
theorem splitL_size (s : ByteArray) (c : UInt8) {x : ByteArray} (h : x ∈ splitL s c) : x.size ≤ s.size := splitB_size _ _ _ _ h
theorem split_ok (s : ByteArray) (c : UInt8) (hs : s.size ≤ 1000000000) : ACallsF Tryz.prog 156 [tS s, tS ⟨#[c]⟩] [] (tL (en eS (splitL s c))) := by
  refine ⟨by kernel_rfl, fun w imm L cc vs hH hT => ?_⟩
  have hvs := lift_vs (args := [.string s, .string ⟨#[c]⟩]) hT
  subst hvs
  obtain ⟨m, hm⟩ := int3 hH.glob
  refine (Any.strings_Split laysSplit (by kernel_rfl) s ⟨#[c]⟩ m w (by omega) hm (Nat.le_refl 1)).mono ?_
  rintro e w' ⟨rfl, rfl⟩
  have hlen := splitL_len s c
  have hb : Below w.heap.size w (w.alloc (.cells ((splitL s c).map Value.string).toArray 9)) := (Below.refl _ w).alloc (Nat.le_refl _) _
  have hk := keep_below hb hH.imm
  have hk2 : ∀ b o, imm b o → (imm b o ∨ b = w.heap.size) ∧ (w.alloc (.cells ((splitL s c).map Value.string).toArray 9)).cell? ⟨b, o, none⟩ = w.cell? ⟨b, o, none⟩ := fun b o h => ⟨.inl h, (hk b o h).2⟩
  have hnew := heap_alloc_new w (.cells ((splitL s c).map Value.string).toArray 9)
  have hsz : ∀ o, (w.alloc o).heap.size = w.heap.size + 1 := fun o => Array.size_push ..
  refine ⟨_, tL (en eS (splitL s c)), fun _ => none, fun b o => imm b o ∨ b = w.heap.size, L, cc, rfl, ⟨fun v => v, rfl, fun n q hn => by simp [renN] at hn⟩, ?_,
    ⟨fun n B hB => (by cases hB), fun n m g hn => absurd rfl hn, fun n g hn => absurd rfl hn, hH.glob.keep hk2, fun b o h => ?_⟩,
    ⟨hb.os, hb.tape, hb.output, hb.size, fun b hlt _ => hb.block b hlt, hk2, fun b o h => ?_⟩, fun n g hn => absurd rfl hn,
    ⟨fun _ h => h, fun n ver ty cs _ hB => (by cases hB), fun n ver wr st ty es _ hB => (by cases hB), fun n ver wr st ty es g cur _ hB => (by cases hB), fun n ver wr st ty es op _ hB => (by cases hB), fun n ver wr st ty es op g cur _ hB => (by cases hB)⟩⟩
  · show VRep _ _ (.slice (some ⟨w.heap.size, 0, none⟩) (Lib.countB s ⟨#[c]⟩ + 1) _) (.sl (en eS (splitL s c)))
    have hl2 : Lib.countB s ⟨#[c]⟩ + 1 = (en eS (splitL s c)).length := by rw [en_len, hlen]
    rw [hl2]
    refine .sl (en eS (splitL s c)) 1 w.heap.size 0 _ (fun i _ => ((splitL s c)[i]?).elim (.bool false) Value.string) Nat.one_pos (fun h => by rw [h] at hl2; simp at hl2) (Nat.le_refl _) (fun e he => (by
        simp only [en, List.mem_map] at he; obtain ⟨n, _, rfl⟩ := he; rfl)) (fun i j x hx => ?_) fun i j x hx => ?_
    all_goals
      unfold at2 at hx
      cases hni : (splitL s c)[i]? with
      | none => rw [show (en eS (splitL s c))[i]? = none from by simp [en, hni]] at hx; simp at hx
      | some n =>
        rw [en_at eS hni] at hx
        cases j with
        | succ j => simp [eS] at hx
        | zero =>
          simp [eS] at hx
          subst hx
          first
            | exact .s _ rfl
            | exact ⟨(Lib.cell_of_heap hnew (0 + i * 1 + 0)).trans (by simp [hni]), .inr rfl⟩
  · rw [hsz]
    rcases h with h | rfl
    · have := hH.imm b o h; omega
    · omega
  · rcases h with h | rfl
    · exact .inl h
    · exact .inr (.inl (Nat.le_refl _))
theorem rnN_in (s : ByteArray) : i64 (rnN s) := by
  unfold rnN
  cases h : Lib.atoiAll s.data.toList with
  | ok v => exact atoi_in h
  | range =>
    simp only [Lib.atoiSat]
    split <;> exact ⟨by omega, by omega⟩
  | _ => exact ⟨by simp only; omega, by simp only; omega⟩
/-- The numbers that texts are, if all of them are. -/
def rdNums : List ByteArray → Option (List Int)
  | [] => some []
  | s :: l => if rnB s = true then (rdNums l).map (rnN s :: ·) else none
theorem rdNums_len : ∀ {l : List ByteArray} {ns : List Int}, rdNums l = some ns → ns.length = l.length
  | [], ns, h => by rw [rdNums] at h; cases h; rfl
  | s :: l, ns, h => by
    rw [rdNums] at h
    split at h
    · rw [Option.map_eq_some_iff] at h
      obtain ⟨ms, h1, rfl⟩ := h
      rw [List.length_cons, List.length_cons, rdNums_len h1]
    · cases h
theorem rdNums_in : ∀ {l : List ByteArray} {ns : List Int}, rdNums l = some ns → ∀ n ∈ ns, i64 n
  | [], ns, h => by rw [rdNums] at h; cases h; intro n hn; cases hn
  | s :: l, ns, h => by
    rw [rdNums] at h
    split at h
    · rw [Option.map_eq_some_iff] at h
      obtain ⟨ms, h1, rfl⟩ := h
      intro n hn
      rcases List.mem_cons.1 hn with rfl | hn
      · exact rnN_in s
      · exact rdNums_in h1 n hn
    · cases h
/-- The numbers behind the word of a line. -/
def nbB (line word : ByteArray) (many : Nat) : Option (List Int) := match splitL line 32 with
  | [] => none
  | w :: ws => if w = word ∧ ws.length = many then rdNums ws else none
theorem nbB_len {line word : ByteArray} {many : Nat} {ns : List Int} (h : nbB line word many = some ns) : ns.length = many ∧ ∀ n ∈ ns, i64 n := by
  unfold nbB at h
  split at h
  · cases h
  · split at h
    · rename_i hc
      exact ⟨(rdNums_len h).trans hc.2, rdNums_in h⟩
    · cases h
abbrev tNB (o : Option (List Int)) : T := .tup [.one (.v (.sl (en eI (o.getD [])))), .one (.v (.s (.bool o.isSome)))]
def ok157 := okF.gu (P := Tryz.prog) tab Tryz.func157 Tryz.ntmps157 (by conv => lhs; cbv) (by kernel_rfl)
def inv157 (ws : List ByteArray) (i : Nat) (σ : St) : Prop := σ.t 30 = tL (en eS ws) ∧ σ.t 31 = .i ws.length ∧ σ.t 32 = .i i ∧ ∃ ns v, ns.length = i ∧ rdNums ws = (rdNums (ws.drop i)).map (ns ++ ·) ∧ σ.t 9 = .c (.own 16 v i) ∧ σ.H 16 = some (.arr v true 1 3 (en eI ns))
set_option maxHeartbeats 1000000 in
theorem nb_ok (line word : ByteArray) (many : Nat) (hm : many ≤ 1000) (hs : line.size ≤ 1000000000) : ACallsF Tryz.prog 157 [tS line, tS word, .i many] [] (tNB (nbB line word many)) := by
  have hle := splitL_le line 32
  refine ACallsF.intro ok157 follows fun X c0 => ?_
  simp only [go_sem]
  refine callC (split_ok line 32 hs) rfl rfl rfl rfl ?_
  have hsz := fun x hx => splitL_size line 32 (x := x) hx
  unfold nbB
  cases hsp : splitL line 32 with
  | nil => have := splitL_len line 32; rw [hsp] at this; simp at this
  | cons w0 ws =>
    rw [hsp] at hle hsz
    rw [List.length_cons] at hle
    simp only
    generalize hR : (if w0 = word ∧ ws.length = many then rdNums ws else none) = R
    have z0 : (0 : Int) ≤ 0 := Int.le_refl _
    have e0 : (en eS (w0 :: ws))[0]? = some (eS w0) := rfl
    have w1 : IntKind.i64.wrap ((many : Int) + 1) = ((many + 1 : Nat) : Int) := (wrap64 ⟨by omega, by omega⟩).trans (by omega)
    by_cases k1 : w0 = word
    rotate_left
    · have hn : ¬ (w0 = word ∧ ws.length = many) := fun h => k1 h.1
      rw [if_neg hn] at hR
      subst hR
      simp only [go_sem, z0, Int.toNat_zero, e0, eS, sStr, str_beq, k1, decide_false, Option.getD_none, Option.isSome_none]
    subst k1
    by_cases k2 : ws.length = many
    rotate_left
    · have hn : ¬ (w0 = w0 ∧ ws.length = many) := fun h => k2 h.2
      have k3 : (((ws.length + 1 : Nat) : Int) != ((many + 1 : Nat) : Int)) = true := by rw [bne_iff_ne]; omega
      rw [if_neg hn] at hR
      subst hR
      simp only [go_sem, z0, Int.toNat_zero, e0, eS, sStr, str_beq, decide_true, w1, k3, Option.getD_none, Option.isSome_none]
    have k3 : (((ws.length + 1 : Nat) : Int) != ((many + 1 : Nat) : Int)) = false := by rw [k2]; simp
    have k4 : (1 : Int) ≤ ((ws.length + 1 : Nat) : Int) := by omega
    rw [if_pos (And.intro rfl k2)] at hR
    have hdr : List.take (ws.length + 1 - 1) (List.drop 1 (en eS (w0 :: ws))) = en eS ws := by
      show List.take (ws.length + 1 - 1) (en eS ws) = _
      exact List.take_of_length_le (by rw [en_len]; omega)
    simp only [go_sem, z0, Int.toNat_zero, e0, eS, sStr, str_beq, decide_true, w1, k3, lohi, KI, k4, Int.le_refl, hdr]
    refine AW.upto ws.length (inv157 ws) ⟨rfl, rfl, rfl, [], _, rfl, by rw [List.drop_zero]; cases rdNums ws <;> rfl, rfl, rfl⟩ fun i t H c hi h => ?_
    obtain ⟨e30, e31, e32, ns, v, hnl, hrd, e9, eH⟩ := h
    simp only [T.c, T.i, tL] at e30 e31 e32 e9 eH
    by_cases hlt : i < ws.length
    · obtain ⟨x, hx⟩ : ∃ x, ws[i]? = some x := ⟨_, List.getElem?_eq_getElem hlt⟩
      have ex := en_at eS hx
      have gx : (0 : Int) ≤ i := by omega
      have k5 : (i : Int) < ws.length := by omega
      have gw : IntKind.i64.wrap ((i : Int) + 1) = ((i + 1 : Nat) : Int) := wrap64 (x := (i : Int) + 1) ⟨by omega, by omega⟩
      have hxs := hsz x (List.mem_cons_of_mem _ (List.mem_of_getElem? hx))
      rw [drop_at hx, rdNums] at hrd
      simp only [go_sem, e30, e31, e32, e9, k5, gx, ex, eS]
      refine callC (readNum_ok x (by omega)) rfl rfl rfl rfl ?_
      cases hb : rnB x with
      | false =>
        rw [hb, if_neg (by decide), Option.map_none] at hrd
        have hR2 : R = none := hR.symm.trans hrd
        subst hR2
        simp only [go_sem, e9, eH, Option.getD_none, Option.isSome_none]
      | true =>
        rw [hb, if_pos rfl] at hrd
        have ht : List.take i (en eI ns) = en eI ns := List.take_of_length_le (by rw [en_len, hnl]; exact Nat.le_refl _)
        have q1 : (i + 1) * 8 ≤ 140737488355328 := by omega
        have q2 : i + 1 ≤ 9223372036854775807 := by omega
        simp only [go_sem, e30, e31, e32, e9, eH, hnl, ht, q1, q2, gw]
        have heq : en eI (ns ++ [rnN x]) = en eI ns ++ [[.s (.int .i64 (rnN x))]] := by simp only [en, List.map_append, List.map_cons, List.map_nil]; rfl
        refine ⟨hlt, e30, e31, rfl, ns ++ [rnN x], _, by rw [List.length_append, hnl]; rfl, ?_, rfl, congrArg (fun q => some (Blk.arr _ true 1 3 q)) heq.symm⟩
        rw [hrd, Option.map_map]
        congr 1
        funext l
        simp
    · have hi2 : i = ws.length := by omega
      subst hi2
      have k5 : ¬ (ws.length : Int) < ws.length := by omega
      rw [List.drop_length, rdNums, Option.map_some, List.append_nil] at hrd
      have hR2 : R = some ns := hR.symm.trans hrd
      subst hR2
      have ht : List.take ws.length (en eI ns) = en eI ns := List.take_of_length_le (by rw [en_len, hnl]; exact Nat.le_refl _)
      simp only [go_sem, e30, e31, e32, e9, eH, k5, hnl, ht, Option.getD_some, Option.isSome_some]
end Go.V
set_option linter.unusedSimpArgs false
set_option maxRecDepth 20000
namespace Go.V
open Go.Proofs
def zPl : Pl := ⟨[], 0, 0⟩
/-- What a line adds to a plan. -/
def rdLine (p : Pl) (line : ByteArray) : Pl := match nbB line wSeal 4 with
  | some [a, b, c, d] => ⟨p.parts ++ [⟨a, b, c, d⟩], p.opn, p.first⟩
  | _ => match nbB line wOpen 2 with
    | some [a, b] => ⟨p.parts, a, b⟩
    | _ => p
theorem rdLine_4 {p : Pl} {line : ByteArray} {a b c d : Int} (h : nbB line wSeal 4 = some [a, b, c, d]) : rdLine p line = ⟨p.parts ++ [⟨a, b, c, d⟩], p.opn, p.first⟩ := by rw [rdLine, h]
theorem rdLine_2 {p : Pl} {line : ByteArray} {a b : Int} (h4 : nbB line wSeal 4 = none) (h : nbB line wOpen 2 = some [a, b]) : rdLine p line = ⟨p.parts, a, b⟩ := by rw [rdLine, h4, h]
theorem rdLine_0 {p : Pl} {line : ByteArray} (h4 : nbB line wSeal 4 = none) (h : nbB line wOpen 2 = none) : rdLine p line = p := by rw [rdLine, h4, h]
/-- The plan that lines say. -/
def pI (text : ByteArray) : Pl := (splitL text 10).foldl rdLine zPl
def rdI (text : ByteArray) : Pl × Bool := if planW (pI text) = text ∧ text ≠ ⟨#[]⟩ then (pI text, true) else (zPl, false)
abbrev tPB (r : Pl × Bool) : T := .tup [.agg (cPl r.1), .one (.v (.s (.bool r.2)))]
theorem foldl_take {α β : Type} (f : β → α → β) (z : β) {l : List α} {i : Nat} {x : α} (h : l[i]? = some x) : (l.take (i + 1)).foldl f z = f ((l.take i).foldl f z) x := by
  rw [take_snoc h, List.foldl_append]; rfl
theorem list4 {l : List Int} (h : l.length = 4) : ∃ a b c d, l = [a, b, c, d] := by
  match l, h with
  | [a, b, c, d], _ => exact ⟨a, b, c, d, rfl⟩
theorem list2 {l : List Int} (h : l.length = 2) : ∃ a b, l = [a, b] := by
  match l, h with
  | [a, b], _ => exact ⟨a, b, rfl⟩
theorem lendPlan {H : HMap} {m v n : Nat} {w1 : Bool} {p : Pl} (h1 : H m = some (.arr v w1 4 100 (en eP p.parts))) (e1 : n = p.parts.length) :
    lendT H (tPl p) (.pt (.agg [.own m v n, .v (.s (.int .i64 p.opn)), .v (.s (.int .i64 p.first))])) = some (tPl p, [(m, .arr v false 4 100 (en eP p.parts))], [m]) := by
  subst e1
  simp only [lendT, lendCs, lendC, sealC, h1, en_len, en_take, Nat.le_refl, and_self, if_true, Option.map_some, List.cons_append, List.nil_append, List.append_nil]
def ok139 := okF.gu (P := Tryz.prog) tab Tryz.func139 Tryz.ntmps139 (by conv => lhs; cbv) (by kernel_rfl)
def inv139 (text : ByteArray) (ls : List ByteArray) (i : Nat) (σ : St) : Prop := σ.t 0 = tS text ∧ σ.t 13 = tL (en eS ls) ∧ σ.t 14 = .i ls.length ∧ σ.t 15 = .i i ∧ ((ls.take i).foldl rdLine zPl).parts.length ≤ i ∧
  (∃ u, σ.t 2 = .c (.ptr 2 u 0) ∧ σ.H 2 = some (.var u 38 [.nil0, .v (.s (.int .i64 0)), .v (.s (.int .i64 0))])) ∧
  ∃ u v, σ.t 4 = .c (.ptr 4 u 0) ∧ σ.H 4 = some (.var u 38 [.own 2041 v ((ls.take i).foldl rdLine zPl).parts.length, .v (.s (.int .i64 ((ls.take i).foldl rdLine zPl).opn)), .v (.s (.int .i64 ((ls.take i).foldl rdLine zPl).first))]) ∧ σ.H 2041 = some (.arr v true 4 100 (en eP ((ls.take i).foldl rdLine zPl).parts))
set_option maxHeartbeats 1000000 in
theorem rdI_ok (text : ByteArray) (hs : text.size ≤ 1000000) : ACallsF Tryz.prog 139 [tS text] [] (tPB (rdI text)) := by
  have hle := splitL_le text 10
  have hsz := fun x hx => splitL_size text 10 (x := x) hx
  refine ACallsF.intro ok139 follows fun X c0 => ?_
  simp only [go_sem]
  refine callC (split_ok text 10 (by omega)) rfl rfl rfl rfl ?_
  generalize hR : rdI text = R
  unfold rdI pI at hR
  generalize splitL text 10 = ls at *
  simp only [go_sem]
  refine AW.reify 4 0 2041 4 100 rfl rfl rfl (by decide) ?_
  refine AW.upto ls.length (inv139 text ls) ⟨rfl, rfl, rfl, rfl, Nat.le_refl _, ⟨_, rfl, rfl⟩, _, _, rfl, rfl, rfl⟩ fun i t H c hi h => ?_
  obtain ⟨e0, e13, e14, e15, hpl, ⟨u2, e2, eH2⟩, u4, v, e4, eH4, eH41⟩ := h
  simp only [T.c, T.i, T.s, tL] at e0 e13 e14 e15 e2 eH2 e4 eH4 eH41
  by_cases hlt : i < ls.length
  · obtain ⟨x, hx⟩ : ∃ x, ls[i]? = some x := ⟨_, List.getElem?_eq_getElem hlt⟩
    have ex := en_at eS hx
    have gx : (0 : Int) ≤ i := by omega
    have k5 : (i : Int) < ls.length := by omega
    have gw : IntKind.i64.wrap ((i : Int) + 1) = ((i + 1 : Nat) : Int) := wrap64 (x := (i : Int) + 1) ⟨by omega, by omega⟩
    have hxs := hsz x (List.mem_of_getElem? hx)
    have hf := foldl_take rdLine zPl hx
    generalize hq : (ls.take i).foldl rdLine zPl = q at *
    simp only [go_sem, e0, e13, e14, e15, k5, gx, ex, eS]
    refine callC (nb_ok x wSeal 4 (by omega) (by omega)) rfl rfl rfl rfl ?_
    have ht : List.take q.parts.length (en eP q.parts) = en eP q.parts := en_take eP q.parts
    cases h4 : nbB x wSeal 4 with
    | some ns =>
      obtain ⟨a, b, d, f, rfl⟩ := list4 (nbB_len h4).1
      rw [rdLine_4 h4] at hf
      have i0 : (en eI [a, b, d, f])[0]? = some (eI a) := rfl
      have i1 : (en eI [a, b, d, f])[1]? = some (eI b) := rfl
      have i2 : (en eI [a, b, d, f])[2]? = some (eI d) := rfl
      have i3 : (en eI [a, b, d, f])[3]? = some (eI f) := rfl
      have q1 : (q.parts.length + 1) * 32 ≤ 140737488355328 := by omega
      have q2 : q.parts.length + 1 ≤ 9223372036854775807 := by omega
      simp only [go_sem, Option.getD_some, Option.isSome_some, e4, eH4, eH41, KI, i0, i1, i2, i3, eI, ht, q1, q2, e15, gw]
      have heq : en eP (q.parts ++ [⟨a, b, d, f⟩]) = en eP q.parts ++ [eP ⟨a, b, d, f⟩] := en_snoc eP _ _
      refine ⟨hlt, e0, e13, e14, rfl, ?_, ⟨u2, e2, eH2⟩, u4, c + 1 + 3 + 7 + 1 + 16, e4, ?_, ?_⟩
      · rw [hf, List.length_append, List.length_singleton]; omega
      · rw [hf, List.length_append, List.length_singleton]; rfl
      · rw [hf, heq]; rfl
    | none =>
      simp only [go_sem, Option.getD_none, Option.isSome_none, e0, e13, e14, e15, e4, eH4]
      refine callC (nb_ok x wOpen 2 (by omega) (by omega)) rfl rfl rfl rfl ?_
      cases h2 : nbB x wOpen 2 with
      | some ns =>
        obtain ⟨a, b, rfl⟩ := list2 (nbB_len h2).1
        rw [rdLine_2 h4 h2] at hf
        have i0 : (en eI [a, b])[0]? = some (eI a) := rfl
        have i1 : (en eI [a, b])[1]? = some (eI b) := rfl
        simp only [go_sem, Option.getD_some, Option.isSome_some, e4, eH4, eH41, KI, i0, i1, eI, e15, gw]
        refine ⟨hlt, e0, e13, e14, rfl, ?_, ⟨u2, e2, eH2⟩, u4, v, e4, ?_, ?_⟩
        · rw [hf]; simp only; omega
        · rw [hf]; rfl
        · rw [hf]; exact eH41
      | none =>
        rw [rdLine_0 h4 h2] at hf
        simp only [go_sem, Option.getD_none, Option.isSome_none, e15, gw]
        refine ⟨hlt, e0, e13, e14, rfl, ?_, ⟨u2, e2, eH2⟩, u4, v, e4, ?_, ?_⟩
        · rw [hf]; omega
        · rw [hf]; exact eH4
        · rw [hf]; exact eH41
  · have hi2 : i = ls.length := by omega
    subst hi2
    have k5 : ¬ (ls.length : Int) < ls.length := by omega
    rw [List.take_length] at hpl eH4 eH41
    generalize ls.foldl rdLine zPl = q at *
    have ht : List.take q.parts.length (en eP q.parts) = en eP q.parts := en_take eP q.parts
    simp only [go_sem, e0, e13, e14, e15, k5, e4, eH4]
    refine callL (ws := [(2041, .arr v false 4 100 (en eP q.parts))]) (ns := [2041]) (planWI_ok q (by omega)) rfl ?_ rfl rfl ⟨?_, ?_⟩
    · simp only [List.map_cons, List.map_nil, ev, upd_same, lendTs, lendPlan eH41 rfl, List.append_nil]
    · simp only [go_sem, scalarT, scalarP, scalarC]
    by_cases hw : planW q = text
    · by_cases hz : text = ⟨#[]⟩
      · have hn : ¬ (planW q = text ∧ text ≠ ⟨#[]⟩) := fun h => h.2 hz
        rw [if_neg hn] at hR
        subst hR
        simp only [go_sem, scalarT, scalarP, scalarC, e0, sStr, str_beq, hw, hz, decide_true, e2, eH2]
        rfl
      · rw [if_pos ⟨hw, hz⟩] at hR
        subst hR
        simp only [go_sem, scalarT, scalarP, scalarC, e0, sStr, str_beq, hw, hz, decide_true, decide_false, e2, eH2, e4, eH4, eH41, ht]
    · have hn : ¬ (planW q = text ∧ text ≠ ⟨#[]⟩) := fun h => hw h.1
      rw [if_neg hn] at hR
      subst hR
      simp only [go_sem, scalarT, scalarP, scalarC, e0, sStr, str_beq, hw, decide_false, e2, eH2]
      rfl
end Go.V
set_option linter.unusedSimpArgs false
set_option maxRecDepth 20000
namespace Go.V
open Go.Proofs
def lSeal : ByteArray := ⟨#[115, 101, 97, 108, 32]⟩
def isSeal (text : ByteArray) (a : Nat) : Prop := a + 5 ≤ text.size ∧ text.extract a (a + 5) = lSeal
instance (text : ByteArray) (a : Nat) : Decidable (isSeal text a) := inferInstanceAs (Decidable (_ ∧ _))
def lpOf : List Int → LP
  | [a, b, c, d] => ⟨a, b, c, d⟩
  | _ => ⟨0, 0, 0, 0⟩
def slS (text : ByteArray) : Nat → List LP → Nat → List LP × Nat
  | 0, ps, a => (ps, a)
  | k + 1, ps, a => if isSeal text a then slS text k (ps ++ [lpOf (nus text (a + 5) 4).1]) (nus text (a + 5) 4).2 else (ps, a)
theorem slS_no {text : ByteArray} {a : Nat} (h : ¬ isSeal text a) : ∀ (k : Nat) (ps : List LP), slS text k ps a = (ps, a)
  | 0, _ => rfl
  | k + 1, ps => by rw [slS, if_neg h]
/-- The plan that a text says, if it is long enough. -/
def pS (text : ByteArray) : Option Pl := if (slS text 41 [] 0).2 + 5 ≤ text.size then match (nus text ((slS text 41 [] 0).2 + 5) 2).1 with
    | [a, b] => some ⟨(slS text 41 [] 0).1, a, b⟩
    | _ => none
  else none
def rdS (text : ByteArray) : Pl × Bool := match pS text with
  | some p => if planW p = text then (p, true) else (zPl, false)
  | none => (zPl, false)
theorem rdS_short {text : ByteArray} {ps : List LP} {a : Nat} (h : slS text 41 [] 0 = (ps, a)) (h2 : ¬ a + 5 ≤ text.size) : rdS text = (zPl, false) := by
  unfold rdS pS; rw [h]; simp only [if_neg h2]
theorem rdS_some {text : ByteArray} {ps : List LP} {a : Nat} {x y : Int} (h : slS text 41 [] 0 = (ps, a)) (h2 : a + 5 ≤ text.size) (hn : (nus text (a + 5) 2).1 = [x, y]) : rdS text = if planW ⟨ps, x, y⟩ = text then (⟨ps, x, y⟩, true) else (zPl, false) := by
  unfold rdS pS; rw [h]; simp only [if_pos h2, hn]
theorem lendPlan1 {H : HMap} {m v n : Nat} {w1 : Bool} {p : Pl} (h1 : H m = some (.arr v w1 4 100 (en eP p.parts))) (e1 : n = p.parts.length) :
    lendTs H [tPl p] [.pt (.agg [.own m v n, .v (.s (.int .i64 p.opn)), .v (.s (.int .i64 p.first))])] = some ([tPl p], [(m, .arr v false 4 100 (en eP p.parts))], [m]) := by
  simp only [lendTs, lendPlan h1 e1, List.append_nil]
def ok109 := okF.gu (P := Tryz.prog) tab Tryz.func109 Tryz.ntmps109 (by conv => lhs; cbv) (by kernel_rfl)
def inv109 (text : ByteArray) (i : Nat) (σ : St) : Prop := ∃ (ps : List LP) (a : Nat), ps.length = i ∧ a ≤ 37 * i ∧ slS text 41 [] 0 = slS text (41 - i) ps a ∧ σ.t 0 = tS text ∧ σ.t 5 = .i a ∧
  (∃ u, σ.t 2 = .c (.ptr 2 u 0) ∧ σ.H 2 = some (.var u 38 [.nil0, .v (.s (.int .i64 0)), .v (.s (.int .i64 0))])) ∧
  ∃ u v, σ.t 4 = .c (.ptr 4 u 0) ∧ σ.H 4 = some (.var u 38 [.own 2041 v ps.length, .v (.s (.int .i64 0)), .v (.s (.int .i64 0))]) ∧ σ.H 2041 = some (.arr v true 4 100 (en eP ps))
set_option maxHeartbeats 2000000 in
theorem rdS_ok (text : ByteArray) (hs : text.size ≤ 1000000) : ACallsF Tryz.prog 109 [tS text] [] (tPB (rdS text)) := by
  refine ACallsF.intro ok109 follows fun X c0 => ?_
  generalize hR : rdS text = R
  simp only [go_sem]
  refine AW.reify 4 0 2041 4 100 rfl rfl rfl (by decide) ?_
  refine AW.upto 41 (inv109 text) ⟨[], 0, rfl, Nat.le_refl _, rfl, rfl, rfl, ⟨_, rfl, rfl⟩, _, _, rfl, rfl, rfl⟩ fun i t H c hi h => ?_
  obtain ⟨ps, a, hpl, ha, hsl, e0, e5, ⟨u2, e2, eH2⟩, u4, v, e4, eH4, eH41⟩ := h
  simp only [T.c, T.i, T.s] at e0 e5 e2 eH2 e4 eH4 eH41
  have ht : List.take ps.length (en eP ps) = en eP ps := en_take eP ps
  have gz : (0 : Int) ≤ (a : Int) := by omega
  have gz5 : (0 : Int) ≤ ((a + 5 : Nat) : Int) := by omega
  have w5 : IntKind.i64.wrap ((a : Int) + 5) = ((a + 5 : Nat) : Int) := (wrap64 ⟨by omega, by omega⟩).trans (by omega)
  have y1 : (a : Int) ≤ ((a + 5 : Nat) : Int) := by omega
  by_cases hsz : a + 5 ≤ text.size
  rotate_left
  · have hno : ¬ isSeal text a := fun h => hsz h.1
    rw [slS_no hno] at hsl
    rw [rdS_short hsl hsz] at hR
    subst hR
    have k1 : ¬ ((a + 5 : Nat) : Int) ≤ text.size := by omega
    have k2 : ((a + 5 : Nat) : Int) > text.size := by omega
    simp only [go_sem, e0, e5, w5, k1, k2, e2, eH2]
    rfl
  have k1 : ((a + 5 : Nat) : Int) ≤ text.size := by omega
  have k2 : ¬ ((a + 5 : Nat) : Int) > text.size := by omega
  by_cases hse : text.extract a (a + 5) = lSeal ∧ i ≤ 40
  · have hse1 := hse.1
    unfold lSeal at hse1
    have k3 : ((ps.length : Nat) : Int) ≤ 40 := by omega
    have hnl := nus_len text (a + 5) 4
    have hnle := nus_le text (a + 5) 4
    have hsl2 : slS text 41 [] 0 = slS text (41 - (i + 1)) (ps ++ [lpOf (nus text (a + 5) 4).1]) (nus text (a + 5) 4).2 := by
      obtain ⟨k, hk⟩ : ∃ k, 41 - i = k + 1 := ⟨41 - i - 1, by omega⟩
      have hk2 : 41 - (i + 1) = k := by omega
      rw [hsl, hk, hk2, slS, if_pos ⟨hsz, hse.1⟩]
    have hC := nums_ok text (a + 5) 4 (by omega) (by omega) (by omega)
    generalize hnn : nus text (a + 5) 4 = nn at *
    obtain ⟨ns, b⟩ := nn
    simp only at hnl hnle hsl2 hC
    obtain ⟨x1, x2, x3, x4, rfl⟩ := list4 hnl
    have i0 : (en eI [x1, x2, x3, x4])[0]? = some (eI x1) := rfl
    have i1 : (en eI [x1, x2, x3, x4])[1]? = some (eI x2) := rfl
    have i2 : (en eI [x1, x2, x3, x4])[2]? = some (eI x3) := rfl
    have i3 : (en eI [x1, x2, x3, x4])[3]? = some (eI x4) := rfl
    have q1 : (ps.length + 1) * 32 ≤ 140737488355328 := by omega
    have q2 : ps.length + 1 ≤ 9223372036854775807 := by omega
    simp only [go_sem, e0, e5, w5, k1, lohi, gz, y1, sStr, str_beq, hse1, decide_true, e4, eH4, k3]
    refine callC hC rfl rfl rfl rfl ?_
    simp only [go_sem, e4, eH4, eH41, KI, i0, i1, i2, i3, eI, ht, q1, q2]
    have heq : en eP (ps ++ [⟨x1, x2, x3, x4⟩]) = en eP ps ++ [eP ⟨x1, x2, x3, x4⟩] := en_snoc eP _ _
    refine ⟨by omega, ps ++ [⟨x1, x2, x3, x4⟩], b, by rw [List.length_append, hpl]; rfl, by omega, hsl2, e0, rfl, ⟨u2, e2, eH2⟩, u4, c + 19 + 9 + 16, e4, ?_, ?_⟩
    · rw [List.length_append]; rfl
    · rw [heq]; rfl
  · have hsl3 : slS text 41 [] 0 = (ps, a) := by
      by_cases hi41 : i = 41
      · rw [hsl, hi41]; rfl
      · exact hsl.trans (slS_no (fun h => hse ⟨h.2, by omega⟩) _ _)
    have hnl := nus_len text (a + 5) 2
    have hC := nums_ok text (a + 5) 2 (by omega) (by omega) (by omega)
    generalize hnn : nus text (a + 5) 2 = nn at *
    obtain ⟨ns, b⟩ := nn
    simp only at hnl hC
    obtain ⟨x1, x2, rfl⟩ := list2 hnl
    rw [rdS_some hsl3 hsz (by rw [hnn])] at hR
    have i0 : (en eI [x1, x2])[0]? = some (eI x1) := rfl
    have i1 : (en eI [x1, x2])[1]? = some (eI x2) := rfl
    have fin : ∀ (b1 : Bool) (P : Prop), b1 = b1 ∧ P → P := fun _ _ h => h.2
    by_cases hse0 : text.extract a (a + 5) = lSeal
    · have k3 : ¬ ((ps.length : Nat) : Int) ≤ 40 := by
        have : ¬ i ≤ 40 := fun h => hse ⟨hse0, h⟩
        omega
      unfold lSeal at hse0
      simp only [go_sem, e0, e5, w5, k1, k2, lohi, gz, y1, sStr, str_beq, hse0, decide_true, e4, eH4, k3]
      refine callC hC rfl rfl rfl rfl ?_
      simp only [go_sem, e4, eH4, KI, i0, i1, eI]
      refine callL (ws := [(2041, .arr v false 4 100 (en eP ps))]) (ns := [2041]) (planWS_ok ⟨ps, x1, x2⟩ (by simp only; omega)) rfl (lendPlan1 (p := ⟨ps, x1, x2⟩) (by exact eH41) rfl) rfl rfl ⟨?_, ?_⟩
      · simp only [go_sem, scalarT, scalarP, scalarC]
      by_cases hw : planW ⟨ps, x1, x2⟩ = text
      · rw [if_pos hw] at hR
        subst hR
        simp only [go_sem, scalarT, scalarP, scalarC, e0, sStr, str_beq, hw, decide_true, e2, eH2, e4, eH41, ht]
      · rw [if_neg hw] at hR
        subst hR
        simp only [go_sem, scalarT, scalarP, scalarC, e0, sStr, str_beq, hw, decide_false, e2, eH2]
        rfl
    · unfold lSeal at hse0
      simp only [go_sem, e0, e5, w5, k1, k2, lohi, gz, y1, sStr, str_beq, hse0, decide_false, e4, eH4]
      refine callC hC rfl rfl rfl rfl ?_
      simp only [go_sem, e4, eH4, KI, i0, i1, eI]
      refine callL (ws := [(2041, .arr v false 4 100 (en eP ps))]) (ns := [2041]) (planWS_ok ⟨ps, x1, x2⟩ (by simp only; omega)) rfl (lendPlan1 (p := ⟨ps, x1, x2⟩) (by exact eH41) rfl) rfl rfl ⟨?_, ?_⟩
      · simp only [go_sem, scalarT, scalarP, scalarC]
      by_cases hw : planW ⟨ps, x1, x2⟩ = text
      · rw [if_pos hw] at hR
        subst hR
        simp only [go_sem, scalarT, scalarP, scalarC, e0, sStr, str_beq, hw, decide_true, e2, eH2, e4, eH41, ht]
      · rw [if_neg hw] at hR
        subst hR
        simp only [go_sem, scalarT, scalarP, scalarC, e0, sStr, str_beq, hw, decide_false, e2, eH2]
        rfl
end Go.V
set_option linter.unusedSimpArgs false
namespace Go.V
open Go.Proofs
/-! A plan's text is read again as that plan: by the program's way and by the reference's. -/
theorem ba_data (a b : ByteArray) : (a ++ b).data.toList = a.data.toList ++ b.data.toList := by simp
theorem ofL_toL (l : List UInt8) : (ofL l).data.toList = l := by simp [ofL]
theorem ofL_ext (l : List UInt8) (a b : Nat) : (ofL l).extract a b = ofL ((l.drop a).take (b - a)) := by
  apply ByteArray.ext
  apply Array.ext_getElem?
  intro i
  rw [ByteArray.data_extract, Array.getElem?_extract, ofL_at, ofL_at, List.getElem?_take]
  have e1 : (ofL l).data.size = l.length := by simp [ofL]
  rw [e1, List.getElem?_drop]
  by_cases h : i < min b l.length - a
  · rw [if_pos h, if_pos (by omega)]
  · rw [if_neg h]
    by_cases h2 : i < b - a
    · rw [if_pos h2, List.getElem?_eq_none (by omega)]
    · rw [if_neg h2]
theorem parse_digits : ∀ (l : List UInt8) (acc : Nat), (∀ b ∈ l, isDig b) → (acc + 1) * 10 ^ l.length ≤ 1000000000000000000 → Lib.parseUint10 acc l = .ok (l.foldl (fun n b => n * 10 + (b.toNat - 48)) acc)
  | [], acc, _, _ => rfl
  | b :: l, acc, h, hb => by
    have hd := h b List.mem_cons_self
    unfold isDig at hd
    rw [List.length_cons, Nat.pow_succ] at hb
    have h1 : 1 ≤ 10 ^ l.length := Nat.one_le_pow _ _ (by omega)
    have h2 : (acc + 1) * 10 ≤ 1000000000000000000 := by
      have : (acc + 1) * 10 * 1 ≤ (acc + 1) * 10 * 10 ^ l.length := Nat.mul_le_mul_left _ h1
      have e : (acc + 1) * (10 ^ l.length * 10) = (acc + 1) * 10 * 10 ^ l.length := by rw [Nat.mul_comm (10 ^ l.length) 10, Nat.mul_assoc]
      omega
    rw [Lib.parseUint10, if_pos hd, if_neg (by omega), if_neg (by omega), List.foldl_cons]
    refine parse_digits l _ (fun c hc => h c (List.mem_cons_of_mem _ hc)) (Nat.le_trans (Nat.mul_le_mul_right _ (show acc * 10 + (b.toNat - 48) + 1 ≤ (acc + 1) * 10 by omega)) ?_)
    rw [Nat.mul_assoc, Nat.mul_comm 10 (10 ^ l.length)]; exact hb
theorem itoa_nn (u : Nat) : Lib.itoa (u : Int) = Lib.decDigits u := by
  have hn : ¬ (u : Int) < 0 := by omega
  rw [Lib.itoa, if_neg hn, Int.toNat_natCast]
theorem atoi_dec (u : Nat) (h : u ≤ 1000000) : Lib.atoiAll (Lib.decDigits u) = .ok (u : Int) := by
  have hv := dd_val u
  have hl := dd_len 6 u (by omega)
  have hp := dd_pos u
  have hd := dd_dig u
  generalize Lib.decDigits u = l at *
  match l, hp with
  | c :: r, _ =>
    have hc := hd c List.mem_cons_self
    unfold isDig at hc
    have hp10 : 10 ^ (c :: r).length ≤ 10 ^ 7 := Nat.pow_le_pow_right (by omega) hl
    have hk : Lib.parseUint10 0 (c :: r) = .ok u := by
      rw [parse_digits (c :: r) 0 hd (by omega)]
      exact congrArg _ hv
    have n1 : ¬ (c.toNat = 43 ∨ c.toNat = 45) := by omega
    have n2 : ¬ c.toNat = 45 := by omega
    have n4 : ¬ c.toNat = 43 := by omega
    have n3 : ¬ (9223372036854775808 ≤ u) := by omega
    simp only [Lib.atoiAll, if_neg n1, Lib.parseMag, hk, n2, n3, n4, or_self, reduceCtorEq, if_false, not_false_eq_true, and_false, false_and]
theorem rn_dec (u : Nat) (h : u ≤ 1000000) : rnB (dc u) = true ∧ rnN (dc u) = u := by
  have e : (dc u).data.toList = Lib.decDigits u := by rw [dc, ofL_toL, itoa_nn]
  rw [rnB, rnN, e, atoi_dec u h]
  exact ⟨by simp only [itoa_nn, decide_true], rfl⟩
theorem index_no {c : UInt8} : ∀ {l : List UInt8}, c ∉ l → Lib.indexByte l c = -1
  | [], _ => rfl
  | b :: l, h => by
    have h1 : (b == c) = false := beq_eq_false_iff_ne.2 fun e => h (e ▸ List.mem_cons_self)
    have h2 := index_no (c := c) (l := l) fun hm => h (List.mem_cons_of_mem _ hm)
    unfold Lib.indexByte
    rw [h1, h2]; rfl
theorem index_yes {c : UInt8} {r : List UInt8} : ∀ {l : List UInt8}, c ∉ l → Lib.indexByte (l ++ c :: r) c = l.length
  | [], _ => by simp [Lib.indexByte]
  | b :: l, h => by
    have h1 : (b == c) = false := beq_eq_false_iff_ne.2 fun e => h (e ▸ List.mem_cons_self)
    have h2 := index_yes (c := c) (r := r) (l := l) fun hm => h (List.mem_cons_of_mem _ hm)
    rw [List.cons_append]
    unfold Lib.indexByte
    have h3 : ((l.length : Int) == -1) = false := beq_eq_false_iff_ne.2 (by omega)
    rw [h1, h2, h3]
    simp
theorem splitL_no {c : UInt8} {l : List UInt8} (h : c ∉ l) : splitL (ofL l) c = [ofL l] := by
  have hi : Lib.indexB (ofL l) ⟨#[c]⟩ = -1 := by
    show Lib.index (ofL l).data.toList [c] = -1
    rw [ofL_toL, Lib.index_one]; exact index_no h
  rw [splitL, Lib.countB_miss _ _ hi, Lib.splitB_zero]
theorem splitL_hit {c : UInt8} {l r : List UInt8} (h : c ∉ l) : splitL (ofL (l ++ c :: r)) c = ofL l :: splitL (ofL r) c := by
  have hi : Lib.indexB (ofL (l ++ c :: r)) ⟨#[c]⟩ = (l.length : Int) := by
    show Lib.index (ofL (l ++ c :: r)).data.toList [c] = _
    rw [ofL_toL, Lib.index_one]; exact index_yes h
  have e1 : (ofL (l ++ c :: r)).extract 0 (l.length + 0) = ofL l := by rw [ofL_ext]; simp
  have e2 : (ofL (l ++ c :: r)).extract (l.length + (⟨#[c]⟩ : ByteArray).size) (ofL (l ++ c :: r)).size = ofL r := by
    rw [ofL_ext, ofL_size]
    have h1 : (⟨#[c]⟩ : ByteArray).size = 1 := rfl
    congr 1
    rw [h1, List.drop_append, List.drop_of_length_le (by omega), List.nil_append]
    have : l.length + 1 - l.length = 1 := by omega
    rw [this, List.drop_succ_cons, List.drop_zero]
    exact List.take_of_length_le (by rw [List.length_append, List.length_cons]; omega)
  have hc := Lib.countB_hit (ofL (l ++ c :: r)) ⟨#[c]⟩ l.length (Nat.le_refl 1) hi
  rw [e2] at hc
  rw [splitL, hc, Nat.add_comm, Lib.splitB_hit _ _ _ _ _ hi, e1, e2]
  rfl
/-! the lines -/
def dL (n : Int) : List UInt8 := Lib.itoa n
theorem dL_dc (n : Int) : ofL (dL n) = dc n := rfl
def lineL (x : LP) : List UInt8 := [115, 101, 97, 108] ++ 32 :: (dL x.num ++ 32 :: (dL x.first ++ 32 :: (dL x.next ++ 32 :: dL x.size)))
def endL (p : Pl) : List UInt8 := [111, 112, 101, 110] ++ 32 :: (dL p.opn ++ 32 :: dL p.first)
theorem lineB_L (x : LP) : (lineB x).data.toList = lineL x ++ [10] := by
  rw [lineB_eq]
  simp only [ba_data, dc, ofL_toL, lineL, dL]
  simp
theorem endB_L (p : Pl) : (endB p).data.toList = endL p ++ 10 :: [101, 110, 100, 10] := by
  rw [endB_eq]
  simp only [ba_data, dc, ofL_toL, endL, dL]
  simp
theorem dL_dig (n : Int) (h : 0 ≤ n) : ∀ b ∈ dL n, isDig b := by
  obtain ⟨u, rfl⟩ : ∃ u : Nat, n = u := ⟨n.toNat, (Int.toNat_of_nonneg h).symm⟩
  rw [dL, itoa_nn]; exact dd_dig u
theorem dL_no (n : Int) (h : 0 ≤ n) (c : UInt8) (hc : ¬ isDig c) : c ∉ dL n := fun hm => hc (dL_dig n h c hm)
theorem rn_dL (n : Int) (h : 0 ≤ n ∧ n ≤ 1000000) : rnB (ofL (dL n)) = true ∧ rnN (ofL (dL n)) = n := by
  obtain ⟨u, rfl⟩ : ∃ u : Nat, n = u := ⟨n.toNat, (Int.toNat_of_nonneg h.1).symm⟩
  exact rn_dec u (by omega)
theorem nd32 : ¬ isDig 32 := by decide
theorem nd10 : ¬ isDig 10 := by decide
theorem nb_seal {x : LP} (h : LPok x) : nbB (ofL (lineL x)) wSeal 4 = some [x.num, x.first, x.next, x.size] := by
  have h1 := rn_dL x.num ⟨by have := h.num; omega, by have := h.num; omega⟩
  have h2 := rn_dL x.first ⟨by have := h.first; omega, by have := h.first; omega⟩
  have h3 := rn_dL x.next ⟨by have := h.next; have := h.first; omega, h.next.2⟩
  have h4 := rn_dL x.size ⟨h.size.1, by have := h.size; omega⟩
  have n1 := dL_no x.num (by have := h.num; omega) 32 nd32
  have n2 := dL_no x.first (by have := h.first; omega) 32 nd32
  have n3 := dL_no x.next (by have := h.next; have := h.first; omega) 32 nd32
  have n4 := dL_no x.size h.size.1 32 nd32
  have hw : ofL [115, 101, 97, 108] = wSeal := rfl
  rw [nbB, lineL, splitL_hit (by decide), splitL_hit n1, splitL_hit n2, splitL_hit n3, splitL_no n4]
  simp only [hw, List.length_cons, List.length_nil, and_self, if_true, rdNums, h1, h2, h3, h4, Option.map_some]
theorem nb_open {a b : Int} (ha : 0 ≤ a ∧ a ≤ 1000000) (hb : 0 ≤ b ∧ b ≤ 1000000) {l : List UInt8} (hl : l = [111, 112, 101, 110] ++ 32 :: (dL a ++ 32 :: dL b)) : nbB (ofL l) wOpen 2 = some [a, b] ∧ nbB (ofL l) wSeal 4 = none := by
  have h1 := rn_dL a ha
  have h2 := rn_dL b hb
  have n1 := dL_no a ha.1 32 nd32
  have n2 := dL_no b hb.1 32 nd32
  have hw : ofL [111, 112, 101, 110] = wOpen := rfl
  have hne : ¬ wOpen = wSeal := by decide
  subst hl
  have hs : splitL (ofL ([111, 112, 101, 110] ++ 32 :: (dL a ++ 32 :: dL b))) 32 = [wOpen, ofL (dL a), ofL (dL b)] := by
    rw [splitL_hit (by decide), splitL_hit n1, splitL_no n2, hw]
  rw [nbB, nbB, hs]
  simp only [List.length_cons, List.length_nil, and_self, if_true, rdNums, h1, h2, Option.map_some, hne, false_and, if_false]
theorem nb_short (l : List UInt8) (h : 32 ∉ l) (w : ByteArray) (m : Nat) (hm : m ≠ 0) : nbB (ofL l) w m = none := by
  have hne : ¬ (0 = m) := fun e => hm e.symm
  rw [nbB, splitL_no h]
  simp only [List.length_nil, hne, and_false, if_false]
theorem lineL_no {x : LP} (h : LPok x) : (10 : UInt8) ∉ lineL x := by
  have n1 := dL_no x.num (by have := h.num; omega) 10 nd10
  have n2 := dL_no x.first (by have := h.first; omega) 10 nd10
  have n3 := dL_no x.next (by have := h.next; have := h.first; omega) 10 nd10
  have n4 := dL_no x.size h.size.1 10 nd10
  simp [lineL, n1, n2, n3, n4]
theorem endL_no {p : Pl} (h1 : 0 ≤ p.opn) (h2 : 0 ≤ p.first) : (10 : UInt8) ∉ endL p := by
  have n1 := dL_no p.opn h1 10 nd10
  have n2 := dL_no p.first h2 10 nd10
  simp [endL, n1, n2]
theorem fold_lines : ∀ (xs : List LP), (∀ x ∈ xs, LPok x) → ∀ (r : List UInt8) (q : Pl), (splitL (ofL (linesL xs ++ r)) 10).foldl rdLine q = (splitL (ofL r) 10).foldl rdLine ⟨q.parts ++ xs, q.opn, q.first⟩
  | [], _, r, q => by rw [List.append_nil]; rfl
  | x :: xs, h, r, q => by
    have hx := h x List.mem_cons_self
    have e : linesL (x :: xs) ++ r = lineL x ++ 10 :: (linesL xs ++ r) := by
      rw [linesL, List.flatMap_cons, lineB_L]
      simp [linesL]
    rw [e, splitL_hit (lineL_no hx), List.foldl_cons, rdLine_4 (nb_seal hx), fold_lines xs (fun y hy => h y (List.mem_cons_of_mem _ hy))]
    simp
theorem planT_L (p : Pl) : planT p = ofL (linesL p.parts ++ (endL p ++ 10 :: ([101, 110, 100] ++ 10 :: []))) := by
  rw [planT, endB_L]; rfl
/-- The program's way. -/
theorem pI_planT {p : Pl} (h : planOk p = true) : pI (planT p) = p := by
  obtain ⟨h1, h2, h3, h4⟩ := planOk_ok h
  obtain ⟨g1, g2⟩ := nb_open (a := p.opn) (b := p.first) ⟨by omega, by omega⟩ ⟨by omega, by omega⟩ rfl
  rw [pI, planT_L, fold_lines _ h2, splitL_hit (endL_no (by omega) (by omega)), List.foldl_cons]
  show List.foldl rdLine (rdLine _ (ofL ([111, 112, 101, 110] ++ 32 :: (dL p.opn ++ 32 :: dL p.first)))) _ = p
  rw [rdLine_2 g2 g1, splitL_hit (by decide), List.foldl_cons, splitL_no (by simp), List.foldl_cons, List.foldl_nil,
    rdLine_0 (nb_short _ (by decide) _ _ (by decide)) (nb_short _ (by decide) _ _ (by decide)),
    rdLine_0 (nb_short _ (by simp) _ _ (by decide)) (nb_short _ (by simp) _ _ (by decide))]
  rfl
end Go.V
set_option linter.unusedSimpArgs false
namespace Go.V
open Go.Proofs
/-- From place p on the text is this. -/
def At (s : ByteArray) (p : Nat) (L : List UInt8) : Prop := ∀ i, s.data[p + i]? = L[i]?
theorem At.app {s : ByteArray} {p : Nat} {l r : List UInt8} (h : At s p (l ++ r)) : At s (p + l.length) r := fun i => by
  have := h (l.length + i)
  rw [List.getElem?_append_right (by omega)] at this
  rw [Nat.add_assoc, this]
  congr 1; omega
theorem At.cons {s : ByteArray} {p : Nat} {b : UInt8} {r : List UInt8} (h : At s p (b :: r)) : At s (p + 1) r := fun i => by
  have := h (i + 1)
  rw [List.getElem?_cons_succ] at this
  rw [← this]; congr 1; omega
theorem At.all (L : List UInt8) : At (ofL L) 0 L := fun i => by rw [Nat.zero_add, ofL_at]
theorem nd_eq (s : ByteArray) : ∀ (k m p : Nat), m ≤ k → (∀ i, i < m → ∃ b, s.data[p + i]? = some b ∧ isDig b) → (∀ b, s.data[p + m]? = some b → ¬ isDig b) → nd s p k = m
  | 0, 0, _, _, _, _ => rfl
  | 0, m + 1, _, h, _, _ => by omega
  | k + 1, 0, p, _, _, h => by
    unfold nd
    rw [Nat.add_zero] at h
    split
    · rename_i b hb
      rw [if_neg (h b hb)]
    · rfl
  | k + 1, m + 1, p, hm, hd, h => by
    obtain ⟨b, h1, h2⟩ := hd 0 (by omega)
    rw [Nat.add_zero] at h1
    unfold nd
    rw [h1]
    simp only [if_pos h2]
    rw [nd_eq s k m (p + 1) (by omega) (fun i hi => by obtain ⟨c, h3, h4⟩ := hd (i + 1) (by omega); exact ⟨c, by rw [← h3]; congr 1; omega, h4⟩) (fun b hb => h b (by rw [← hb]; congr 1; omega))]
theorem vl_eq {s : ByteArray} {p : Nat} {l r : List UInt8} (h : At s p (l ++ r)) : ∀ i, i ≤ l.length → vl s p i = valL (l.take i)
  | 0, _ => by rw [List.take_zero]; rfl
  | i + 1, hi => by
    have h1 : i < l.length := by omega
    have h2 : s.data[p + i]? = some l[i] := by rw [h i, List.getElem?_append_left h1, List.getElem?_eq_getElem h1]
    rw [vl, vl_eq h i (by omega), h2, Option.getD_some, take_snoc (List.getElem?_eq_getElem h1), valL_snoc]
theorem num_at {s : ByteArray} {p : Nat} {n : Int} {c : UInt8} {r : List UInt8} (hn : 0 ≤ n ∧ n ≤ 1000000) (hc : ¬ isDig c) (h : At s p (dL n ++ c :: r)) :
    nd s p 7 = (dL n).length ∧ ((vl s p (dL n).length : Nat) : Int) = n ∧ At s (p + (dL n).length + 1) r := by
  have hd := dL_dig n hn.1
  have h2 : At s (p + (dL n).length) (c :: r) := h.app
  refine ⟨nd_eq s 7 _ p ?_ (fun i hi => ?_) (fun b hb => ?_), ?_, h2.cons⟩
  · obtain ⟨u, rfl⟩ : ∃ u : Nat, n = u := ⟨n.toNat, (Int.toNat_of_nonneg hn.1).symm⟩
    rw [dL, itoa_nn]; exact dd_len 6 u (by omega)
  · exact ⟨(dL n)[i], by rw [h i, List.getElem?_append_left hi, List.getElem?_eq_getElem hi], hd _ (List.getElem_mem hi)⟩
  · have := h2 0
    rw [Nat.add_zero, hb] at this
    cases this
    exact hc
  · rw [vl_eq h _ (Nat.le_refl _), List.take_length]
    obtain ⟨u, rfl⟩ : ∃ u : Nat, n = u := ⟨n.toNat, (Int.toNat_of_nonneg hn.1).symm⟩
    rw [dL, itoa_nn, dd_val]
theorem nus_step {s : ByteArray} {p i q : Nat} {l : List Int} {n : Int} {c : UInt8} {r : List UInt8} (h0 : nus s p i = (l, q)) (hn : 0 ≤ n ∧ n ≤ 1000000) (hc : ¬ isDig c) (h : At s q (dL n ++ c :: r)) :
    nus s p (i + 1) = (l ++ [n], q + (dL n).length + 1) ∧ At s (q + (dL n).length + 1) r := by
  obtain ⟨h1, h2, h3⟩ := num_at hn hc h
  refine ⟨?_, h3⟩
  rw [nus, h0]
  simp only [h1, h2]
theorem seal_at {s : ByteArray} {a : Nat} {r : List UInt8} (h : At s a ([115, 101, 97, 108, 32] ++ r)) : isSeal s a := by
  have h4 := h 4
  have hlt : a + 4 < s.data.size := by
    rcases Nat.lt_or_ge (a + 4) s.data.size with h | h
    · exact h
    · rw [Array.getElem?_eq_none h] at h4; simp at h4
  refine ⟨by rw [size_data]; omega, ?_⟩
  apply ByteArray.ext
  apply Array.ext_getElem?
  intro i
  rw [ByteArray.data_extract, Array.getElem?_extract]
  by_cases hi : i < 5
  · rw [if_pos (by omega), h i, List.getElem?_append_left (by simpa using hi)]
    match i, hi with
    | 0, _ | 1, _ | 2, _ | 3, _ | 4, _ => rfl
  · rw [if_neg (by omega)]
    exact (Array.getElem?_eq_none (by show 5 ≤ i; omega)).symm
theorem open_at {s : ByteArray} {a : Nat} {r : List UInt8} (h : At s a (111 :: r)) : ¬ isSeal s a := by
  rintro ⟨h1, h2⟩
  have h3 : (s.extract a (a + 5)).data[0]? = some 115 := by rw [h2]; rfl
  rw [ByteArray.data_extract, Array.getElem?_extract] at h3
  split at h3
  · have := h 0
    rw [h3] at this
    simp at this
  · cases h3
theorem linesL_cons (x : LP) (xs : List LP) : linesL (x :: xs) = [115, 101, 97, 108, 32] ++ (dL x.num ++ 32 :: (dL x.first ++ 32 :: (dL x.next ++ 32 :: (dL x.size ++ 10 :: linesL xs)))) := by
  rw [linesL, List.flatMap_cons, lineB_L, lineL]
  simp [linesL]
theorem slS_at {s : ByteArray} {r : List UInt8} : ∀ (xs : List LP), (∀ x ∈ xs, LPok x) → ∀ (k : Nat) (ps : List LP) (a : Nat), xs.length ≤ k → At s a (linesL xs ++ 111 :: r) → ∃ b, slS s k ps a = (ps ++ xs, b) ∧ At s b (111 :: r)
  | [], _, k, ps, a, _, h => ⟨a, by rw [slS_no (open_at h), List.append_nil], h⟩
  | x :: xs, hx, 0, ps, a, hk, _ => by simp at hk
  | x :: xs, hx, k + 1, ps, a, hk, h => by
    have hok := hx x List.mem_cons_self
    obtain ⟨o1, o2, o3, o4⟩ := hok
    rw [linesL_cons] at h
    simp only [List.append_assoc, List.cons_append] at h
    have hs := seal_at (r := dL x.num ++ 32 :: (dL x.first ++ 32 :: (dL x.next ++ 32 :: (dL x.size ++ 10 :: (linesL xs ++ 111 :: r))))) (by simpa using h)
    have h5 : At s (a + 5) (dL x.num ++ 32 :: (dL x.first ++ 32 :: (dL x.next ++ 32 :: (dL x.size ++ 10 :: (linesL xs ++ 111 :: r))))) := At.app (l := [115, 101, 97, 108, 32]) (by simpa using h)
    obtain ⟨e1, a1⟩ := nus_step (p := a + 5) (i := 0) rfl ⟨by omega, by omega⟩ nd32 h5
    obtain ⟨e2, a2⟩ := nus_step e1 ⟨by omega, by omega⟩ nd32 a1
    obtain ⟨e3, a3⟩ := nus_step e2 ⟨by omega, by omega⟩ nd32 a2
    obtain ⟨e4, a4⟩ := nus_step e3 ⟨by omega, by omega⟩ nd10 a3
    obtain ⟨b, g1, g2⟩ := slS_at xs (fun y hy => hx y (List.mem_cons_of_mem _ hy)) k (ps ++ [x]) _ (by rw [List.length_cons] at hk; omega) a4
    refine ⟨b, ?_, g2⟩
    rw [slS, if_pos hs]
    have e4' : nus s (a + 5) 4 = _ := e4
    rw [e4']
    simp only [List.nil_append, List.cons_append, lpOf]
    rw [g1, List.append_assoc]; rfl
/-- The reference's way. -/
theorem pS_planT {p : Pl} (h : planOk p = true) : pS (planT p) = some p := by
  obtain ⟨h1, h2, h3, h4⟩ := planOk_ok h
  have h0 : At (planT p) 0 (linesL p.parts ++ 111 :: ([112, 101, 110] ++ 32 :: (dL p.opn ++ 32 :: (dL p.first ++ 10 :: [101, 110, 100, 10])))) := by
    have e : linesL p.parts ++ (endL p ++ 10 :: ([101, 110, 100] ++ 10 :: [])) = linesL p.parts ++ 111 :: ([112, 101, 110] ++ 32 :: (dL p.opn ++ 32 :: (dL p.first ++ 10 :: [101, 110, 100, 10]))) := by simp [endL]
    rw [planT_L, e]; exact At.all _
  obtain ⟨b, g1, g2⟩ := slS_at p.parts h2 41 [] 0 (by omega) h0
  have g5 : At (planT p) (b + 5) (dL p.opn ++ 32 :: (dL p.first ++ 10 :: [101, 110, 100, 10])) := At.app (l := [111, 112, 101, 110, 32]) (by simpa using g2)
  obtain ⟨e1, a1⟩ := nus_step (p := b + 5) (i := 0) rfl ⟨by omega, by omega⟩ nd32 g5
  obtain ⟨e2, a2⟩ := nus_step e1 ⟨by omega, by omega⟩ nd10 a1
  have hsz : b + 5 ≤ (planT p).size := by
    have h4 := g2 4
    rcases Nat.lt_or_ge (b + 4) (planT p).data.size with h | h
    · rw [size_data]; omega
    · rw [Array.getElem?_eq_none h] at h4; simp at h4
  have e2' : nus (planT p) (b + 5) 2 = _ := e2
  rw [pS, g1]
  simp only [if_pos hsz, e2', List.nil_append, List.cons_append]
/-- What is read as a plan. -/
def rd (text : ByteArray) : Pl × Bool := rdI text
theorem planT_ne {p : Pl} : planT p ≠ ⟨#[]⟩ := fun h => by
  have := congrArg ByteArray.size h
  rw [planT_end, endB_eq] at this
  simp only [ByteArray.size_append, sz_end] at this
  have e : (⟨#[]⟩ : ByteArray).size = 0 := rfl
  omega
theorem planW_text {p : Pl} {text : ByteArray} (h : planW p = text) (ht : text ≠ ⟨#[]⟩) : planOk p = true ∧ planT p = text := by
  unfold planW at h
  split at h
  · rename_i ho; exact ⟨ho, h⟩
  · exact absurd h.symm ht
theorem rdI_pos {p : Pl} (h : planOk p = true) : rdI (planT p) = (p, true) := by
  have e := pI_planT h
  rw [rdI, e, if_pos ⟨by rw [planW, if_pos h], planT_ne⟩]
/-- Both ways read the same. -/
theorem rdS_eq (text : ByteArray) : rdS text = rd text := by
  by_cases hz : text = ⟨#[]⟩
  · subst hz
    have h1 : rd ⟨#[]⟩ = (zPl, false) := by unfold rd rdI; exact if_neg fun h => h.2 rfl
    rw [h1]
    exact rdS_short (ps := []) (a := 0) (slS_no (fun h => by have := h.1; have e : (⟨#[]⟩ : ByteArray).size = 0 := rfl; omega) _ _) (fun h => by have e : (⟨#[]⟩ : ByteArray).size = 0 := rfl; omega)
  · unfold rd
    have hI : ∀ p, planOk p = true → planT p = text → rdI text = (p, true) := fun p hp ht => ht ▸ rdI_pos hp
    unfold rdS
    cases hs : pS text with
    | none =>
      simp only
      unfold rdI
      split
      · rename_i hc
        obtain ⟨h1, h2⟩ := planW_text hc.1 hz
        rw [← h2, pS_planT h1] at hs
        cases hs
      · rfl
    | some p =>
      simp only
      split
      · rename_i hc
        obtain ⟨h1, h2⟩ := planW_text hc hz
        exact (hI p h1 h2).symm
      · rename_i hn
        unfold rdI
        split
        · rename_i hc
          obtain ⟨h1, h2⟩ := planW_text hc.1 hz
          rw [← h2, pS_planT h1] at hs
          cases hs
          exact absurd hc.1 hn
        · rfl
theorem rd_ok {text : ByteArray} {p : Pl} (h : rd text = (p, true)) : planOk p = true ∧ planT p = text := by
  unfold rd rdI at h
  split at h
  · rename_i hc
    cases h
    exact planW_text hc.1 hc.2
  · cases h
end Go.V
set_option linter.unusedSimpArgs false
set_option maxRecDepth 20000
namespace Go.V
open Go.Proofs
/-! Names of files, and what is read of them. -/
theorem rn_of {x : ByteArray} (h : rnB x = true) : dc (rnN x) = x := by
  unfold rnB at h
  unfold rnN
  cases ha : Lib.atoiAll x.data.toList with
  | ok v =>
    rw [ha] at h
    have h' : Lib.itoa v = x.data.toList := of_decide_eq_true h
    show ofL (Lib.itoa v) = x
    rw [h']; exact ofL_data x
  | _ => rw [ha] at h; cases h
theorem vl_of {s : ByteArray} {n : Nat} (h : dc n = s.extract 1 s.size) (h0 : 1 ≤ s.size) : vl s 1 (s.size - 1) = n := by
  have e : (s.extract 1 s.size).data.toList = Lib.decDigits n := by rw [← h, dc, ofL_toL, itoa_nn]
  have hA : At s 1 (Lib.decDigits n ++ []) := fun i => by
    rw [List.append_nil, ← e, Array.getElem?_toList]
    by_cases hi : 1 + i < s.size
    · rw [ext_at s 1 i hi]
    · rw [Array.getElem?_eq_none (by rw [← size_data]; omega), Array.getElem?_eq_none (by rw [← size_data, ext_size]; omega)]
  have hl : (Lib.decDigits n).length = s.size - 1 := by rw [← e, Array.length_toList, ← size_data, ext_size]
  rw [← hl, vl_eq hA _ (Nat.le_refl _), List.take_length, dd_val]
theorem numOf_rn {s : ByteArray} {l : UInt8} (h0 : s.data[0]? = some l) : numOf l s = if rnB (s.extract 1 s.size) = true ∧ 1 ≤ rnN (s.extract 1 s.size) ∧ rnN (s.extract 1 s.size) ≤ 999999 then rnN (s.extract 1 s.size) else 0 := by
  have hsz : 1 ≤ s.size := by
    have := (Array.getElem?_eq_some_iff.1 h0).1
    rw [← size_data] at this; omega
  unfold numOf
  split
  · rename_i g
    obtain ⟨_, g1, g2⟩ := g
    obtain ⟨r1, r2⟩ := rn_dec _ (show vl s 1 (s.size - 1) ≤ 1000000 by omega)
    rw [g2] at r1 r2
    rw [r1, r2]
    split
    · rfl
    · rename_i hn
      have : ¬ (1 ≤ ((vl s 1 (s.size - 1) : Nat) : Int)) := fun h => hn ⟨rfl, h, by omega⟩
      omega
  · rename_i g
    split
    · rename_i hc
      obtain ⟨c1, c2, c3⟩ := hc
      obtain ⟨n, hn⟩ : ∃ n : Nat, rnN (s.extract 1 s.size) = n := ⟨_, (Int.toNat_of_nonneg (by omega)).symm⟩
      have hd := rn_of c1
      rw [hn] at hd c3
      have hv := vl_of hd hsz
      exact absurd ⟨h0, by omega, by rw [hv]; exact hd⟩ g
    · rfl
def ok138 := okF.gu (P := Tryz.prog) tab Tryz.func138 Tryz.ntmps138 (by conv => lhs; cbv) (by kernel_rfl)
theorem numI_ok (s : ByteArray) (l : UInt8) (hs : s.size ≤ 1000000000) : ACallsF Tryz.prog 138 [tS s, .s (.int .u8 l.toNat)] [] (.i (numOf l s)) := by
  refine ACallsF.intro ok138 follows fun X c0 => ?_
  by_cases hz : s = ⟨#[]⟩
  · have e : numOf l s = 0 := if_neg fun h => by have := h.1; rw [hz] at this; cases this
    simp only [go_sem, sStr, str_beq, hz, decide_true]
    rw [← hz, e]
  have hsz : 1 ≤ s.size := by
    rcases Nat.eq_zero_or_pos s.size with h | h
    · exact absurd (ByteArray.ext (Array.eq_empty_of_size_eq_zero (by rw [← size_data]; exact h))) hz
    · exact h
  obtain ⟨b, hb⟩ : ∃ b, s.data[0]? = some b := ⟨_, Array.getElem?_eq_getElem (by rw [← size_data]; omega)⟩
  by_cases kl : b = l
  rotate_left
  · have k2 : ((b.toNat : Int) != l.toNat) = true := by
      rw [bne_iff_ne]; intro h; exact kl (UInt8.toNat_inj.1 (by omega))
    have e : numOf l s = 0 := if_neg fun h => kl (by have := h.1; rw [hb] at this; exact Option.some.inj this)
    simp only [go_sem, sStr, str_beq, hz, decide_false, hb, k2, KI, e]
  subst kl
  have k2 : ((b.toNat : Int) != b.toNat) = false := by simp
  have k5 : (1 : Int) ≤ s.size := by omega
  have e := numOf_rn hb
  have hx := rnN_in (s.extract 1 s.size)
  have hC := readNum_ok (s.extract 1 s.size) (by rw [ext_size]; omega)
  generalize hxx : s.extract 1 s.size = x at *
  simp only [go_sem, sStr, str_beq, hz, decide_false, hb, k2, KI, lohi, k5, Int.le_refl, and_self, hxx]
  refine callC hC rfl rfl rfl rfl ?_
  cases r1 : rnB x with
  | false =>
    rw [r1, if_neg (by simp)] at e
    simp only [go_sem, e]
  | true =>
    simp only [go_sem]
    refine callC (inRange_ok _ _ _) rfl rfl rfl rfl ?_
    by_cases r2 : (decide (1 ≤ rnN x) && decide (rnN x ≤ 999999)) = true
    · have r3 := r2
      rw [Bool.and_eq_true, decide_eq_true_eq, decide_eq_true_eq] at r3
      rw [if_pos ⟨r1, r3⟩] at e
      simp only [go_sem, r2, e]
    · have r3 := r2
      rw [Bool.and_eq_true, decide_eq_true_eq, decide_eq_true_eq] at r3
      rw [if_neg fun h => r3 h.2] at e
      rw [Bool.not_eq_true] at r2
      simp only [go_sem, r2, e]
/-- The name of a segment's file, and of a plan's. -/
def seg (n : Int) : ByteArray := ⟨#[115]⟩ ++ dc n
def pln (n : Int) : ByteArray := ⟨#[109]⟩ ++ dc n
theorem fits1 (c : UInt8) (n : Int) (h : i64 n) : fits ⟨#[c]⟩ (dc n) := by
  have h1 : (⟨#[c]⟩ : ByteArray).size = 1 := rfl
  have := dc_le n h
  rw [fits, h1]; omega
def ok105 := okF.gu (P := Tryz.prog) tab Tryz.func105 Tryz.ntmps105 (by conv => lhs; cbv) (by kernel_rfl)
theorem seg_ok (n : Int) (h : i64 n) : ACallsF Tryz.prog 105 [.i n] [] (tS (seg n)) := by
  unfold seg
  have f1 := fits1 115 n h
  refine ACallsF.intro ok105 follows fun X c0 => ?_
  simp only [go_sem]
  refine callC (itoa_ok n h) rfl rfl rfl rfl ?_
  simp only [go_sem, sStr, f1]
def ok151 := okF.gu (P := Tryz.prog) tab Tryz.func151 Tryz.ntmps151 (by conv => lhs; cbv) (by kernel_rfl)
theorem pln_ok (n : Int) (h : i64 n) : ACallsF Tryz.prog 151 [.i n] [] (tS (pln n)) := by
  unfold pln
  have f1 := fits1 109 n h
  refine ACallsF.intro ok151 follows fun X c0 => ?_
  simp only [go_sem]
  refine callC (itoa_ok n h) rfl rfl rfl rfl ?_
  simp only [go_sem, sStr, f1]
/-- The names that are there. -/
def th (d : Dk) : List ByteArray := aft d.names d.moves
theorem th_len {d : Dk} (hD : DOk d) : (th d).length ≤ 1000 := by
  have := aft_len d.moves d.names
  have := hD.n
  have := hD.m
  rw [th]; omega
theorem thS_ok (d : Dk) (hD : DOk d) : ACallsF Tryz.prog 98 [tDk d] [] (tL (en eS (th d))) := by
  obtain ⟨b, hb, hC⟩ := okS_ok d hD.fine
  rw [hb.2 hD] at hC
  have hA := after_ok d hD.fine.s d.moves.length (Nat.le_refl _) 1001
  rw [List.take_length] at hA
  unfold th
  refine ACallsF.intro ok98 follows fun X c0 => ?_
  simp only [go_sem]
  refine callC hC rfl rfl rfl rfl ?_
  simp only [go_sem]
  refine callA1 (m := 1001) (ws := []) (ns := []) hA rfl rfl rfl (en_flat eS eS_flat _) ⟨rfl, ?_⟩
  simp only [go_sem, imp_self]
theorem thI_ok (d : Dk) (hD : DOk d) : ACallsF Tryz.prog 137 [tDk d] [] (tL (en eS (th d))) := by
  have hA := namesI_ok d hD.fine.s d.moves.length (Nat.le_refl _) 1009
  have hN := hD.nmI d.moves.length (Nat.le_refl _)
  rw [List.take_length] at hA hN
  rw [hN] at hA
  unfold th
  refine ACallsF.intro ok137 follows fun X c0 => ?_
  simp only [go_sem]
  refine callA1 (m := 1009) (ws := []) (ns := []) hA rfl rfl rfl (en_flat eS eS_flat _) ⟨rfl, ?_⟩
  simp only [go_sem, en_take2, imp_self, Nat.le_add_right]
/-- What is read of a file. -/
def lk (d : Dk) (nm : ByteArray) : Option ByteArray := if has (th d) nm = true then some (fileOf d.files nm).data else none
abbrev tSB (x : Option ByteArray) : T := .tup [.one (.v (.s (.string (x.getD ⟨#[]⟩)))), .one (.v (.s (.bool x.isSome)))]
theorem lk_file {d : Dk} (hD : DOk d) {nm : ByteArray} (hm : nm ∈ th d) : ∃ i : Nat, fnd d.files nm = i ∧ d.files[i]? = some (fileOf d.files nm) ∧ (fileOf d.files nm).name = nm :=
  hD.find (DOk.aft_made (n := d.moves.length) (by rw [List.take_length]; exact hm))
def ok54 := okF.gu (P := Tryz.prog) tab Tryz.func54 Tryz.ntmps54 (by conv => lhs; cbv) (by kernel_rfl)
theorem lkS_ok (d : Dk) (hD : DOk d) (nm : ByteArray) : ACallsF Tryz.prog 54 [tDk d, tS nm] [] (tSB (lk d nm)) := by
  have hl := th_len hD
  have h2 := has_ok (th d) nm (by omega)
  have hs := hD.fine.s.f
  have hC := thS_ok d hD
  by_cases hm : nm ∈ th d
  · rw [has_true.2 hm] at h2
    have h3 := find_ok d.files nm (by omega)
    obtain ⟨i, k1, k2, k3⟩ := lk_file hD hm
    rw [k1] at h3
    have ex := en_at eF k2
    have gz : (0 : Int) ≤ i := by omega
    rw [lk, if_pos (has_true.2 hm)]
    refine ACallsF.intro ok54 follows fun X c0 => ?_
    simp only [go_sem]
    refine callC hC rfl rfl rfl rfl ?_
    simp only [go_sem]
    refine callC h2 rfl rfl rfl rfl ?_
    simp only [go_sem]
    refine callC h3 rfl rfl rfl rfl ?_
    simp only [go_sem, ex, gz, eF, Option.getD_some, Option.isSome_some]
  · rw [has_false.2 hm] at h2
    rw [lk, if_neg (by rw [has_false.2 hm]; decide)]
    refine ACallsF.intro ok54 follows fun X c0 => ?_
    simp only [go_sem]
    refine callC hC rfl rfl rfl rfl ?_
    simp only [go_sem]
    refine callC h2 rfl rfl rfl rfl ?_
    simp only [go_sem, Option.getD_none, Option.isSome_none]
def ok104 := okF.gu (P := Tryz.prog) tab Tryz.func104 Tryz.ntmps104 (by conv => lhs; cbv) (by kernel_rfl)
theorem lkI_ok (d : Dk) (hD : DOk d) (nm : ByteArray) : ACallsF Tryz.prog 104 [tDk d, tS nm] [] (tSB (lk d nm)) := by
  have hl := th_len hD
  have h2 := contains_ok (th d) nm (by omega)
  have hs := hD.fine.s.f
  have hC := thI_ok d hD
  by_cases hm : nm ∈ th d
  · rw [has_true.2 hm] at h2
    have h3 := fileAt_ok d nm (by omega)
    obtain ⟨i, k1, k2, k3⟩ := lk_file hD hm
    rw [k1] at h3
    have ex := en_at eF k2
    have gz : (0 : Int) ≤ i := by omega
    rw [lk, if_pos (has_true.2 hm)]
    refine ACallsF.intro ok104 follows fun X c0 => ?_
    simp only [go_sem]
    refine callC hC rfl rfl rfl rfl ?_
    simp only [go_sem]
    refine callC h2 rfl rfl rfl rfl ?_
    simp only [go_sem]
    refine callC h3 rfl rfl rfl rfl ?_
    simp only [go_sem, ex, gz, eF, Option.getD_some, Option.isSome_some]
  · rw [has_false.2 hm] at h2
    rw [lk, if_neg (by rw [has_false.2 hm]; decide)]
    refine ACallsF.intro ok104 follows fun X c0 => ?_
    simp only [go_sem]
    refine callC hC rfl rfl rfl rfl ?_
    simp only [go_sem]
    refine callC h2 rfl rfl rfl rfl ?_
    simp only [go_sem, Option.getD_none, Option.isSome_none]
end Go.V
set_option linter.unusedSimpArgs false
set_option maxRecDepth 20000
namespace Go.V
open Go.Proofs
/-! The newest plan. -/
theorem th_size {d : Dk} (hD : DOk d) {nm : ByteArray} (hm : nm ∈ th d) : nm.size ≤ 8 := by
  obtain ⟨i, k1, k2, k3⟩ := lk_file hD hm
  have h := (hD.files i _ k2).name
  rw [k3] at h
  simp only [nameOk, Bool.and_eq_true, decide_eq_true_eq] at h
  exact h.1.1.2
theorem lk_size {d : Dk} (hD : DOk d) {nm x : ByteArray} (h : lk d nm = some x) : x.size ≤ 20000 := by
  unfold lk at h
  split at h
  · rename_i hm
    cases h
    obtain ⟨i, k1, k2, k3⟩ := lk_file hD (has_true.1 hm)
    exact (hD.files i _ k2).data
  · cases h
theorem lk_size0 {d : Dk} (hD : DOk d) (nm : ByteArray) : ((lk d nm).getD ⟨#[]⟩).size ≤ 20000 := by
  cases h : lk d nm with
  | none => exact Nat.zero_le _
  | some x => exact lk_size hD h
theorem numOf_le (l : UInt8) (s : ByteArray) : 0 ≤ numOf l s ∧ numOf l s ≤ 999999 := by
  unfold numOf
  split
  · rename_i h; omega
  · omega
def npStep (d : Dk) (st : Pl × Int) (nm : ByteArray) : Pl × Int := if numOf 109 nm > st.2 then (if (rd ((lk d nm).getD ⟨#[]⟩)).2 = true then ((rd ((lk d nm).getD ⟨#[]⟩)).1, numOf 109 nm) else st) else st
/-- The newest plan, and its number. -/
def np (d : Dk) : Pl × Int := (th d).foldl (npStep d) (zPl, 0)
def npOk (st : Pl × Int) : Prop := (st.1 = zPl ∧ st.2 = 0) ∨ (planOk st.1 = true ∧ 1 ≤ st.2 ∧ st.2 ≤ 999999)
theorem npStep_ok {d : Dk} {st : Pl × Int} (h : npOk st) (nm : ByteArray) : npOk (npStep d st nm) := by
  unfold npStep
  split
  · rename_i h1
    split
    · rename_i h2
      have hle := numOf_le 109 nm
      generalize hr : rd ((lk d nm).getD ⟨#[]⟩) = r at h2 ⊢
      obtain ⟨p, b⟩ := r
      simp only at h2
      subst h2
      refine .inr ⟨(rd_ok hr).1, ?_, hle.2⟩
      rcases h with ⟨_, h0⟩ | ⟨_, h0, _⟩ <;> (simp only; omega)
    · exact h
  · exact h
theorem fold_ok {d : Dk} : ∀ (l : List ByteArray) {st : Pl × Int}, npOk st → npOk (l.foldl (npStep d) st)
  | [], _, h => h
  | x :: l, _, h => fold_ok l (npStep_ok h x)
theorem np_ok (d : Dk) : npOk (np d) := fold_ok _ (.inl ⟨rfl, rfl⟩)
abbrev tPN (r : Pl × Int) : T := .tup [.agg (cPl r.1), .one (.v (.s (.int .i64 r.2)))]
def plC (pc : C) (p : Pl) : Prop := pc = .v (.sl (en eP p.parts)) ∨ (pc = .nil0 ∧ p.parts = [])
def ok52 := okF.gu (P := Tryz.prog) tab Tryz.func52 Tryz.ntmps52 (by conv => lhs; cbv) (by kernel_rfl)
def inv52 (d : Dk) (i : Nat) (σ : St) : Prop := (∃ u, σ.t 1 = .c (.ptr 1 u 0) ∧ σ.H 1 = some (.var u 29 (cDk d))) ∧ (∃ u, σ.t 2 = .c (.ptr 2 u 0) ∧ σ.H 2 = some (.var u 38 [.nil0, .v (.s (.int .i64 0)), .v (.s (.int .i64 0))])) ∧ σ.t 4 = tL (en eS (th d)) ∧ σ.t 7 = .i i ∧
  ∃ st u pc, st = ((th d).take i).foldl (npStep d) (zPl, 0) ∧ plC pc st.1 ∧ σ.t 6 = .i st.2 ∧ σ.t 5 = .c (.ptr 5 u 0) ∧ σ.H 5 = some (.var u 38 [pc, .v (.s (.int .i64 st.1.opn)), .v (.s (.int .i64 st.1.first))])
set_option maxHeartbeats 1000000 in
theorem npS_ok (d : Dk) (hD : DOk d) : ACallsF Tryz.prog 52 [tDk d] [] (tPN (np d)) := by
  have hl := th_len hD
  refine ACallsF.intro ok52 follows fun X c0 => ?_
  simp only [go_sem]
  refine callC (thS_ok d hD) rfl rfl rfl rfl ?_
  simp only [go_sem]
  refine AW.upto (th d).length (inv52 d) ⟨⟨_, rfl, rfl⟩, ⟨_, rfl, rfl⟩, rfl, rfl, _, _, _, rfl, .inr ⟨rfl, rfl⟩, rfl, rfl, rfl⟩ fun i t H c hi h => ?_
  obtain ⟨⟨u1, e1, eH1⟩, ⟨u2, e2, eH2⟩, e4, e7, st, u5, pc, hst, hpc, e6, e5, eH5⟩ := h
  simp only [T.c, T.i, T.s, tL] at e1 eH1 e2 eH2 e4 e7 e6 e5 eH5
  by_cases hlt : i < (th d).length
  · obtain ⟨x, hx⟩ : ∃ x, (th d)[i]? = some x := ⟨_, List.getElem?_eq_getElem hlt⟩
    have ex := en_at eS hx
    have gx : (0 : Int) ≤ i := by omega
    have k5 : (i : Int) < (th d).length := by omega
    have gw : IntKind.i64.wrap ((i : Int) + 1) = ((i + 1 : Nat) : Int) := wrap64 (x := (i : Int) + 1) ⟨by omega, by omega⟩
    have hxs := th_size hD (List.mem_of_getElem? hx)
    have hf := foldl_take (npStep d) (zPl, 0) hx
    rw [← hst] at hf
    have hC := num43_ok x 109 (by omega)
    have hR := rdS_ok ((lk d x).getD ⟨#[]⟩) (by have := lk_size0 hD x; omega)
    rw [rdS_eq] at hR
    simp only [go_sem, e4, e7, k5, gx, ex, eS]
    refine callC hC rfl rfl rfl rfl ?_
    by_cases k1 : numOf 109 x > st.2
    · simp only [go_sem, e1, eH1, e4, e6, e7, k1, gx, ex, eS]
      refine callC (lkS_ok d hD x) rfl rfl rfl rfl ?_
      simp only [go_sem]
      refine callC hR rfl rfl rfl rfl ?_
      cases k2 : (rd ((lk d x).getD ⟨#[]⟩)).2 with
      | true =>
        have hs : npStep d st x = ((rd ((lk d x).getD ⟨#[]⟩)).1, numOf 109 x) := by rw [npStep, if_pos k1, if_pos k2]
        simp only [go_sem, k2, e5, eH5, e7, gw]
        exact ⟨hlt, ⟨u1, e1, eH1⟩, ⟨u2, e2, eH2⟩, e4, rfl, _, u5, _, by rw [hf, hs], .inl rfl, rfl, e5, rfl⟩
      | false =>
        have hs : npStep d st x = st := by rw [npStep, if_pos k1, if_neg (by rw [k2]; decide)]
        simp only [go_sem, k2, e7, gw]
        exact ⟨hlt, ⟨u1, e1, eH1⟩, ⟨u2, e2, eH2⟩, e4, rfl, st, u5, pc, by rw [hf, hs], hpc, e6, e5, eH5⟩
    · have hs : npStep d st x = st := by rw [npStep, if_neg k1]
      simp only [go_sem, e6, e7, k1, gw]
      exact ⟨hlt, ⟨u1, e1, eH1⟩, ⟨u2, e2, eH2⟩, e4, rfl, st, u5, pc, by rw [hf, hs], hpc, e6, e5, eH5⟩
  · have hi2 : i = (th d).length := by omega
    subst hi2
    have k5 : ¬ ((th d).length : Int) < (th d).length := by omega
    rw [List.take_length] at hst
    have hn : np d = st := hst.symm
    rw [hn]
    rcases hpc with rfl | ⟨rfl, hp0⟩
    · simp only [go_sem, e2, eH2, e4, e7, k5, e5, eH5, e6]
    · simp only [go_sem, e2, eH2, e4, e7, k5, e5, eH5, e6, hp0]
def ok102 := okF.gu (P := Tryz.prog) tab Tryz.func102 Tryz.ntmps102 (by conv => lhs; cbv) (by kernel_rfl)
def inv102 (d : Dk) (i : Nat) (σ : St) : Prop := (∃ u, σ.t 1 = .c (.ptr 1 u 0) ∧ σ.H 1 = some (.var u 29 (cDk d))) ∧ (∃ u, σ.t 2 = .c (.ptr 2 u 0) ∧ σ.H 2 = some (.var u 38 [.nil0, .v (.s (.int .i64 0)), .v (.s (.int .i64 0))])) ∧ σ.t 15 = tL (en eS (th d)) ∧ σ.t 16 = .i (th d).length ∧ σ.t 17 = .i i ∧
  ∃ st u pc, st = ((th d).take i).foldl (npStep d) (zPl, 0) ∧ plC pc st.1 ∧ σ.t 5 = .i st.2 ∧ σ.t 4 = .c (.ptr 4 u 0) ∧ σ.H 4 = some (.var u 38 [pc, .v (.s (.int .i64 st.1.opn)), .v (.s (.int .i64 st.1.first))])
set_option maxHeartbeats 1000000 in
theorem npI_ok (d : Dk) (hD : DOk d) : ACallsF Tryz.prog 102 [tDk d] [] (tPN (np d)) := by
  have hl := th_len hD
  refine ACallsF.intro ok102 follows fun X c0 => ?_
  simp only [go_sem]
  refine callC (thI_ok d hD) rfl rfl rfl rfl ?_
  simp only [go_sem]
  refine AW.upto (th d).length (inv102 d) ⟨⟨_, rfl, rfl⟩, ⟨_, rfl, rfl⟩, rfl, rfl, rfl, _, _, _, rfl, .inr ⟨rfl, rfl⟩, rfl, rfl, rfl⟩ fun i t H c hi h => ?_
  obtain ⟨⟨u1, e1, eH1⟩, ⟨u2, e2, eH2⟩, e15, e16, e17, st, u4, pc, hst, hpc, e5, e4, eH4⟩ := h
  simp only [T.c, T.i, T.s, tL] at e1 eH1 e2 eH2 e15 e16 e17 e5 e4 eH4
  by_cases hlt : i < (th d).length
  · obtain ⟨x, hx⟩ : ∃ x, (th d)[i]? = some x := ⟨_, List.getElem?_eq_getElem hlt⟩
    have ex := en_at eS hx
    have gx : (0 : Int) ≤ i := by omega
    have k5 : (i : Int) < (th d).length := by omega
    have gw : IntKind.i64.wrap ((i : Int) + 1) = ((i + 1 : Nat) : Int) := wrap64 (x := (i : Int) + 1) ⟨by omega, by omega⟩
    have hxs := th_size hD (List.mem_of_getElem? hx)
    have hf := foldl_take (npStep d) (zPl, 0) hx
    rw [← hst] at hf
    have hC := numI_ok x 109 (by omega)
    have hR := rdI_ok ((lk d x).getD ⟨#[]⟩) (by have := lk_size0 hD x; omega)
    have hre : rdI ((lk d x).getD ⟨#[]⟩) = rd ((lk d x).getD ⟨#[]⟩) := rfl
    rw [hre] at hR
    simp only [go_sem, e15, e16, e17, k5, gx, ex, eS]
    refine callC hC rfl rfl rfl rfl ?_
    by_cases k1 : numOf 109 x > st.2
    · simp only [go_sem, e1, eH1, e5, k1]
      refine callC (lkI_ok d hD x) rfl rfl rfl rfl ?_
      simp only [go_sem]
      refine callC hR rfl rfl rfl rfl ?_
      cases k2 : (rd ((lk d x).getD ⟨#[]⟩)).2 with
      | true =>
        have hs : npStep d st x = ((rd ((lk d x).getD ⟨#[]⟩)).1, numOf 109 x) := by rw [npStep, if_pos k1, if_pos k2]
        simp only [go_sem, k2, e4, eH4, e17, gw]
        exact ⟨hlt, ⟨u1, e1, eH1⟩, ⟨u2, e2, eH2⟩, e15, e16, rfl, _, u4, _, by rw [hf, hs], .inl rfl, rfl, e4, rfl⟩
      | false =>
        have hs : npStep d st x = st := by rw [npStep, if_pos k1, if_neg (by rw [k2]; decide)]
        simp only [go_sem, k2, e17, gw]
        exact ⟨hlt, ⟨u1, e1, eH1⟩, ⟨u2, e2, eH2⟩, e15, e16, rfl, st, u4, pc, by rw [hf, hs], hpc, e5, e4, eH4⟩
    · have hs : npStep d st x = st := by rw [npStep, if_neg k1]
      simp only [go_sem, e5, e17, k1, gw]
      exact ⟨hlt, ⟨u1, e1, eH1⟩, ⟨u2, e2, eH2⟩, e15, e16, rfl, st, u4, pc, by rw [hf, hs], hpc, e5, e4, eH4⟩
  · have hi2 : i = (th d).length := by omega
    subst hi2
    have k5 : ¬ ((th d).length : Int) < (th d).length := by omega
    rw [List.take_length] at hst
    have hn : np d = st := hst.symm
    rw [hn]
    rcases hpc with rfl | ⟨rfl, hp0⟩
    · simp only [go_sem, e2, eH2, e15, e16, e17, k5, e4, eH4, e5]
    · simp only [go_sem, e2, eH2, e15, e16, e17, k5, e4, eH4, e5, hp0]
end Go.V
set_option linter.unusedSimpArgs false
set_option maxRecDepth 20000
namespace Go.V
open Go.Proofs
/-! A closed segment. -/
def posOk (nx : Int) : Int → List LR → Bool
  | _, [] => true
  | lo, r :: l => decide (lo ≤ r.pos) && decide (r.pos < nx) && posOk nx (r.pos + 1) l
/-- The records of a closed segment, if it is not lost. -/
def prt (d : Dk) (p : LP) : Option (List LR) := match lk d (seg p.num) with
  | none => none
  | some x => if (x.size : Int) < p.size then none else
    if ((frames (x.extract 0 p.size.toNat)).2 : Int) = p.size ∧ posOk p.next p.first (frames (x.extract 0 p.size.toNat)).1 = true then some (frames (x.extract 0 p.size.toNat)).1 else none
abbrev tRB (x : List LR × Bool) : T := .tup [.one (.v (.sl (en eR x.1))), .one (.v (.s (.bool x.2)))]
def partR (d : Dk) (p : LP) (x : List LR × Bool) : Prop := prt d p = if x.2 = true then some x.1 else none
theorem i64_of {n : Int} (h : 0 ≤ n ∧ n ≤ 1000000) : i64 n := ⟨by omega, by omega⟩
def ok53 := okF.gu (P := Tryz.prog) tab Tryz.func53 Tryz.ntmps53 (by conv => lhs; cbv) (by kernel_rfl)
def inv53 (p : LP) (ls : List LR) (i : Nat) (σ : St) : Prop := (∃ u, σ.t 3 = .c (.ptr 3 u 0) ∧ σ.H 3 = some (.var u 100 ((eP p).map .v))) ∧ σ.t 8 = tL (en eR ls) ∧ σ.t 11 = .i i ∧ ∃ lo : Int, 0 ≤ lo ∧ lo ≤ 1000001 ∧ posOk p.next p.first ls = posOk p.next lo (ls.drop i) ∧ σ.t 10 = .i lo
set_option maxHeartbeats 1000000 in
theorem partS_ok (d : Dk) (hD : DOk d) (p : LP) (hp : LPok p) : PC 53 [tDk d, tLP p] (partR d p) tRB := by
  obtain ⟨p1, p2, p3, p4⟩ := hp
  have f1 := fits1 115 p.num (i64_of ⟨by omega, by omega⟩)
  have hL := lkS_ok d hD (seg p.num)
  have hsz := fun x => lk_size hD (nm := seg p.num) (x := x)
  obtain ⟨k, hk⟩ : ∃ k : Nat, p.size = k := ⟨p.size.toNat, (Int.toNat_of_nonneg p4.1).symm⟩
  refine PC.intro ok53 rfl (fun _ => rfl) fun X => ?_
  simp only [go_sem]
  refine callC (decI p.num ⟨by omega, by omega⟩) rfl rfl rfl rfl ?_
  simp only [go_sem, sStr, f1]
  have hs0 : (⟨#[115]⟩ : ByteArray) ++ dc p.num = seg p.num := rfl
  rw [hs0]
  refine callC hL rfl rfl rfl rfl ?_
  cases hlk : lk d (seg p.num) with
  | none =>
    have e : prt d p = none := by rw [prt, hlk]
    simp only [go_sem, Option.isSome_none, Option.getD_none]
    refine ES.mk ([], false) e ?_
    simp only [go_sem]
  | some x =>
    have hxs := hsz x hlk
    by_cases k1 : (x.size : Int) < p.size
    · have e : prt d p = none := by rw [prt, hlk]; exact if_pos k1
      simp only [go_sem, Option.isSome_some, Option.getD_some, k1]
      refine ES.mk ([], false) e ?_
      simp only [go_sem]
    have y1 : (0 : Int) ≤ p.size := p4.1
    have y2 : p.size ≤ x.size := by omega
    have hfl := frames_le (x.extract 0 p.size.toNat)
    have hF := framesS_ok (x.extract 0 p.size.toNat) (by rw [ByteArray.size_extract]; omega)
    have hpt : prt d p = if ((frames (x.extract 0 p.size.toNat)).2 : Int) = p.size ∧ posOk p.next p.first (frames (x.extract 0 p.size.toNat)).1 = true then some (frames (x.extract 0 p.size.toNat)).1 else none := by rw [prt, hlk]; exact if_neg k1
    simp only [go_sem, Option.isSome_some, Option.getD_some, k1, lohi, KI, y1, y2]
    refine callC hF rfl rfl rfl rfl ?_
    have hxe : (x.extract 0 p.size.toNat).size ≤ x.size := by rw [ByteArray.size_extract]; omega
    generalize hfr : frames (x.extract 0 p.size.toNat) = fr at *
    obtain ⟨ls, n⟩ := fr
    simp only at hfl hpt
    by_cases k2 : ((n : Int) != p.size) = true
    · have e : prt d p = none := hpt.trans (if_neg fun h => (bne_iff_ne.1 k2) h.1)
      simp only [go_sem, k2]
      refine ES.mk (ls, false) e ?_
      simp only [go_sem]
    have k2' : (n : Int) = p.size := Classical.byContradiction fun h => k2 (bne_iff_ne.2 h)
    rw [Bool.not_eq_true] at k2
    simp only [go_sem, k2]
    have hll : ls.length ≤ 20000 := by omega
    refine AW.upto ls.length (inv53 p ls) ⟨⟨_, rfl, rfl⟩, rfl, rfl, p.first, by omega, by omega, rfl, rfl⟩ fun i t H c hi h => ?_
    obtain ⟨⟨u3, e3, eH3⟩, e8, e11, lo, hlo, hlo2, hpo, e10⟩ := h
    simp only [T.c, T.i, T.s, tL, eP, List.map_cons, List.map_nil] at e3 eH3 e8 e11 e10
    by_cases hlt : i < ls.length
    · obtain ⟨r, hr⟩ : ∃ r, ls[i]? = some r := ⟨_, List.getElem?_eq_getElem hlt⟩
      have er := en_at eR hr
      have gx : (0 : Int) ≤ i := by omega
      have k5 : (i : Int) < ls.length := by omega
      have gw : IntKind.i64.wrap ((i : Int) + 1) = ((i + 1 : Nat) : Int) := wrap64 (x := (i : Int) + 1) ⟨by omega, by omega⟩
      obtain ⟨r1, r2, _⟩ := hfl.2.2 r (List.mem_of_getElem? hr)
      have gr : IntKind.i64.wrap (r.pos + 1) = r.pos + 1 := wrap64 ⟨by omega, by omega⟩
      rw [drop_at hr, posOk] at hpo
      by_cases k6 : r.pos < lo
      · have k6' : ¬ lo ≤ r.pos := by omega
        rw [decide_eq_false k6', Bool.false_and, Bool.false_and] at hpo
        have e : prt d p = none := hpt.trans (if_neg fun h => by rw [hpo] at h; exact absurd h.2 (by decide))
        simp only [go_sem, e8, e11, e10, k5, gx, er, eR, k6]
        refine ES.mk (ls, false) e ?_
        simp only [go_sem]
      have k6' : lo ≤ r.pos := by omega
      rw [decide_eq_true k6', Bool.true_and] at hpo
      by_cases k7 : r.pos ≥ p.next
      · have k7' : ¬ r.pos < p.next := by omega
        rw [decide_eq_false k7', Bool.false_and] at hpo
        have e : prt d p = none := hpt.trans (if_neg fun h => by rw [hpo] at h; exact absurd h.2 (by decide))
        simp only [go_sem, e8, e11, e10, e3, eH3, k5, gx, er, eR, k6, k7]
        refine ES.mk (ls, false) e ?_
        simp only [go_sem]
      have k7' : r.pos < p.next := by omega
      rw [decide_eq_true k7', Bool.true_and] at hpo
      simp only [go_sem, e8, e11, e10, e3, eH3, k5, gx, er, eR, k6, k7, gr, gw]
      exact ⟨hlt, ⟨u3, e3, eH3⟩, e8, rfl, r.pos + 1, by omega, by omega, hpo, rfl⟩
    · have hi2 : i = ls.length := by omega
      subst hi2
      have k5 : ¬ (ls.length : Int) < ls.length := by omega
      rw [List.drop_length, posOk] at hpo
      have e : prt d p = some ls := hpt.trans (if_pos ⟨k2', hpo⟩)
      simp only [go_sem, e8, e11, k5]
      refine ES.mk (ls, true) e ?_
      simp only [go_sem]
def ok103 := okF.gu (P := Tryz.prog) tab Tryz.func103 Tryz.ntmps103 (by conv => lhs; cbv) (by kernel_rfl)
def inv103 (p : LP) (ls : List LR) (n : Nat) (i : Nat) (σ : St) : Prop := (∃ u, σ.t 3 = .c (.ptr 3 u 0) ∧ σ.H 3 = some (.var u 100 ((eP p).map .v))) ∧ σ.t 8 = tL (en eR ls) ∧ σ.t 9 = .i n ∧ σ.t 40 = tL (en eR ls) ∧ σ.t 41 = .i ls.length ∧ σ.t 42 = .i i ∧ ∃ lo : Int, 0 ≤ lo ∧ lo ≤ 1000001 ∧ posOk p.next p.first ls = posOk p.next lo (ls.drop i) ∧ σ.t 10 = .i lo
set_option maxHeartbeats 1000000 in
theorem partI_ok (d : Dk) (hD : DOk d) (p : LP) (hp : LPok p) : PC 103 [tDk d, tLP p] (partR d p) tRB := by
  obtain ⟨p1, p2, p3, p4⟩ := hp
  have hL := lkI_ok d hD (seg p.num)
  have hsz := fun x => lk_size hD (nm := seg p.num) (x := x)
  obtain ⟨k, hk⟩ : ∃ k : Nat, p.size = k := ⟨p.size.toNat, (Int.toNat_of_nonneg p4.1).symm⟩
  refine PC.intro ok103 rfl (fun _ => rfl) fun X => ?_
  simp only [go_sem]
  refine callC (seg_ok p.num (i64_of ⟨by omega, by omega⟩)) rfl rfl rfl rfl ?_
  simp only [go_sem]
  refine callC hL rfl rfl rfl rfl ?_
  cases hlk : lk d (seg p.num) with
  | none =>
    have e : prt d p = none := by rw [prt, hlk]
    simp only [go_sem, Option.isSome_none, Option.getD_none]
    refine ES.mk ([], false) e ?_
    simp only [go_sem]
  | some x =>
    have hxs := hsz x hlk
    by_cases k1 : (x.size : Int) < p.size
    · have e : prt d p = none := by rw [prt, hlk]; exact if_pos k1
      simp only [go_sem, Option.isSome_some, Option.getD_some, k1]
      refine ES.mk ([], false) e ?_
      simp only [go_sem]
    have y1 : (0 : Int) ≤ p.size := p4.1
    have y2 : p.size ≤ x.size := by omega
    have hfl := frames_le (x.extract 0 p.size.toNat)
    have hF := framesI_ok (x.extract 0 p.size.toNat) (by rw [ByteArray.size_extract]; omega)
    have hpt : prt d p = if ((frames (x.extract 0 p.size.toNat)).2 : Int) = p.size ∧ posOk p.next p.first (frames (x.extract 0 p.size.toNat)).1 = true then some (frames (x.extract 0 p.size.toNat)).1 else none := by rw [prt, hlk]; exact if_neg k1
    simp only [go_sem, Option.isSome_some, Option.getD_some, k1, lohi, KI, y1, y2]
    refine callC hF rfl rfl rfl rfl ?_
    have hxe : (x.extract 0 p.size.toNat).size ≤ x.size := by rw [ByteArray.size_extract]; omega
    generalize hfr : frames (x.extract 0 p.size.toNat) = fr at *
    obtain ⟨ls, n⟩ := fr
    simp only at hfl hpt
    have hll : ls.length ≤ 20000 := by omega
    simp only [go_sem]
    refine AW.upto ls.length (inv103 p ls n) ⟨⟨_, rfl, rfl⟩, rfl, rfl, rfl, rfl, rfl, p.first, by omega, by omega, rfl, rfl⟩ fun i t H c hi h => ?_
    obtain ⟨⟨u3, e3, eH3⟩, e8, e9, e40, e41, e42, lo, hlo, hlo2, hpo, e10⟩ := h
    simp only [T.c, T.i, T.s, tL, eP, List.map_cons, List.map_nil] at e3 eH3 e8 e9 e40 e41 e42 e10
    by_cases hlt : i < ls.length
    · obtain ⟨r, hr⟩ : ∃ r, ls[i]? = some r := ⟨_, List.getElem?_eq_getElem hlt⟩
      have er := en_at eR hr
      have gx : (0 : Int) ≤ i := by omega
      have k5 : (i : Int) < ls.length := by omega
      have gw : IntKind.i64.wrap ((i : Int) + 1) = ((i + 1 : Nat) : Int) := wrap64 (x := (i : Int) + 1) ⟨by omega, by omega⟩
      obtain ⟨r1, r2, _⟩ := hfl.2.2 r (List.mem_of_getElem? hr)
      have gr : IntKind.i64.wrap (r.pos + 1) = r.pos + 1 := wrap64 ⟨by omega, by omega⟩
      have gn : IntKind.i64.wrap (p.next - 1) = p.next - 1 := wrap64 ⟨by omega, by omega⟩
      rw [drop_at hr, posOk] at hpo
      simp only [go_sem, e40, e41, e42, e10, e3, eH3, k5, gx, er, eR, gn]
      refine callC (inRange_ok _ _ _) rfl rfl rfl rfl ?_
      by_cases k6 : (decide (lo ≤ r.pos) && decide (r.pos ≤ p.next - 1)) = true
      · have k6' := k6
        rw [Bool.and_eq_true, decide_eq_true_eq, decide_eq_true_eq] at k6'
        rw [decide_eq_true k6'.1, decide_eq_true (show r.pos < p.next by omega), Bool.true_and, Bool.true_and] at hpo
        simp only [go_sem, k6, e42, gr, gw]
        exact ⟨hlt, ⟨u3, e3, eH3⟩, e8, e9, e40, e41, rfl, r.pos + 1, by omega, by omega, hpo, rfl⟩
      · have hpf : posOk p.next p.first ls = false := by
          rw [hpo]
          by_cases h1 : lo ≤ r.pos
          · by_cases h2 : r.pos < p.next
            · exact absurd (by rw [Bool.and_eq_true, decide_eq_true_eq, decide_eq_true_eq]; exact ⟨h1, by omega⟩) k6
            · rw [decide_eq_false h2, Bool.and_false, Bool.false_and]
          · rw [decide_eq_false h1, Bool.false_and, Bool.false_and]
        rw [Bool.not_eq_true] at k6
        have e : prt d p = none := hpt.trans (if_neg fun h => by rw [hpf] at h; exact absurd h.2 (by decide))
        simp only [go_sem, k6]
        refine ES.mk ([], false) e ?_
        simp only [go_sem]
    · have hi2 : i = ls.length := by omega
      subst hi2
      have k5 : ¬ (ls.length : Int) < ls.length := by omega
      rw [List.drop_length, posOk] at hpo
      have e : partR d p (ls, (n : Int) == p.size) := by
        unfold partR
        rw [hpt]
        by_cases hn : (n : Int) = p.size
        · rw [if_pos ⟨hn, hpo⟩, if_pos (by simp [hn])]
        · rw [if_neg fun h => hn h.1, if_neg (by simp [hn])]
      simp only [go_sem, e8, e9, e40, e41, e42, e3, eH3, k5]
      refine ES.mk (ls, (n : Int) == p.size) e ?_
      simp only [go_sem]
end Go.V
set_option linter.unusedSimpArgs false
set_option maxRecDepth 20000
namespace Go.V
open Go.Proofs
/-! What a disk's log says. -/
structure Ls where
  code : Int
  num : Int
  plan : Pl
  size : Int
  torn : Bool
  next : Int
  recs : List LR
def zLs (c : Int) : Ls := ⟨c, 0, zPl, 0, false, 0, []⟩
abbrev cLs (s : Ls) : List C := [.v (.s (.int .i64 s.code)), .v (.s (.int .i64 s.num)), .v (.sl (en eP s.plan.parts)), .v (.s (.int .i64 s.plan.opn)), .v (.s (.int .i64 s.plan.first)), .v (.s (.int .i64 s.size)), .v (.s (.bool s.torn)), .v (.s (.int .i64 s.next)), .v (.sl (en eR s.recs))]
abbrev tLs (s : Ls) : T := .pt (.agg (cLs s))
/-- The records of all closed segments, if none is lost. -/
def prts (d : Dk) : List LP → Option (List LR)
  | [] => some []
  | p :: ps => match prt d p with
    | none => none
    | some l => (prts d ps).map (l ++ ·)
def posRun : Int → List LR → Bool
  | _, [] => true
  | lo, r :: l => decide (r.pos = lo) && posRun (lo + 1) l
def opn (d : Dk) : Ls := if (np d).2 = 0 then zLs 1 else match prts d (np d).1.parts with
  | none => zLs 2
  | some recs => match lk d (seg (np d).1.opn) with
    | none => zLs 2
    | some x => if posRun (np d).1.first (frames x).1 = true then ⟨0, (np d).2, (np d).1, (frames x).2, decide (((frames x).2 : Int) < x.size), (np d).1.first + (frames x).1.length, recs ++ (frames x).1⟩ else zLs 2
theorem prt_len {d : Dk} (hD : DOk d) {p : LP} {l : List LR} (h : prt d p = some l) : l.length ≤ 20000 := by
  unfold prt at h
  split at h
  · cases h
  · rename_i x hx
    have hxs := lk_size hD hx
    split at h
    · cases h
    · split at h
      · cases h
        have := frames_le (x.extract 0 p.size.toNat)
        have hxe : (x.extract 0 p.size.toNat).size ≤ x.size := by rw [ByteArray.size_extract]; omega
        omega
      · cases h
abbrev zC : List C := [.v (.s (.int .i64 0)), .v (.s (.int .i64 0)), .nil0, .v (.s (.int .i64 0)), .v (.s (.int .i64 0)), .v (.s (.int .i64 0)), .v (.s (.bool false)), .v (.s (.int .i64 0)), .nil0]
def Hd20 (d : Dk) (σ : St) : Prop := (∃ u, σ.t 1 = .c (.ptr 1 u 0) ∧ σ.H 1 = some (.var u 29 (cDk d))) ∧ (∃ u, σ.t 2 = .c (.ptr 2 u 0) ∧ σ.H 2 = some (.var u 41 zC)) ∧ (∃ u, σ.t 3 = .c (.ptr 3 u 0) ∧ σ.H 3 = some (.var u 38 (cPl (np d).1)))
abbrev oC9 (d : Dk) (nx : Int) (m v n : Nat) : List C := [.v (.s (.int .i64 0)), .v (.s (.int .i64 (np d).2)), .v (.sl (en eP (np d).1.parts)), .v (.s (.int .i64 (np d).1.opn)), .v (.s (.int .i64 (np d).1.first)), .v (.s (.int .i64 0)), .v (.s (.bool false)), .v (.s (.int .i64 nx)), .own m v n]
def ok20 := okF.gu (P := Tryz.prog) tab Tryz.func20 Tryz.ntmps20 (by conv => lhs; cbv) (by kernel_rfl)
def inv20 (d : Dk) (i : Nat) (σ : St) : Prop := Hd20 d σ ∧ σ.t 6 = .i i ∧ ∃ (acc : List LR) (u v : Nat), acc.length ≤ 20000 * i ∧ prts d (np d).1.parts = (prts d ((np d).1.parts.drop i)).map (acc ++ ·) ∧ σ.t 5 = .c (.ptr 5 u 0) ∧ σ.H 5 = some (.var u 41 (oC9 d 0 2052 v acc.length)) ∧ σ.H 2052 = some (.arr v true 2 52 (en eR acc))
def inv20b (d : Dk) (x : ByteArray) (acc ls : List LR) (n : Nat) (i : Nat) (σ : St) : Prop := Hd20 d σ ∧ σ.t 9 = tS x ∧ σ.t 11 = tL (en eR ls) ∧ σ.t 12 = .i n ∧ σ.t 13 = .i i ∧ posRun (np d).1.first ls = posRun ((np d).1.first + i) (ls.drop i) ∧ ∃ (u v : Nat), σ.t 5 = .c (.ptr 5 u 0) ∧ σ.H 5 = some (.var u 41 (oC9 d 0 2052 v acc.length)) ∧ σ.H 2052 = some (.arr v true 2 52 (en eR acc))
set_option maxHeartbeats 2000000 in
theorem opnS_ok (d : Dk) (hD : DOk d) : ACallsF Tryz.prog 20 [tDk d] [] (tLs (opn d)) := by
  obtain ⟨b, hb, hC⟩ := okS_ok d hD.fine
  rw [hb.2 hD] at hC
  have hnp := np_ok d
  refine ACallsF.intro ok20 follows fun X c0 => ?_
  generalize hR : opn d = R
  simp only [go_sem]
  refine callC hC rfl rfl rfl rfl ?_
  simp only [go_sem]
  refine callC (npS_ok d hD) rfl rfl rfl rfl ?_
  by_cases k0 : (np d).2 = 0
  · have e : R = zLs 1 := by rw [← hR, opn, if_pos k0]
    subst e
    simp only [go_sem, k0]
    rfl
  have k0' : ((np d).2 == 0) = false := beq_eq_false_iff_ne.2 k0
  obtain ⟨ho, hn1, hn2⟩ : planOk (np d).1 = true ∧ 1 ≤ (np d).2 ∧ (np d).2 ≤ 999999 := by
    rcases hnp with ⟨_, h⟩ | h
    · exact absurd h k0
    · exact h
  obtain ⟨hl40, hparts, hopn, hfirst⟩ := planOk_ok ho
  have hopnd : opn d = _ := if_neg k0
  rw [hR] at hopnd
  simp only [go_sem, k0']
  refine AW.reify 5 8 2052 2 52 rfl rfl rfl (by decide) ?_
  refine AW.upto (np d).1.parts.length (inv20 d) ⟨⟨⟨_, rfl, rfl⟩, ⟨_, rfl, rfl⟩, ⟨_, rfl, rfl⟩⟩, rfl, [], _, _, Nat.zero_le _, by rw [List.drop_zero]; cases prts d (np d).1.parts <;> rfl, rfl, rfl, rfl⟩ fun i t H c hi h => ?_
  obtain ⟨⟨⟨u1, e1, eH1⟩, ⟨u2, e2, eH2⟩, ⟨u3, e3, eH3⟩⟩, e6, acc, u5, v, hacc, hpr, e5, eH5, eH52⟩ := h
  simp only [T.c, T.i] at e1 eH1 e2 eH2 e3 eH3 e6 e5 eH5 eH52
  have ht : List.take acc.length (en eR acc) = en eR acc := en_take eR acc
  by_cases hlt : i < (np d).1.parts.length
  · obtain ⟨p, hp⟩ : ∃ p, (np d).1.parts[i]? = some p := ⟨_, List.getElem?_eq_getElem hlt⟩
    have ep := en_at eP hp
    have gx : (0 : Int) ≤ i := by omega
    have k5 : (i : Int) < (np d).1.parts.length := by omega
    have gw : IntKind.i64.wrap ((i : Int) + 1) = ((i + 1 : Nat) : Int) := wrap64 (x := (i : Int) + 1) ⟨by omega, by omega⟩
    obtain ⟨⟨ls, b⟩, hx, hP⟩ := partS_ok d hD p (hparts p (List.mem_of_getElem? hp))
    unfold partR at hx
    rw [drop_at hp, prts] at hpr
    simp only [go_sem, e1, eH1, e3, eH3, e6, k5, gx, ep, eP]
    refine callC hP rfl rfl rfl rfl ?_
    cases b with
    | false =>
      simp only [Bool.false_eq_true, if_false] at hx
      rw [hx] at hpr
      rw [hpr] at hopnd
      have e : R = zLs 2 := hopnd
      subst e
      simp only [go_sem, e2, eH2]
      rfl
    | true =>
      rw [if_pos rfl] at hx
      rw [hx] at hpr
      simp only at hpr hx
      have hll := prt_len hD hx
      have q1 : (acc.length + ls.length) * 24 ≤ 140737488355328 := by omega
      have q2 : acc.length + ls.length ≤ 9223372036854775807 := by omega
      simp only [go_sem, e5, eH5, eH52, ht, q1, q2, e6, gw]
      have heq : en eR (acc ++ ls) = en eR acc ++ en eR ls := by simp only [en, List.map_append]
      have hpr2 : prts d (np d).1.parts = (prts d ((np d).1.parts.drop (i + 1))).map (acc ++ ls ++ ·) := by
        rw [hpr, Option.map_map]
        congr 1
        funext l
        simp
      refine ⟨hlt, ⟨⟨u1, e1, eH1⟩, ⟨u2, e2, eH2⟩, ⟨u3, e3, eH3⟩⟩, rfl, acc ++ ls, u5, c + 5 + 12 + 2 + 3, by rw [List.length_append]; omega, hpr2, e5, ?_, ?_⟩
      · rw [List.length_append]; rfl
      · rw [heq]; rfl
  · have hi2 : i = (np d).1.parts.length := by omega
    subst hi2
    have k5 : ¬ ((np d).1.parts.length : Int) < (np d).1.parts.length := by omega
    rw [List.drop_length, prts, Option.map_some, List.append_nil] at hpr
    rw [hpr] at hopnd
    simp only at hopnd
    have f1 := fits1 115 (np d).1.opn (i64_of ⟨by omega, by omega⟩)
    simp only [go_sem, e6, e3, eH3, k5, e1, eH1]
    refine callC (decI (np d).1.opn ⟨by omega, by omega⟩) rfl rfl rfl rfl ?_
    simp only [go_sem, sStr, f1]
    have hs0 : (⟨#[115]⟩ : ByteArray) ++ dc (np d).1.opn = seg (np d).1.opn := rfl
    rw [hs0]
    refine callC (lkS_ok d hD (seg (np d).1.opn)) rfl rfl rfl rfl ?_
    cases hlk : lk d (seg (np d).1.opn) with
    | none =>
      rw [hlk] at hopnd
      have e : R = zLs 2 := hopnd
      subst e
      simp only [go_sem, Option.isSome_none, Option.getD_none, e2, eH2]
      rfl
    | some x =>
      rw [hlk] at hopnd
      simp only at hopnd
      have hxs := lk_size hD hlk
      have hfl := frames_le x
      simp only [go_sem, Option.isSome_some, Option.getD_some]
      refine callC (framesS_ok x (by omega)) rfl rfl rfl rfl ?_
      generalize hfr : frames x = fr at *
      obtain ⟨ls, n⟩ := fr
      simp only at hfl hopnd
      simp only [go_sem]
      refine AW.upto ls.length (inv20b d x acc ls n) ⟨⟨⟨u1, e1, eH1⟩, ⟨u2, e2, eH2⟩, ⟨u3, e3, eH3⟩⟩, rfl, rfl, rfl, rfl, by rw [List.drop_zero]; congr 1; omega, u5, v, e5, eH5, eH52⟩ fun i t H c hi h => ?_
      clear e1 eH1 e2 eH2 e3 eH3 e6 e5 eH5 eH52 u1 u2 u3 u5 v
      obtain ⟨⟨⟨u1, e1, eH1⟩, ⟨u2, e2, eH2⟩, ⟨u3, e3, eH3⟩⟩, e9, e11, e12, e13, hrun, u5, v, e5, eH5, eH52⟩ := h
      simp only [T.c, T.i, T.s, tL] at e1 eH1 e2 eH2 e3 eH3 e9 e11 e12 e13 e5 eH5 eH52
      by_cases hlt : i < ls.length
      · obtain ⟨r, hr⟩ : ∃ r, ls[i]? = some r := ⟨_, List.getElem?_eq_getElem hlt⟩
        have er := en_at eR hr
        have gx : (0 : Int) ≤ i := by omega
        have k5 : (i : Int) < ls.length := by omega
        have gw : IntKind.i64.wrap ((i : Int) + 1) = ((i + 1 : Nat) : Int) := wrap64 (x := (i : Int) + 1) ⟨by omega, by omega⟩
        have gf : IntKind.i64.wrap ((np d).1.first + (i : Int)) = (np d).1.first + i := wrap64 ⟨by omega, by omega⟩
        rw [drop_at hr, posRun] at hrun
        by_cases k6 : r.pos = (np d).1.first + i
        · have k6' : (r.pos != (np d).1.first + i) = false := by rw [k6]; simp
          rw [decide_eq_true k6, Bool.true_and] at hrun
          simp only [go_sem, e11, e13, e3, eH3, k5, gx, er, eR, gf, k6', gw]
          refine ⟨hlt, ⟨⟨u1, e1, eH1⟩, ⟨u2, e2, eH2⟩, ⟨u3, e3, eH3⟩⟩, e9, e11, e12, rfl, ?_, u5, v, e5, eH5, eH52⟩
          rw [hrun]; congr 1; omega
        · have k6' : (r.pos != (np d).1.first + i) = true := bne_iff_ne.2 k6
          rw [decide_eq_false k6, Bool.false_and] at hrun
          have e : R = zLs 2 := hopnd.trans (if_neg (by rw [hrun]; decide))
          subst e
          simp only [go_sem, e11, e13, e3, eH3, k5, gx, er, eR, gf, k6', e2, eH2]
          rfl
      · have hi2 : i = ls.length := by omega
        subst hi2
        have k5 : ¬ (ls.length : Int) < ls.length := by omega
        rw [List.drop_length, posRun] at hrun
        rw [if_pos hrun] at hopnd
        subst hopnd
        have q1 : (acc.length + ls.length) * 24 ≤ 140737488355328 := by omega
        have q2 : acc.length + ls.length ≤ 9223372036854775807 := by omega
        have gf : IntKind.i64.wrap ((np d).1.first + (ls.length : Int)) = (np d).1.first + ls.length := wrap64 ⟨by omega, by omega⟩
        have ht2 : List.take (acc.length + ls.length) (en eR acc ++ en eR ls) = en eR acc ++ en eR ls := List.take_of_length_le (by rw [List.length_append, en_len, en_len]; exact Nat.le_refl _)
        have heq : en eR (acc ++ ls) = en eR acc ++ en eR ls := by simp only [en, List.map_append]
        simp only [go_sem, e9, e11, e12, e13, k5, e3, eH3, e5, eH5, eH52, ht, q1, q2, gf, e2, eH2, ht2, heq]
end Go.V
set_option linter.unusedSimpArgs false
set_option maxRecDepth 20000
namespace Go.V
open Go.Proofs
def ok50 := okF.gu (P := Tryz.prog) tab Tryz.func50 Tryz.ntmps50 (by conv => lhs; cbv) (by kernel_rfl)
def inv50 (d : Dk) (i : Nat) (σ : St) : Prop := Hd20 d σ ∧ σ.t 30 = tL (en eP (np d).1.parts) ∧ σ.t 31 = .i (np d).1.parts.length ∧ σ.t 32 = .i i ∧ ∃ (acc : List LR) (u v : Nat), acc.length ≤ 20000 * i ∧ prts d (np d).1.parts = (prts d ((np d).1.parts.drop i)).map (acc ++ ·) ∧ σ.t 5 = .c (.ptr 5 u 0) ∧ σ.H 5 = some (.var u 41 (oC9 d (np d).1.first 2052 v acc.length)) ∧ σ.H 2052 = some (.arr v true 2 52 (en eR acc))
def inv50b (d : Dk) (x : ByteArray) (acc ls : List LR) (n : Nat) (i : Nat) (σ : St) : Prop := Hd20 d σ ∧ σ.t 10 = tS x ∧ σ.t 12 = tL (en eR ls) ∧ σ.t 13 = .i n ∧ σ.t 67 = tL (en eR ls) ∧ σ.t 68 = .i ls.length ∧ σ.t 69 = .i i ∧ posRun (np d).1.first ls = posRun ((np d).1.first + i) (ls.drop i) ∧ ∃ (u v : Nat), σ.t 5 = .c (.ptr 5 u 0) ∧ σ.H 5 = some (.var u 41 (oC9 d ((np d).1.first + i) 2052 v acc.length)) ∧ σ.H 2052 = some (.arr v true 2 52 (en eR acc))
set_option maxHeartbeats 2000000 in
theorem opnI_ok (d : Dk) (hD : DOk d) : ACallsF Tryz.prog 50 [tDk d] [] (tLs (opn d)) := by
  have hnp := np_ok d
  refine ACallsF.intro ok50 follows fun X c0 => ?_
  generalize hR : opn d = R
  simp only [go_sem]
  refine callC (npI_ok d hD) rfl rfl rfl rfl ?_
  by_cases k0 : (np d).2 = 0
  · have e : R = zLs 1 := by rw [← hR, opn, if_pos k0]
    subst e
    simp only [go_sem, k0]
    rfl
  have k0' : ((np d).2 == 0) = false := beq_eq_false_iff_ne.2 k0
  obtain ⟨ho, hn1, hn2⟩ : planOk (np d).1 = true ∧ 1 ≤ (np d).2 ∧ (np d).2 ≤ 999999 := by
    rcases hnp with ⟨_, h⟩ | h
    · exact absurd h k0
    · exact h
  obtain ⟨hl40, hparts, hopn, hfirst⟩ := planOk_ok ho
  have hopnd : opn d = _ := if_neg k0
  rw [hR] at hopnd
  simp only [go_sem, k0']
  refine AW.reify 5 8 2052 2 52 rfl rfl rfl (by decide) ?_
  refine AW.upto (np d).1.parts.length (inv50 d) ⟨⟨⟨_, rfl, rfl⟩, ⟨_, rfl, rfl⟩, ⟨_, rfl, rfl⟩⟩, rfl, rfl, rfl, [], _, _, Nat.zero_le _, by rw [List.drop_zero]; cases prts d (np d).1.parts <;> rfl, rfl, rfl, rfl⟩ fun i t H c hi h => ?_
  obtain ⟨⟨⟨u1, e1, eH1⟩, ⟨u2, e2, eH2⟩, ⟨u3, e3, eH3⟩⟩, e30, e31, e32, acc, u5, v, hacc, hpr, e5, eH5, eH52⟩ := h
  simp only [T.c, T.i, tL] at e1 eH1 e2 eH2 e3 eH3 e30 e31 e32 e5 eH5 eH52
  have ht : List.take acc.length (en eR acc) = en eR acc := en_take eR acc
  by_cases hlt : i < (np d).1.parts.length
  · obtain ⟨p, hp⟩ : ∃ p, (np d).1.parts[i]? = some p := ⟨_, List.getElem?_eq_getElem hlt⟩
    have ep := en_at eP hp
    have gx : (0 : Int) ≤ i := by omega
    have k5 : (i : Int) < (np d).1.parts.length := by omega
    have gw : IntKind.i64.wrap ((i : Int) + 1) = ((i + 1 : Nat) : Int) := wrap64 (x := (i : Int) + 1) ⟨by omega, by omega⟩
    obtain ⟨⟨ls, b⟩, hx, hP⟩ := partI_ok d hD p (hparts p (List.mem_of_getElem? hp))
    unfold partR at hx
    rw [drop_at hp, prts] at hpr
    simp only [go_sem, e1, eH1, e30, e31, e32, k5, gx, ep, eP]
    refine callC hP rfl rfl rfl rfl ?_
    cases b with
    | false =>
      simp only [Bool.false_eq_true, if_false] at hx
      rw [hx] at hpr
      rw [hpr] at hopnd
      have e : R = zLs 2 := hopnd
      subst e
      simp only [go_sem, e2, eH2]
      rfl
    | true =>
      rw [if_pos rfl] at hx
      rw [hx] at hpr
      simp only at hpr hx
      have hll := prt_len hD hx
      have q1 : (acc.length + ls.length) * 24 ≤ 140737488355328 := by omega
      have q2 : acc.length + ls.length ≤ 9223372036854775807 := by omega
      simp only [go_sem, e5, eH5, eH52, ht, q1, q2, e32, gw]
      have heq : en eR (acc ++ ls) = en eR acc ++ en eR ls := by simp only [en, List.map_append]
      have hpr2 : prts d (np d).1.parts = (prts d ((np d).1.parts.drop (i + 1))).map (acc ++ ls ++ ·) := by
        rw [hpr, Option.map_map]
        congr 1
        funext l
        simp
      refine ⟨hlt, ⟨⟨u1, e1, eH1⟩, ⟨u2, e2, eH2⟩, ⟨u3, e3, eH3⟩⟩, e30, e31, rfl, acc ++ ls, u5, c + 1 + 4 + 8 + 2 + 3, by rw [List.length_append]; omega, hpr2, e5, ?_, ?_⟩
      · rw [List.length_append]; rfl
      · rw [heq]; rfl
  · have hi2 : i = (np d).1.parts.length := by omega
    subst hi2
    have k5 : ¬ ((np d).1.parts.length : Int) < (np d).1.parts.length := by omega
    rw [List.drop_length, prts, Option.map_some, List.append_nil] at hpr
    rw [hpr] at hopnd
    simp only at hopnd
    simp only [go_sem, e30, e31, e32, e3, eH3, k5, e1, eH1]
    refine callC (seg_ok (np d).1.opn (i64_of ⟨by omega, by omega⟩)) rfl rfl rfl rfl ?_
    simp only [go_sem]
    refine callC (lkI_ok d hD (seg (np d).1.opn)) rfl rfl rfl rfl ?_
    cases hlk : lk d (seg (np d).1.opn) with
    | none =>
      rw [hlk] at hopnd
      have e : R = zLs 2 := hopnd
      subst e
      simp only [go_sem, Option.isSome_none, Option.getD_none, e2, eH2]
      rfl
    | some x =>
      rw [hlk] at hopnd
      simp only at hopnd
      have hxs := lk_size hD hlk
      have hfl := frames_le x
      simp only [go_sem, Option.isSome_some, Option.getD_some]
      refine callC (framesI_ok x (by omega)) rfl rfl rfl rfl ?_
      generalize hfr : frames x = fr at *
      obtain ⟨ls, n⟩ := fr
      simp only at hfl hopnd
      simp only [go_sem]
      refine AW.upto ls.length (inv50b d x acc ls n) ⟨⟨⟨u1, e1, eH1⟩, ⟨u2, e2, eH2⟩, ⟨u3, e3, eH3⟩⟩, rfl, rfl, rfl, rfl, rfl, rfl, by rw [List.drop_zero]; congr 1; omega, u5, v, e5, ?_, eH52⟩ fun i t H c hi h => ?_
      · have e0 : (np d).1.first + ((0 : Nat) : Int) = (np d).1.first := by omega
        rw [e0]; exact eH5
      clear e1 eH1 e2 eH2 e3 eH3 e30 e31 e32 e5 eH5 eH52 u1 u2 u3 u5 v
      obtain ⟨⟨⟨u1, e1, eH1⟩, ⟨u2, e2, eH2⟩, ⟨u3, e3, eH3⟩⟩, e10, e12, e13, e67, e68, e69, hrun, u5, v, e5, eH5, eH52⟩ := h
      simp only [T.c, T.i, T.s, tL] at e1 eH1 e2 eH2 e3 eH3 e10 e12 e13 e67 e68 e69 e5 eH5 eH52
      by_cases hlt : i < ls.length
      · obtain ⟨r, hr⟩ : ∃ r, ls[i]? = some r := ⟨_, List.getElem?_eq_getElem hlt⟩
        have er := en_at eR hr
        have gx : (0 : Int) ≤ i := by omega
        have k5 : (i : Int) < ls.length := by omega
        have gw : IntKind.i64.wrap ((i : Int) + 1) = ((i + 1 : Nat) : Int) := wrap64 (x := (i : Int) + 1) ⟨by omega, by omega⟩
        have gf : IntKind.i64.wrap ((np d).1.first + (i : Int) + 1) = (np d).1.first + ((i + 1 : Nat) : Int) := (wrap64 ⟨by omega, by omega⟩).trans (by omega)
        rw [drop_at hr, posRun] at hrun
        by_cases k6 : r.pos = (np d).1.first + i
        · have k6' : (r.pos != (np d).1.first + i) = false := by rw [k6]; simp
          rw [decide_eq_true k6, Bool.true_and] at hrun
          simp only [go_sem, e67, e68, e69, e5, eH5, k5, gx, er, eR, gf, k6', gw]
          refine ⟨hlt, ⟨⟨u1, e1, eH1⟩, ⟨u2, e2, eH2⟩, ⟨u3, e3, eH3⟩⟩, e10, e12, e13, e67, e68, rfl, ?_, u5, v, e5, rfl, eH52⟩
          rw [hrun]; congr 1; omega
        · have k6' : (r.pos != (np d).1.first + i) = true := bne_iff_ne.2 k6
          rw [decide_eq_false k6, Bool.false_and] at hrun
          have e : R = zLs 2 := hopnd.trans (if_neg (by rw [hrun]; decide))
          subst e
          simp only [go_sem, e67, e68, e69, e5, eH5, k5, gx, er, eR, gf, k6', e2, eH2]
          rfl
      · have hi2 : i = ls.length := by omega
        subst hi2
        have k5 : ¬ (ls.length : Int) < ls.length := by omega
        rw [List.drop_length, posRun] at hrun
        rw [if_pos hrun] at hopnd
        subst hopnd
        have q1 : (acc.length + ls.length) * 24 ≤ 140737488355328 := by omega
        have q2 : acc.length + ls.length ≤ 9223372036854775807 := by omega
        have ht2 : List.take (acc.length + ls.length) (en eR acc ++ en eR ls) = en eR acc ++ en eR ls := List.take_of_length_le (by rw [List.length_append, en_len, en_len]; exact Nat.le_refl _)
        have heq : en eR (acc ++ ls) = en eR acc ++ en eR ls := by simp only [en, List.map_append]
        simp only [go_sem, e10, e12, e13, e67, e68, e69, k5, e5, eH5, eH52, ht, q1, q2, e2, eH2, ht2, heq]
end Go.V

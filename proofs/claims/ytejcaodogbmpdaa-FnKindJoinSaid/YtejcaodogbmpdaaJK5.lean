/- It is proved that the law FnKindJoin returns true for every input and leaves its input as it was; no condition. -/
import Derived.Test.YtejcaodogbmpdaaJK4
set_option linter.unusedSimpArgs false
namespace Go.V
open Go.Proofs
def JR (a b k : Kd) (ok : Bool) : Prop := (ok = true ∧ Jn a b k) ∨ (ok = false ∧ ∀ k', ¬ Jn a b k')
abbrev JC (f : FuncId) (a b : Kd) : Prop := ∃ k ok, JR a b k ok ∧ KB 1000000 k ∧ ACallsF Try.prog f [tK a, tK b] [] (tKB (k, ok))
theorem bare_parts {d : Nat} {a : Kd} (h : KOk d a) : parts (bare a) ≤ parts a ∧ (a.sort = 6 → parts (bare a) < parts a) ∧ (∃ e, KOk e (bare a)) ∧ ∀ n, KB n a → KB n (bare a) := by
  refine ⟨?_, ?_, h.bare, fun n hn => hn.bare⟩
  all_goals
    obtain ⟨s, ns, ks⟩ := a
    by_cases hs : s = 6
    · subst hs
      obtain ⟨p, hp⟩ := one_at h.inv.2.1 (.inr rfl)
      have := partsL_mem (List.mem_of_getElem? hp)
      rw [bare_6 hp]
      simp only [parts]
      omega
    · rw [bare_n hs]
      simp [Kd.sort, hs]
theorem JR.bare {a b k : Kd} {ok : Bool} (h : a.sort = 6 ∨ b.sort = 6) (hj : JR (bare a) (bare b) k ok) : JR a b (.mk 6 [] [k]) ok := by
  rcases hj with ⟨h1, h2⟩ | ⟨h1, h2⟩
  · exact .inl ⟨h1, .m a b k h h2⟩
  · refine .inr ⟨h1, fun k' hk => ?_⟩
    cases hk with
    | m _ _ x _ hx => exact h2 x hx
    | l => simp [Kd.sort] at h
    | leaf s _ _ _ _ hs => simp [Kd.sort] at h; omega
    | f => simp [Kd.sort] at h
theorem KB.may {n : Nat} (hn : 1 ≤ n) (s : Int) {k : Kd} (h : KB n k) : KB n (.mk s [] [k]) :=
  .mk _ _ _ (by simp) (by simpa using hn) (fun x hx => by cases hx) fun x hx => by rw [List.mem_singleton.1 hx]; exact h
/- loop.example/teagle/spec.l3Join -/
def r66_0 : List AOper := [ao 0 2 (.box 26 (.t 0)),
  ao 1 3 (.box 26 (.t 1)),
  ao 2 4 (.alloc 26 [(.v (.s (.int .i64 0))), .nil0, .nil0]),
  ao 3 5 (.mv (.k (.b false)))]
def r66_1 : List AOper := [ao 0 15 (.fa 0 (.t 2)),
  ao 1 16 (.ld 1 false (.t 15)),
  ao 2 17 (.bin .eql (.t 16) (.k (.i 6))),
  ao 3 18 (.mv (.t 17)),
  ag 4 19 18 false [] (.fa 0 (.t 3)),
  ag 5 20 18 false [] (.ld 1 false (.t 19)),
  ag 6 21 18 false [] (.bin .eql (.t 20) (.k (.i 6))),
  ao 7 22 (.pick (.t 18) (.k (.b true)) (.t 21))]
def r66_2 : List AOper := [ao 0 24 (.ld 3 true (.t 2)),
  ao 1 25 (.call (.k (.c (.fn 88 []))) [(.t 24)]),
  au 2 26 [0, 1] (.ld 3 true (.t 3)),
  ao 3 27 (.call (.k (.c (.fn 88 []))) [(.t 26)]),
  ao 4 28 (.call (.k (.c (.fn 66 []))) [(.t 25), (.t 27)]),
  ao 5 23 (.mv (.t 28)),
  ao 6 29 (.ext 0 (.t 23)),
  au 7 30 [6] (.ext 1 (.t 23)),
  au 8 6 (ru 8) (.alloc 26 [(.v (.s (.int .i64 0))), .nil0, .nil0]),
  ax 9 none none [7] (.st 3 (.t 6) (.t 29)),
  ao 10 7 (.mv (.t 30))]
def r66_3 : List AOper := [ao 0 31 (.ld 3 true (.t 6)),
  ao 1 32 (.bsl 3 26 [(.t 31)]),
  ao 2 33 (.build [(.v (.s (.int .i64 0))), .nil0, .nil0] [(0, 1, (.k (.i 6))), (2, 1, (.t 32))]),
  ao 3 34 (.mv (.t 7)),
  an 4 (.st 3 (.t 4) (.t 33)),
  ao 5 5 (.mv (.t 34))]
def c66_4 : ACode := .seq (.reg r66_2) (.seq (.reg r66_3) .ret)
def c66_5 : ACode := .cond (.t 22) c66_4 .skip
def c66_6 : ACode := .seq (.reg r66_1) c66_5
def r66_7 : List AOper := [ao 0 35 (.fa 0 (.t 2)),
  ao 1 36 (.ld 1 false (.t 35)),
  ao 2 37 (.fa 0 (.t 3)),
  ao 3 38 (.ld 1 false (.t 37)),
  ao 4 39 (.bin .neq (.t 36) (.t 38))]
def r66_8 : List AOper := [ao 0 40 (.build [(.v (.s (.int .i64 0))), .nil0, .nil0] []),
  an 1 (.st 3 (.t 4) (.t 40)),
  ao 2 5 (.mv (.k (.b false)))]
def c66_9 : ACode := .seq (.reg r66_8) .ret
def c66_10 : ACode := .cond (.t 39) c66_9 .skip
def c66_11 : ACode := .seq (.reg r66_7) c66_10
def r66_12 : List AOper := [ao 0 41 (.fa 0 (.t 2)),
  ao 1 42 (.ld 1 false (.t 41)),
  ao 2 43 (.build [(.v (.s (.int .i64 0))), .nil0, .nil0] [(0, 1, (.t 42))]),
  ao 3 8 (.alloc 26 [(.v (.s (.int .i64 0))), .nil0, .nil0]),
  an 4 (.st 3 (.t 8) (.t 43))]
def r66_13 : List AOper := [ao 0 44 (.fa 0 (.t 2)),
  ao 1 45 (.ld 1 false (.t 44)),
  ao 2 46 (.bin .eql (.t 45) (.k (.i 4)))]
def r66_14 : List AOper := [ao 0 48 (.fa 2 (.t 2)),
  ao 1 49 (.ld 1 false (.t 48)),
  ao 2 50 (.ia 3 (.t 49) (.k (.i 0))),
  ao 3 51 (.ld 3 true (.t 50)),
  au 4 52 (ru 4) (.fa 2 (.t 3)),
  au 5 53 (ru 4) (.ld 1 false (.t 52)),
  au 6 54 (ru 4) (.ia 3 (.t 53) (.k (.i 0))),
  au 7 55 (ru 4) (.ld 3 true (.t 54)),
  ao 8 56 (.call (.k (.c (.fn 66 []))) [(.t 51), (.t 55)]),
  ao 9 47 (.mv (.t 56)),
  ao 10 57 (.ext 0 (.t 47)),
  au 11 58 [10] (.ext 1 (.t 47)),
  au 12 9 (ru 12) (.alloc 26 [(.v (.s (.int .i64 0))), .nil0, .nil0]),
  ax 13 none none [11] (.st 3 (.t 9) (.t 57)),
  ao 14 10 (.mv (.t 58))]
def r66_15 : List AOper := [ao 0 59 (.ld 3 true (.t 9)),
  ao 1 60 (.bsl 3 26 [(.t 59)]),
  ao 2 61 (.fa 2 (.t 8)),
  an 3 (.st 1 (.t 61) (.t 60))]
def r66_16 : List AOper := [ao 0 62 (.ld 3 true (.t 8)),
  ao 1 63 (.mv (.t 10)),
  an 2 (.st 3 (.t 4) (.t 62)),
  ao 3 5 (.mv (.t 63))]
def c66_17 : ACode := .seq (.reg r66_14) (.seq (.reg r66_15) (.seq (.reg r66_16) .ret))
def c66_18 : ACode := .cond (.t 46) c66_17 .skip
def c66_19 : ACode := .seq (.reg r66_13) c66_18
def r66_20 : List AOper := [ao 0 11 (.mv (.k (.i 0)))]
def r66_21 : List AOper := [ao 0 12 (.mv (.k (.i 0)))]
def r66_22 : List AOper := [ao 0 64 (.mv (.t 11)),
  ao 1 65 (.fa 1 (.t 2)),
  ao 2 66 (.ld 1 false (.t 65)),
  ao 3 67 (.len (.t 66)),
  ao 4 68 (.bin .lss (.t 64) (.t 67)),
  ao 5 69 (.mv (.t 68)),
  ag 6 70 69 false [] (.mv (.t 12)),
  ag 7 71 69 false [] (.fa 1 (.t 3)),
  ag 8 72 69 false [] (.ld 1 false (.t 71)),
  ag 9 73 69 false [] (.len (.t 72)),
  ag 10 74 69 false [] (.bin .lss (.t 70) (.t 73)),
  ao 11 75 (.pick (.t 69) (.k (.b true)) (.t 74))]
def c66_23 : ACode := .cond (.t 75) .skip (.exit 0)
def c66_24 : ACode := .seq (.reg r66_22) c66_23
def r66_25 : List AOper := [ao 0 114 (.mv (.t 12)),
  au 1 115 [0] (.fa 1 (.t 3)),
  au 2 116 [0] (.ld 1 false (.t 115)),
  au 3 117 [0] (.len (.t 116)),
  ao 4 118 (.bin .geq (.t 114) (.t 117)),
  ao 5 119 (.mv (.t 118)),
  ag 6 120 119 false [] (.mv (.t 11)),
  ag 7 121 119 false [6] (.fa 1 (.t 2)),
  ag 8 122 119 false [6] (.ld 1 false (.t 121)),
  ag 9 123 119 false [6] (.len (.t 122)),
  ag 10 124 119 false [] (.bin .lss (.t 120) (.t 123)),
  ag 11 125 119 false [] (.mv (.t 124)),
  ag 12 126 125 true [] (.fa 1 (.t 2)),
  ag 13 127 125 true [] (.ld 1 false (.t 126)),
  ag 14 128 125 true [12, 13] (.mv (.t 11)),
  ag 15 129 125 true [] (.ia 1 (.t 127) (.t 128)),
  ag 16 130 125 true [] (.ld 1 false (.t 129)),
  ag 17 131 125 true [12, 13, 14, 15, 16] (.fa 1 (.t 3)),
  ag 18 132 125 true [12, 13, 14, 15, 16] (.ld 1 false (.t 131)),
  ag 19 133 125 true [12, 13, 14, 15, 16, 17, 18] (.mv (.t 12)),
  ag 20 134 125 true [12, 13, 14, 15, 16] (.ia 1 (.t 132) (.t 133)),
  ag 21 135 125 true [12, 13, 14, 15, 16] (.ld 1 false (.t 134)),
  ag 22 136 125 true [] (.bin .lss (.t 130) (.t 135)),
  ag 23 137 119 false [] (.pick (.t 125) (.t 136) (.k (.b false))),
  ao 24 138 (.pick (.t 119) (.k (.b true)) (.t 137)),
  ao 25 113 (.mv (.t 138))]
def r66_26 : List AOper := [ao 0 139 (.fa 1 (.t 8)),
  ao 1 140 (.ld 1 false (.t 139)),
  au 2 141 [0, 1] (.fa 1 (.t 2)),
  au 3 142 [0, 1] (.ld 1 false (.t 141)),
  au 4 143 (ru 4) (.mv (.t 11)),
  au 5 144 [0, 1] (.ia 1 (.t 142) (.t 143)),
  au 6 145 [0, 1] (.ld 1 false (.t 144)),
  au 7 146 [0, 1] (.bsl 1 9 [(.t 145)]),
  ao 8 147 (.app 1 9 16 (.t 140) (.t 146)),
  ao 9 148 (.fa 1 (.t 8)),
  an 10 (.st 1 (.t 148) (.t 147))]
def r66_27 : List AOper := [ao 0 149 (.fa 2 (.t 8)),
  ao 1 150 (.ld 1 false (.t 149)),
  au 2 151 [0, 1] (.fa 2 (.t 2)),
  au 3 152 [0, 1] (.ld 1 false (.t 151)),
  au 4 153 (ru 4) (.mv (.t 11)),
  au 5 154 [0, 1] (.ia 3 (.t 152) (.t 153)),
  au 6 155 [0, 1] (.ld 3 true (.t 154)),
  au 7 156 [0, 1] (.call (.k (.c (.fn 89 []))) [(.t 155)]),
  au 8 157 [0, 1] (.bsl 3 26 [(.t 156)]),
  ao 9 158 (.app 3 26 56 (.t 150) (.t 157)),
  ao 10 159 (.fa 2 (.t 8)),
  an 11 (.st 1 (.t 159) (.t 158))]
def r66_28 : List AOper := [ao 0 160 (.mv (.t 11)),
  ao 1 161 (.bin .add (.t 160) (.k (.i 1))),
  ao 2 11 (.mv (.t 161))]
def c66_29 : ACode := .seq (.reg r66_26) (.seq (.reg r66_27) (.reg r66_28))
def r66_30 : List AOper := [ao 0 163 (.mv (.t 11)),
  au 1 164 [0] (.fa 1 (.t 2)),
  au 2 165 [0] (.ld 1 false (.t 164)),
  au 3 166 [0] (.len (.t 165)),
  ao 4 167 (.bin .geq (.t 163) (.t 166)),
  ao 5 168 (.mv (.t 167)),
  ag 6 169 168 false [] (.fa 1 (.t 2)),
  ag 7 170 168 false [] (.ld 1 false (.t 169)),
  ag 8 171 168 false [6, 7] (.mv (.t 11)),
  ag 9 172 168 false [] (.ia 1 (.t 170) (.t 171)),
  ag 10 173 168 false [] (.ld 1 false (.t 172)),
  ag 11 174 168 false [6, 7, 8, 9, 10] (.fa 1 (.t 3)),
  ag 12 175 168 false [6, 7, 8, 9, 10] (.ld 1 false (.t 174)),
  ag 13 176 168 false [6, 7, 8, 9, 10, 11, 12] (.mv (.t 12)),
  ag 14 177 168 false [6, 7, 8, 9, 10] (.ia 1 (.t 175) (.t 176)),
  ag 15 178 168 false [6, 7, 8, 9, 10] (.ld 1 false (.t 177)),
  ag 16 179 168 false [] (.bin .gtr (.t 173) (.t 178)),
  ao 17 180 (.pick (.t 168) (.k (.b true)) (.t 179)),
  ao 18 162 (.mv (.t 180))]
def r66_31 : List AOper := [ao 0 181 (.fa 1 (.t 8)),
  ao 1 182 (.ld 1 false (.t 181)),
  au 2 183 [0, 1] (.fa 1 (.t 3)),
  au 3 184 [0, 1] (.ld 1 false (.t 183)),
  au 4 185 (ru 4) (.mv (.t 12)),
  au 5 186 [0, 1] (.ia 1 (.t 184) (.t 185)),
  au 6 187 [0, 1] (.ld 1 false (.t 186)),
  au 7 188 [0, 1] (.bsl 1 9 [(.t 187)]),
  ao 8 189 (.app 1 9 16 (.t 182) (.t 188)),
  ao 9 190 (.fa 1 (.t 8)),
  an 10 (.st 1 (.t 190) (.t 189))]
def r66_32 : List AOper := [ao 0 191 (.fa 2 (.t 8)),
  ao 1 192 (.ld 1 false (.t 191)),
  au 2 193 [0, 1] (.fa 2 (.t 3)),
  au 3 194 [0, 1] (.ld 1 false (.t 193)),
  au 4 195 (ru 4) (.mv (.t 12)),
  au 5 196 [0, 1] (.ia 3 (.t 194) (.t 195)),
  au 6 197 [0, 1] (.ld 3 true (.t 196)),
  au 7 198 [0, 1] (.call (.k (.c (.fn 89 []))) [(.t 197)]),
  au 8 199 [0, 1] (.bsl 3 26 [(.t 198)]),
  ao 9 200 (.app 3 26 56 (.t 192) (.t 199)),
  ao 10 201 (.fa 2 (.t 8)),
  an 11 (.st 1 (.t 201) (.t 200))]
def r66_33 : List AOper := [ao 0 202 (.mv (.t 12)),
  ao 1 203 (.bin .add (.t 202) (.k (.i 1))),
  ao 2 12 (.mv (.t 203))]
def c66_34 : ACode := .seq (.reg r66_31) (.seq (.reg r66_32) (.reg r66_33))
def r66_35 : List AOper := [ao 0 77 (.fa 2 (.t 2)),
  ao 1 78 (.ld 1 false (.t 77)),
  au 2 79 [0, 1] (.mv (.t 11)),
  ao 3 80 (.ia 3 (.t 78) (.t 79)),
  ao 4 81 (.ld 3 true (.t 80)),
  au 5 82 (ru 5) (.fa 2 (.t 3)),
  au 6 83 (ru 5) (.ld 1 false (.t 82)),
  au 7 84 (ru 7) (.mv (.t 12)),
  au 8 85 (ru 5) (.ia 3 (.t 83) (.t 84)),
  au 9 86 (ru 5) (.ld 3 true (.t 85)),
  ao 10 87 (.call (.k (.c (.fn 66 []))) [(.t 81), (.t 86)]),
  ao 11 76 (.mv (.t 87)),
  ao 12 88 (.ext 0 (.t 76)),
  au 13 89 [12] (.ext 1 (.t 76)),
  au 14 13 (ru 14) (.alloc 26 [(.v (.s (.int .i64 0))), .nil0, .nil0]),
  ax 15 none none [13] (.st 3 (.t 13) (.t 88)),
  ao 16 14 (.mv (.t 89))]
def r66_36 : List AOper := [ao 0 90 (.mv (.t 14)),
  ao 1 91 (.un .not (.t 90))]
def r66_37 : List AOper := [ao 0 92 (.build [(.v (.s (.int .i64 0))), .nil0, .nil0] []),
  an 1 (.st 3 (.t 4) (.t 92)),
  ao 2 5 (.mv (.k (.b false)))]
def c66_38 : ACode := .seq (.reg r66_37) .ret
def c66_39 : ACode := .cond (.t 91) c66_38 .skip
def c66_40 : ACode := .seq (.reg r66_36) c66_39
def r66_41 : List AOper := [ao 0 93 (.fa 1 (.t 8)),
  ao 1 94 (.ld 1 false (.t 93)),
  au 2 95 [0, 1] (.fa 1 (.t 2)),
  au 3 96 [0, 1] (.ld 1 false (.t 95)),
  au 4 97 (ru 4) (.mv (.t 11)),
  au 5 98 [0, 1] (.ia 1 (.t 96) (.t 97)),
  au 6 99 [0, 1] (.ld 1 false (.t 98)),
  au 7 100 [0, 1] (.bsl 1 9 [(.t 99)]),
  ao 8 101 (.app 1 9 16 (.t 94) (.t 100)),
  ao 9 102 (.fa 1 (.t 8)),
  an 10 (.st 1 (.t 102) (.t 101))]
def r66_42 : List AOper := [ao 0 103 (.fa 2 (.t 8)),
  ao 1 104 (.ld 1 false (.t 103)),
  ao 2 105 (.ld 3 true (.t 13)),
  ao 3 106 (.bsl 3 26 [(.t 105)]),
  ao 4 107 (.app 3 26 56 (.t 104) (.t 106)),
  ao 5 108 (.fa 2 (.t 8)),
  an 6 (.st 1 (.t 108) (.t 107))]
def r66_43 : List AOper := [ao 0 109 (.mv (.t 11)),
  ao 1 110 (.bin .add (.t 109) (.k (.i 1))),
  ao 2 11 (.mv (.t 110))]
def r66_44 : List AOper := [ao 0 111 (.mv (.t 12)),
  ao 1 112 (.bin .add (.t 111) (.k (.i 1))),
  ao 2 12 (.mv (.t 112))]
def c66_45 : ACode := .seq (.reg r66_35) (.seq c66_40 (.seq (.reg r66_41) (.seq (.reg r66_42) (.seq (.reg r66_43) (.reg r66_44)))))
def c66_46 : ACode := .cond (.t 162) c66_34 c66_45
def c66_47 : ACode := .seq (.reg r66_30) c66_46
def c66_48 : ACode := .cond (.t 113) c66_29 c66_47
def c66_49 : ACode := .seq (.reg r66_25) c66_48
def c66_50 : ACode := .block 2 c66_49
def c66_51 : ACode := .block 1 c66_50
def c66_52 : ACode := .seq c66_24 c66_51
def c66_53 : ACode := .loop c66_52
def c66_54 : ACode := .block 0 c66_53
def r66_55 : List AOper := [ao 0 204 (.ld 3 true (.t 8)),
  an 1 (.st 3 (.t 4) (.t 204)),
  ao 2 5 (.mv (.k (.b true)))]
def c66 : ACode := .seq (.reg r66_0) (.seq c66_6 (.seq c66_11 (.seq (.reg r66_12) (.seq c66_19 (.seq (.reg r66_20) (.seq (.reg r66_21) (.seq c66_54 (.seq (.reg r66_55) .ret))))))))
def s66 : List ARes := [.cell 4 3 true, .tmp 5]
theorem ok66 : okF Try.prog 66 205 c66 s66 := ⟨Try.f66, Try.func66, Try.ntmps66, by kernel_rfl, by kernel_rfl, by kernel_rfl⟩
theorem UMo_1 : (type_of% (uA c66.eq_1)) ∧ (type_of% (uR r66_0.eq_1)) ∧ (type_of% (uA c66_6.eq_1)) ∧ (type_of% (uR r66_1.eq_1)) ∧ (type_of% (uA c66_5.eq_1)) ∧ (type_of% (uA c66_4.eq_1)) ∧ (type_of% (uR r66_2.eq_1)) ∧ (type_of% (uR r66_3.eq_1)) ∧ (type_of% (uA c66_11.eq_1)) ∧ (type_of% (uR r66_7.eq_1)) ∧ (type_of% (uA c66_10.eq_1)) ∧ (type_of% (uA c66_9.eq_1)) ∧ (type_of% (uR r66_8.eq_1)) ∧ (type_of% (uR r66_12.eq_1)) ∧ (type_of% (uA c66_19.eq_1)) ∧ (type_of% (uR r66_13.eq_1)) ∧ (type_of% (uA c66_18.eq_1)) ∧ (type_of% (uA c66_17.eq_1)) ∧ (type_of% (uR r66_14.eq_1)) ∧ (type_of% (uR r66_15.eq_1)) ∧ (type_of% (uR r66_16.eq_1)) ∧ (type_of% (uR r66_20.eq_1)) ∧ (type_of% (uR r66_21.eq_1)) ∧ (type_of% (uA c66_54.eq_1)) ∧ (type_of% (uA c66_53.eq_1)) ∧ (type_of% (uR r66_55.eq_1)) ∧ (type_of% s66.eq_1) :=
  ⟨uA c66.eq_1, uR r66_0.eq_1, uA c66_6.eq_1, uR r66_1.eq_1, uA c66_5.eq_1, uA c66_4.eq_1, uR r66_2.eq_1, uR r66_3.eq_1, uA c66_11.eq_1, uR r66_7.eq_1, uA c66_10.eq_1, uA c66_9.eq_1, uR r66_8.eq_1, uR r66_12.eq_1, uA c66_19.eq_1, uR r66_13.eq_1, uA c66_18.eq_1, uA c66_17.eq_1, uR r66_14.eq_1, uR r66_15.eq_1, uR r66_16.eq_1, uR r66_20.eq_1, uR r66_21.eq_1, uA c66_54.eq_1, uA c66_53.eq_1, uR r66_55.eq_1, s66.eq_1⟩
theorem joinS_maybe (a b : Kd) (da db : Nat) (ha : KOk da a) (hb : KOk db b) (h6 : a.sort = 6 ∨ b.sort = 6) (ih : JC 66 (bare a) (bare b)) : JC 66 a b := by
  obtain ⟨k, ok, hj, hB, hC⟩ := ih
  refine ⟨.mk 6 [] [k], ok, hj.bare h6, hB.may (by omega) 6, ?_⟩
  obtain ⟨sa, na, ka⟩ := a
  obtain ⟨sb, nb, kb⟩ := b
  have hwa := bareS_ok sa na ka fun h => by subst h; exact one_at ha.inv.2.1 (.inr rfl)
  have hwb := bareS_ok sb nb kb fun h => by subst h; exact one_at hb.inv.2.1 (.inr rfl)
  have hw : encK (.mk 6 [] [k]) = [.s (.int .i64 6), .sl [], .sl [encK k]] := by simp [encK, encS, encKs]
  refine ACallsF.intro ok66 follows fun X c0 => ?_
  have e0 : (sa == 6) = true ∨ ((sa == 6) = false ∧ (sb == 6) = true) := by
    simp only [Kd.sort] at h6
    rcases h6 with h | h
    · exact .inl (by simpa using h)
    · by_cases h' : sa = 6
      · exact .inl (by simpa using h')
      · exact .inr ⟨by simpa using h', by simpa using h⟩
  rcases e0 with e0 | ⟨e0, e1⟩
  · simp only [RUN, core, T.c, T.s, T.b, T.i, sBin, sInt, sUn, isShift, asInt, P1.cells, loadT, ptrC, storeT, putC, fillP, Nat.reduceAdd, reduceIte, Nat.reduceEqDiff, Nat.reduceLT, Nat.reduceLeDiff, reduceCtorEq, eq_self, FIT, lendCs_map, verC_map, FinC, resPs, resP, lendPl, lendCs, lendC, sealC, partsT, finHs, tupT, verT, verP, verC, verB, verAt, Blk.ver, handsAre, forall_const, CHT, disj, Nat.reduceBEq, beq_self_eq_true, APT, srcOf, sealPs, sealCs, sealC, List.mem_singleton, forall_eq, ALT, UMo_1, encK_mk, e0]
    refine callC (argsC := [tK (.mk sa na ka)]) hwa rfl (by simp only [RUN, core, T.c, T.s, T.b, T.i, sBin, sInt, sUn, isShift, asInt, P1.cells, loadT, ptrC, storeT, putC, fillP, Nat.reduceAdd, reduceIte, Nat.reduceEqDiff, Nat.reduceLT, Nat.reduceLeDiff, reduceCtorEq, eq_self, FIT, lendCs_map, verC_map, FinC, resPs, resP, lendPl, lendCs, lendC, sealC, partsT, finHs, tupT, verT, verP, verC, verB, verAt, Blk.ver, handsAre, forall_const, CHT, disj, Nat.reduceBEq, beq_self_eq_true, APT, srcOf, sealPs, sealCs, sealC, List.mem_singleton, forall_eq, ALT, tK, encK_mk]) (by simp [closedA, closedP, closedC]) (by simp [closedT, closedP, closedC]) ?_
    simp only [RUN, core, T.c, T.s, T.b, T.i, sBin, sInt, sUn, isShift, asInt, P1.cells, loadT, ptrC, storeT, putC, fillP, Nat.reduceAdd, reduceIte, Nat.reduceEqDiff, Nat.reduceLT, Nat.reduceLeDiff, reduceCtorEq, eq_self, FIT, lendCs_map, verC_map, FinC, resPs, resP, lendPl, lendCs, lendC, sealC, partsT, finHs, tupT, verT, verP, verC, verB, verAt, Blk.ver, handsAre, forall_const, CHT, disj, Nat.reduceBEq, beq_self_eq_true, APT, srcOf, sealPs, sealCs, sealC, List.mem_singleton, forall_eq, ALT, UMo_1, encK_mk, e0]
    refine callC (argsC := [tK (.mk sb nb kb)]) hwb rfl (by simp only [RUN, core, T.c, T.s, T.b, T.i, sBin, sInt, sUn, isShift, asInt, P1.cells, loadT, ptrC, storeT, putC, fillP, Nat.reduceAdd, reduceIte, Nat.reduceEqDiff, Nat.reduceLT, Nat.reduceLeDiff, reduceCtorEq, eq_self, FIT, lendCs_map, verC_map, FinC, resPs, resP, lendPl, lendCs, lendC, sealC, partsT, finHs, tupT, verT, verP, verC, verB, verAt, Blk.ver, handsAre, forall_const, CHT, disj, Nat.reduceBEq, beq_self_eq_true, APT, srcOf, sealPs, sealCs, sealC, List.mem_singleton, forall_eq, ALT, tK, encK_mk]) (by simp [closedA, closedP, closedC]) (by simp [closedT, closedP, closedC]) ?_
    simp only [RUN, core, T.c, T.s, T.b, T.i, sBin, sInt, sUn, isShift, asInt, P1.cells, loadT, ptrC, storeT, putC, fillP, Nat.reduceAdd, reduceIte, Nat.reduceEqDiff, Nat.reduceLT, Nat.reduceLeDiff, reduceCtorEq, eq_self, FIT, lendCs_map, verC_map, FinC, resPs, resP, lendPl, lendCs, lendC, sealC, partsT, finHs, tupT, verT, verP, verC, verB, verAt, Blk.ver, handsAre, forall_const, CHT, disj, Nat.reduceBEq, beq_self_eq_true, APT, srcOf, sealPs, sealCs, sealC, List.mem_singleton, forall_eq, ALT, UMo_1]
    refine callC hC rfl rfl (by simp [closedA, closedP, closedC]) (by simp [closedT, closedP, closedC]) ?_
    simp only [RUN, core, T.c, T.s, T.b, T.i, sBin, sInt, sUn, isShift, asInt, P1.cells, loadT, ptrC, storeT, putC, fillP, Nat.reduceAdd, reduceIte, Nat.reduceEqDiff, Nat.reduceLT, Nat.reduceLeDiff, reduceCtorEq, eq_self, FIT, lendCs_map, verC_map, FinC, resPs, resP, lendPl, lendCs, lendC, sealC, partsT, finHs, tupT, verT, verP, verC, verB, verAt, Blk.ver, handsAre, forall_const, CHT, disj, Nat.reduceBEq, beq_self_eq_true, APT, srcOf, sealPs, sealCs, sealC, List.mem_singleton, forall_eq, ALT, UMo_1, List.length_map, encK_len, takeK, Nat.le_refl, hw, List.length_cons, List.length_nil]
  · simp only [RUN, core, T.c, T.s, T.b, T.i, sBin, sInt, sUn, isShift, asInt, P1.cells, loadT, ptrC, storeT, putC, fillP, Nat.reduceAdd, reduceIte, Nat.reduceEqDiff, Nat.reduceLT, Nat.reduceLeDiff, reduceCtorEq, eq_self, FIT, lendCs_map, verC_map, FinC, resPs, resP, lendPl, lendCs, lendC, sealC, partsT, finHs, tupT, verT, verP, verC, verB, verAt, Blk.ver, handsAre, forall_const, CHT, disj, Nat.reduceBEq, beq_self_eq_true, APT, srcOf, sealPs, sealCs, sealC, List.mem_singleton, forall_eq, ALT, UMo_1, encK_mk, e0, e1]
    refine callC (argsC := [tK (.mk sa na ka)]) hwa rfl (by simp only [RUN, core, T.c, T.s, T.b, T.i, sBin, sInt, sUn, isShift, asInt, P1.cells, loadT, ptrC, storeT, putC, fillP, Nat.reduceAdd, reduceIte, Nat.reduceEqDiff, Nat.reduceLT, Nat.reduceLeDiff, reduceCtorEq, eq_self, FIT, lendCs_map, verC_map, FinC, resPs, resP, lendPl, lendCs, lendC, sealC, partsT, finHs, tupT, verT, verP, verC, verB, verAt, Blk.ver, handsAre, forall_const, CHT, disj, Nat.reduceBEq, beq_self_eq_true, APT, srcOf, sealPs, sealCs, sealC, List.mem_singleton, forall_eq, ALT, tK, encK_mk]) (by simp [closedA, closedP, closedC]) (by simp [closedT, closedP, closedC]) ?_
    simp only [RUN, core, T.c, T.s, T.b, T.i, sBin, sInt, sUn, isShift, asInt, P1.cells, loadT, ptrC, storeT, putC, fillP, Nat.reduceAdd, reduceIte, Nat.reduceEqDiff, Nat.reduceLT, Nat.reduceLeDiff, reduceCtorEq, eq_self, FIT, lendCs_map, verC_map, FinC, resPs, resP, lendPl, lendCs, lendC, sealC, partsT, finHs, tupT, verT, verP, verC, verB, verAt, Blk.ver, handsAre, forall_const, CHT, disj, Nat.reduceBEq, beq_self_eq_true, APT, srcOf, sealPs, sealCs, sealC, List.mem_singleton, forall_eq, ALT, UMo_1, encK_mk, e0, e1]
    refine callC (argsC := [tK (.mk sb nb kb)]) hwb rfl (by simp only [RUN, core, T.c, T.s, T.b, T.i, sBin, sInt, sUn, isShift, asInt, P1.cells, loadT, ptrC, storeT, putC, fillP, Nat.reduceAdd, reduceIte, Nat.reduceEqDiff, Nat.reduceLT, Nat.reduceLeDiff, reduceCtorEq, eq_self, FIT, lendCs_map, verC_map, FinC, resPs, resP, lendPl, lendCs, lendC, sealC, partsT, finHs, tupT, verT, verP, verC, verB, verAt, Blk.ver, handsAre, forall_const, CHT, disj, Nat.reduceBEq, beq_self_eq_true, APT, srcOf, sealPs, sealCs, sealC, List.mem_singleton, forall_eq, ALT, tK, encK_mk]) (by simp [closedA, closedP, closedC]) (by simp [closedT, closedP, closedC]) ?_
    simp only [RUN, core, T.c, T.s, T.b, T.i, sBin, sInt, sUn, isShift, asInt, P1.cells, loadT, ptrC, storeT, putC, fillP, Nat.reduceAdd, reduceIte, Nat.reduceEqDiff, Nat.reduceLT, Nat.reduceLeDiff, reduceCtorEq, eq_self, FIT, lendCs_map, verC_map, FinC, resPs, resP, lendPl, lendCs, lendC, sealC, partsT, finHs, tupT, verT, verP, verC, verB, verAt, Blk.ver, handsAre, forall_const, CHT, disj, Nat.reduceBEq, beq_self_eq_true, APT, srcOf, sealPs, sealCs, sealC, List.mem_singleton, forall_eq, ALT, UMo_1]
    refine callC hC rfl rfl (by simp [closedA, closedP, closedC]) (by simp [closedT, closedP, closedC]) ?_
    simp only [RUN, core, T.c, T.s, T.b, T.i, sBin, sInt, sUn, isShift, asInt, P1.cells, loadT, ptrC, storeT, putC, fillP, Nat.reduceAdd, reduceIte, Nat.reduceEqDiff, Nat.reduceLT, Nat.reduceLeDiff, reduceCtorEq, eq_self, FIT, lendCs_map, verC_map, FinC, resPs, resP, lendPl, lendCs, lendC, sealC, partsT, finHs, tupT, verT, verP, verC, verB, verAt, Blk.ver, handsAre, forall_const, CHT, disj, Nat.reduceBEq, beq_self_eq_true, APT, srcOf, sealPs, sealCs, sealC, List.mem_singleton, forall_eq, ALT, UMo_1, List.length_map, encK_len, takeK, Nat.le_refl, hw, List.length_cons, List.length_nil]
theorem JR.diff {sa sb : Int} {na nb : List ByteArray} {ka kb : List Kd} (k : Kd) (h1 : sa ≠ 6) (h2 : sb ≠ 6) (h : sa ≠ sb) : JR (.mk sa na ka) (.mk sb nb kb) k false := by
  refine .inr ⟨rfl, fun k' hk => ?_⟩
  cases hk with
  | m _ _ _ h => simp [Kd.sort] at h; omega
  | l => exact h rfl
  | leaf => exact h rfl
  | f => exact h rfl
theorem k0_KB : KB 1000000 (.mk 0 [] []) := .mk _ _ _ (by simp) (by simp) (fun x hx => by cases hx) fun x hx => by cases hx
theorem encK_0 (s : Int) : encK (.mk s [] []) = [.s (.int .i64 s), .sl [], .sl []] := by simp [encK, encS, encKs]
theorem joinS_diff (sa sb : Int) (na nb : List ByteArray) (ka kb : List Kd) (h1 : sa ≠ 6) (h2 : sb ≠ 6) (h : sa ≠ sb) : JC 66 (.mk sa na ka) (.mk sb nb kb) := by
  refine ⟨.mk 0 [] [], false, JR.diff _ h1 h2 h, k0_KB, ?_⟩
  have e0 : (sa == 6) = false := by simpa using h1
  have e1 : (sb == 6) = false := by simpa using h2
  have e2 : (sa != sb) = true := by simpa using h
  refine ACallsF.intro ok66 follows fun X c0 => ?_
  simp only [RUN, core, T.c, T.s, T.b, T.i, sBin, sInt, sUn, isShift, asInt, P1.cells, loadT, ptrC, storeT, putC, fillP, Nat.reduceAdd, reduceIte, Nat.reduceEqDiff, Nat.reduceLT, Nat.reduceLeDiff, reduceCtorEq, eq_self, FIT, lendCs_map, verC_map, FinC, resPs, resP, lendPl, lendCs, lendC, sealC, partsT, finHs, tupT, verT, verP, verC, verB, verAt, Blk.ver, handsAre, forall_const, CHT, disj, Nat.reduceBEq, beq_self_eq_true, APT, srcOf, sealPs, sealCs, sealC, List.mem_singleton, forall_eq, ALT, UMo_1, encK_mk, e0, e1, e2, encK_0]
def inv66z (s : Int) (_ : Nat) (σ : St) : Prop :=
  (∃ u, σ.t 2 = .c (.ptr 2 u 0) ∧ σ.H 2 = some (.var u 26 [.v (.s (.int .i64 s)), .v (.sl (encS [])), .v (.sl (encKs []))])) ∧ (∃ u, σ.t 3 = .c (.ptr 3 u 0) ∧ σ.H 3 = some (.var u 26 [.v (.s (.int .i64 s)), .v (.sl (encS [])), .v (.sl (encKs []))])) ∧
  (∃ u, σ.t 4 = .c (.ptr 4 u 0) ∧ σ.H 4 = some (.var u 26 [.v (.s (.int .i64 0)), .nil0, .nil0])) ∧ (∃ u, σ.t 8 = .c (.ptr 8 u 0) ∧ σ.H 8 = some (.var u 26 [.v (.s (.int .i64 s)), .nil0, .nil0])) ∧ σ.t 11 = .i 0 ∧ σ.t 12 = .i 0
theorem UMo_2 : (type_of% (uA c66_52.eq_1)) ∧ (type_of% (uA c66_24.eq_1)) ∧ (type_of% (uR r66_22.eq_1)) ∧ (type_of% (uA c66_23.eq_1)) ∧ (type_of% (uA c66_51.eq_1)) ∧ (type_of% (uA c66_50.eq_1)) ∧ (type_of% (uA c66_49.eq_1)) ∧ (type_of% (uR r66_25.eq_1)) ∧ (type_of% (uA c66_48.eq_1)) ∧ (type_of% (uA c66_29.eq_1)) ∧ (type_of% (uR r66_26.eq_1)) ∧ (type_of% (uR r66_27.eq_1)) ∧ (type_of% (uR r66_28.eq_1)) ∧ (type_of% (uA c66_47.eq_1)) ∧ (type_of% (uR r66_30.eq_1)) ∧ (type_of% (uA c66_46.eq_1)) ∧ (type_of% (uA c66_34.eq_1)) ∧ (type_of% (uR r66_31.eq_1)) ∧ (type_of% (uR r66_32.eq_1)) ∧ (type_of% (uR r66_33.eq_1)) ∧ (type_of% (uA c66_45.eq_1)) ∧ (type_of% (uR r66_35.eq_1)) ∧ (type_of% (uA c66_40.eq_1)) ∧ (type_of% (uR r66_36.eq_1)) ∧ (type_of% (uA c66_39.eq_1)) ∧ (type_of% (uA c66_38.eq_1)) ∧ (type_of% (uR r66_37.eq_1)) ∧ (type_of% (uR r66_41.eq_1)) ∧ (type_of% (uR r66_42.eq_1)) ∧ (type_of% (uR r66_43.eq_1)) ∧ (type_of% (uR r66_44.eq_1)) ∧ (type_of% (uA c66.eq_1)) ∧ (type_of% (uR r66_0.eq_1)) ∧ (type_of% (uA c66_6.eq_1)) ∧ (type_of% (uR r66_1.eq_1)) ∧ (type_of% (uA c66_5.eq_1)) ∧ (type_of% (uA c66_4.eq_1)) ∧ (type_of% (uR r66_2.eq_1)) ∧ (type_of% (uR r66_3.eq_1)) ∧ (type_of% (uA c66_11.eq_1)) ∧ (type_of% (uR r66_7.eq_1)) ∧ (type_of% (uA c66_10.eq_1)) ∧ (type_of% (uA c66_9.eq_1)) ∧ (type_of% (uR r66_8.eq_1)) ∧ (type_of% (uR r66_12.eq_1)) ∧ (type_of% (uA c66_19.eq_1)) ∧ (type_of% (uR r66_13.eq_1)) ∧ (type_of% (uA c66_18.eq_1)) ∧ (type_of% (uA c66_17.eq_1)) ∧ (type_of% (uR r66_14.eq_1)) ∧ (type_of% (uR r66_15.eq_1)) ∧ (type_of% (uR r66_16.eq_1)) ∧ (type_of% (uR r66_20.eq_1)) ∧ (type_of% (uR r66_21.eq_1)) ∧ (type_of% (uA c66_54.eq_1)) ∧ (type_of% (uA c66_53.eq_1)) ∧ (type_of% (uR r66_55.eq_1)) ∧ (type_of% s66.eq_1) :=
  ⟨uA c66_52.eq_1, uA c66_24.eq_1, uR r66_22.eq_1, uA c66_23.eq_1, uA c66_51.eq_1, uA c66_50.eq_1, uA c66_49.eq_1, uR r66_25.eq_1, uA c66_48.eq_1, uA c66_29.eq_1, uR r66_26.eq_1, uR r66_27.eq_1, uR r66_28.eq_1, uA c66_47.eq_1, uR r66_30.eq_1, uA c66_46.eq_1, uA c66_34.eq_1, uR r66_31.eq_1, uR r66_32.eq_1, uR r66_33.eq_1, uA c66_45.eq_1, uR r66_35.eq_1, uA c66_40.eq_1, uR r66_36.eq_1, uA c66_39.eq_1, uA c66_38.eq_1, uR r66_37.eq_1, uR r66_41.eq_1, uR r66_42.eq_1, uR r66_43.eq_1, uR r66_44.eq_1, uA c66.eq_1, uR r66_0.eq_1, uA c66_6.eq_1, uR r66_1.eq_1, uA c66_5.eq_1, uA c66_4.eq_1, uR r66_2.eq_1, uR r66_3.eq_1, uA c66_11.eq_1, uR r66_7.eq_1, uA c66_10.eq_1, uA c66_9.eq_1, uR r66_8.eq_1, uR r66_12.eq_1, uA c66_19.eq_1, uR r66_13.eq_1, uA c66_18.eq_1, uA c66_17.eq_1, uR r66_14.eq_1, uR r66_15.eq_1, uR r66_16.eq_1, uR r66_20.eq_1, uR r66_21.eq_1, uA c66_54.eq_1, uA c66_53.eq_1, uR r66_55.eq_1, s66.eq_1⟩
theorem joinS_leaf (s : Int) (hs : s < 4) : JC 66 (.mk s [] []) (.mk s [] []) := by
  refine ⟨.mk s [] [], true, .inl ⟨rfl, .leaf s [] [] [] [] hs⟩, .mk _ _ _ (by simp) (by simp) (fun x hx => by cases hx) (fun x hx => by cases hx), ?_⟩
  have e0 : (s == 6) = false := by simp; omega
  have e2 : (s != s) = false := by simp
  have e4 : (s == 4) = false := by simp; omega
  have k0 : ¬ ((0 : Nat) : Int) < 0 := by omega
  refine ACallsF.intro ok66 follows fun X c0 => ?_
  simp only [RUN, core, T.c, T.s, T.b, T.i, sBin, sInt, sUn, isShift, asInt, P1.cells, loadT, ptrC, storeT, putC, fillP, Nat.reduceAdd, reduceIte, Nat.reduceEqDiff, Nat.reduceLT, Nat.reduceLeDiff, reduceCtorEq, eq_self, FIT, lendCs_map, verC_map, FinC, resPs, resP, lendPl, lendCs, lendC, sealC, partsT, finHs, tupT, verT, verP, verC, verB, verAt, Blk.ver, handsAre, forall_const, CHT, disj, Nat.reduceBEq, beq_self_eq_true, APT, srcOf, sealPs, sealCs, sealC, List.mem_singleton, forall_eq, ALT, UMo_1, encK_mk, e0, e2, e4]
  refine AW.upto 0 (inv66z s) ⟨⟨_, rfl, rfl⟩, ⟨_, rfl, rfl⟩, ⟨_, rfl, rfl⟩, ⟨_, rfl, rfl⟩, rfl, rfl⟩ fun i t H c hi h => ?_
  obtain ⟨⟨u2, e2, eH2⟩, ⟨u3, e3, eH3⟩, ⟨u4, e4, eH4⟩, ⟨u8, e8, eH8⟩, e11, e12⟩ := h
  simp only [T.c, T.i] at e2 eH2 e3 eH3 e4 eH4 e8 eH8 e11 e12
  have q1 : (encS []).length = 0 := rfl
  simp only [RUN, core, T.c, T.s, T.b, T.i, sBin, sInt, sUn, isShift, asInt, P1.cells, loadT, ptrC, storeT, putC, fillP, Nat.reduceAdd, reduceIte, Nat.reduceEqDiff, Nat.reduceLT, Nat.reduceLeDiff, reduceCtorEq, eq_self, FIT, lendCs_map, verC_map, FinC, resPs, resP, lendPl, lendCs, lendC, sealC, partsT, finHs, tupT, verT, verP, verC, verB, verAt, Blk.ver, handsAre, forall_const, CHT, disj, Nat.reduceBEq, beq_self_eq_true, APT, srcOf, sealPs, sealCs, sealC, List.mem_singleton, forall_eq, ALT, UMo_2, UMo_1, e2, eH2, e3, eH3, e4, eH4, e8, eH8, e11, e12, q1, Int.lt_irrefl, encK_0, Int.ofNat_zero, Int.natCast_zero]
theorem JR.list {na nb : List ByteArray} {ka kb : List Kd} {p q k : Kd} {ok : Bool} (hp : ka[0]? = some p) (hq : kb[0]? = some q) (hj : JR p q k ok) : JR (.mk 4 na ka) (.mk 4 nb kb) (.mk 4 [] [k]) ok := by
  rcases hj with ⟨h1, h2⟩ | ⟨h1, h2⟩
  · exact .inl ⟨h1, .l na ka nb kb p q k hp hq h2⟩
  · refine .inr ⟨h1, fun k' hk => ?_⟩
    cases hk with
    | m _ _ x h => simp [Kd.sort] at h
    | l _ _ _ _ p' q' x hp' hq' hx => rw [hp] at hp'; cases hp'; rw [hq] at hq'; cases hq'; exact h2 x hx
    | leaf s _ _ _ _ hs => omega
theorem joinS_list (na nb : List ByteArray) (ka kb : List Kd) (p q : Kd) (hp : ka[0]? = some p) (hq : kb[0]? = some q) (ih : JC 66 p q) : JC 66 (.mk 4 na ka) (.mk 4 nb kb) := by
  obtain ⟨k, ok, hj, hB, hC⟩ := ih
  refine ⟨.mk 4 [] [k], ok, hj.list hp hq, hB.may (by omega) 4, ?_⟩
  have hw : encK (.mk 4 [] [k]) = [.s (.int .i64 4), .sl [], .sl [encK k]] := by simp [encK, encS, encKs]
  have ep := encKs_at hp
  have eq := encKs_at hq
  have e2 : ((4 : Int) != 4) = false := rfl
  have e0 : ((4 : Int) == 6) = false := rfl
  refine ACallsF.intro ok66 follows fun X c0 => ?_
  simp only [RUN, core, T.c, T.s, T.b, T.i, sBin, sInt, sUn, isShift, asInt, P1.cells, loadT, ptrC, storeT, putC, fillP, Nat.reduceAdd, reduceIte, Nat.reduceEqDiff, Nat.reduceLT, Nat.reduceLeDiff, reduceCtorEq, eq_self, FIT, lendCs_map, verC_map, FinC, resPs, resP, lendPl, lendCs, lendC, sealC, partsT, finHs, tupT, verT, verP, verC, verB, verAt, Blk.ver, handsAre, forall_const, CHT, disj, Nat.reduceBEq, beq_self_eq_true, APT, srcOf, sealPs, sealCs, sealC, List.mem_singleton, forall_eq, ALT, UMo_1, encK_mk, e0, e2, ep, eq, Int.toNat_zero, Int.le_refl, List.length_map, encK_len, takeK, Nat.le_refl]
  refine callC hC rfl rfl (by simp [closedA, closedP, closedC]) (by simp [closedT, closedP, closedC]) ?_
  simp only [RUN, core, T.c, T.s, T.b, T.i, sBin, sInt, sUn, isShift, asInt, P1.cells, loadT, ptrC, storeT, putC, fillP, Nat.reduceAdd, reduceIte, Nat.reduceEqDiff, Nat.reduceLT, Nat.reduceLeDiff, reduceCtorEq, eq_self, FIT, lendCs_map, verC_map, FinC, resPs, resP, lendPl, lendCs, lendC, sealC, partsT, finHs, tupT, verT, verP, verC, verB, verAt, Blk.ver, handsAre, forall_const, CHT, disj, Nat.reduceBEq, beq_self_eq_true, APT, srcOf, sealPs, sealCs, sealC, List.mem_singleton, forall_eq, ALT, UMo_1, List.length_map, encK_len, takeK, Nat.le_refl, hw, List.length_cons, List.length_nil]
end Go.V
set_option linter.unusedSimpArgs false
namespace Go.V
open Go.Proofs
def JP (na : List ByteArray) (ka : List Kd) (nb : List ByteArray) (kb : List Kd) (i : Nat) (y : Kd) : Prop :=
  ∃ x, (mrg na nb)[i]? = some x ∧ (∀ p q, kid na ka x = some p → kid nb kb x = some q → Jn p q y) ∧ (∀ p, kid na ka x = some p → kid nb kb x = none → y = opt p) ∧ ∀ q, kid na ka x = none → kid nb kb x = some q → y = opt q
def Bad (na : List ByteArray) (ka : List Kd) (nb : List ByteArray) (kb : List Kd) (i : Nat) : Prop := ∃ x p q, (mrg na nb)[i]? = some x ∧ kid na ka x = some p ∧ kid nb kb x = some q ∧ ∀ y, ¬ Jn p q y
theorem least' {P : Nat → Prop} (n : Nat) : (∀ i, i < n → ¬ P i) ∨ ∃ i, i < n ∧ P i ∧ ∀ j, j < i → ¬ P j := by
  induction n with
  | zero => exact .inl fun i hi => absurd hi (Nat.not_lt_zero i)
  | succ n ih =>
    rcases ih with h | ⟨i, h1, h2, h3⟩
    · by_cases hn : P n
      · exact .inr ⟨n, by omega, hn, h⟩
      · refine .inl fun i hi => ?_
        by_cases e : i = n
        · rw [e]; exact hn
        · exact h i (by omega)
    · exact .inr ⟨i, by omega, h2, h3⟩
/-- How far the two are put together. -/
theorem join_plan (na nb : List ByteArray) (ka kb : List Kd) (hna : na.length ≤ ka.length) (hnb : nb.length ≤ kb.length) :
    ∃ ks : List Kd, (∀ i, i < ks.length → ∃ y, ks[i]? = some y ∧ JP na ka nb kb i y) ∧ ((ks.length = (mrg na nb).length ∧ Jn (.mk 5 na ka) (.mk 5 nb kb) (.mk 5 (mrg na nb) ks)) ∨ (ks.length < (mrg na nb).length ∧ Bad na ka nb kb ks.length ∧ ∀ k, ¬ Jn (.mk 5 na ka) (.mk 5 nb kb) k)) := by
  have one : ∀ i, i < (mrg na nb).length → ¬ Bad na ka nb kb i → ∃ y, JP na ka nb kb i y := fun i hi hB => by
    obtain ⟨x, hx⟩ : ∃ x, (mrg na nb)[i]? = some x := ⟨_, List.getElem?_eq_getElem hi⟩
    cases hp : kid na ka x with
    | some p => cases hq : kid nb kb x with
      | some q =>
        by_cases h : ∃ y, Jn p q y
        · obtain ⟨y, hy⟩ := h
          exact ⟨y, x, hx, (fun p' q' e1 e2 => by rw [hp] at e1; rw [hq] at e2; cases e1; cases e2; exact hy), (fun p' _ e => by rw [hq] at e; cases e), (fun q' e => by rw [hp] at e; cases e)⟩
        · exact absurd ⟨x, p, q, hx, hp, hq, fun y hy => h ⟨y, hy⟩⟩ hB
      | none => exact ⟨opt p, x, hx, (fun p' q' _ e => by rw [hq] at e; cases e), (fun p' e _ => by rw [hp] at e; cases e; rfl), (fun q' e => by rw [hp] at e; cases e)⟩
    | none => cases hq : kid nb kb x with
      | some q => exact ⟨opt q, x, hx, (fun p' q' e => by rw [hp] at e; cases e), (fun p' e => by rw [hp] at e; cases e), (fun q' _ e => by rw [hq] at e; cases e; rfl)⟩
      | none =>
        rcases kid_mrg hna hnb hx with ⟨p, h⟩ | ⟨q, h⟩
        · rw [hp] at h; cases h
        · rw [hq] at h; cases h
  have sp : ∀ {ks : List Kd} {i : Nat} {x : ByteArray} {y : Kd}, (∀ i, i < ks.length → ∃ y, ks[i]? = some y ∧ JP na ka nb kb i y) → (mrg na nb)[i]? = some x → ks[i]? = some y → (∀ p q, kid na ka x = some p → kid nb kb x = some q → Jn p q y) ∧ (∀ p, kid na ka x = some p → kid nb kb x = none → y = opt p) ∧ ∀ q, kid na ka x = none → kid nb kb x = some q → y = opt q := fun h hx hy => by
    obtain ⟨y', e, x', g1, g2⟩ := h _ (List.getElem?_eq_some_iff.1 hy).1
    rw [hy] at e; cases e
    rw [hx] at g1; cases g1
    exact g2
  rcases least' (P := Bad na ka nb kb) (mrg na nb).length with h | ⟨M, h1, h2, h3⟩
  · obtain ⟨ks, hl, hks⟩ := choose_list (JP na ka nb kb) (mrg na nb).length fun i hi => one i hi (h i hi)
    have hks' : ∀ i, i < ks.length → ∃ y, ks[i]? = some y ∧ JP na ka nb kb i y := fun i hi => hks i (by omega)
    exact ⟨ks, hks', .inl ⟨hl, .f na ka nb kb ks hna hnb hl (fun i x y p q hx hy => (sp hks' hx hy).1 p q) (fun i x y p hx hy => (sp hks' hx hy).2.1 p) fun i x y q hx hy => (sp hks' hx hy).2.2 q⟩⟩
  · obtain ⟨ks, hl, hks⟩ := choose_list (JP na ka nb kb) M fun i hi => one i (by omega) (h3 i hi)
    refine ⟨ks, fun i hi => hks i (by omega), .inr ⟨by omega, by rw [hl]; exact h2, fun k hk => ?_⟩⟩
    cases hk with
    | m _ _ x h => simp [Kd.sort] at h
    | leaf s _ _ _ _ hs => omega
    | f _ _ _ _ ks' _ _ hl' g1 g2 g3 =>
      obtain ⟨x, p, q, hx, hp, hq, hn⟩ := h2
      obtain ⟨y, hy⟩ : ∃ y, ks'[M]? = some y := ⟨_, List.getElem?_eq_getElem (by omega)⟩
      exact hn y (g1 M x y p q hx hy hp hq)
def S66 (na : List ByteArray) (ka : List Kd) (nb : List ByteArray) (kb : List Kd) (ks : List Kd) (m i j : Nat) (σ : St) : Prop :=
  (∃ u, σ.t 2 = .c (.ptr 2 u 0) ∧ σ.H 2 = some (.var u 26 [.v (.s (.int .i64 5)), .v (.sl (encS na)), .v (.sl (encKs ka))])) ∧ (∃ u, σ.t 3 = .c (.ptr 3 u 0) ∧ σ.H 3 = some (.var u 26 [.v (.s (.int .i64 5)), .v (.sl (encS nb)), .v (.sl (encKs kb))])) ∧
  (∃ u, σ.t 4 = .c (.ptr 4 u 0) ∧ σ.H 4 = some (.var u 26 [.v (.s (.int .i64 0)), .nil0, .nil0])) ∧
  (∃ u a b, σ.t 8 = .c (.ptr 8 u 0) ∧ σ.H 8 = some (.var u 26 [.v (.s (.int .i64 5)), .own 2005 a m, .own 2004 b m]) ∧ σ.H 2005 = some (.arr a true 1 9 (encS ((mrg na nb).take m))) ∧ σ.H 2004 = some (.arr b true 3 26 (encKs (ks.take m)))) ∧
  σ.t 11 = .i i ∧ σ.t 12 = .i j
theorem take_at {α : Type} {l : List α} {m : Nat} {x : α} (h : l[m]? = some x) : l.take (m + 1) = l.take m ++ [x] := by rw [List.take_add_one, h]; rfl
theorem UMp_1 : (type_of% (uA c66_52.eq_1)) ∧ (type_of% (uA c66_24.eq_1)) ∧ (type_of% (uR r66_22.eq_1)) ∧ (type_of% (uA c66_23.eq_1)) ∧ (type_of% (uA c66_51.eq_1)) ∧ (type_of% (uA c66_50.eq_1)) ∧ (type_of% (uA c66_49.eq_1)) ∧ (type_of% (uR r66_25.eq_1)) ∧ (type_of% (uA c66_48.eq_1)) ∧ (type_of% (uA c66_29.eq_1)) ∧ (type_of% (uR r66_26.eq_1)) ∧ (type_of% (uR r66_27.eq_1)) ∧ (type_of% (uR r66_28.eq_1)) ∧ (type_of% (uA c66_47.eq_1)) ∧ (type_of% (uR r66_30.eq_1)) ∧ (type_of% (uA c66_46.eq_1)) ∧ (type_of% (uA c66_34.eq_1)) ∧ (type_of% (uR r66_31.eq_1)) ∧ (type_of% (uR r66_32.eq_1)) ∧ (type_of% (uR r66_33.eq_1)) ∧ (type_of% (uA c66_45.eq_1)) ∧ (type_of% (uR r66_35.eq_1)) ∧ (type_of% (uA c66_40.eq_1)) ∧ (type_of% (uR r66_36.eq_1)) ∧ (type_of% (uA c66_39.eq_1)) ∧ (type_of% (uA c66_38.eq_1)) ∧ (type_of% (uR r66_37.eq_1)) ∧ (type_of% (uR r66_41.eq_1)) ∧ (type_of% (uR r66_42.eq_1)) ∧ (type_of% (uR r66_43.eq_1)) ∧ (type_of% (uR r66_44.eq_1)) ∧ (type_of% (uA c66.eq_1)) ∧ (type_of% (uR r66_0.eq_1)) ∧ (type_of% (uA c66_6.eq_1)) ∧ (type_of% (uR r66_1.eq_1)) ∧ (type_of% (uA c66_5.eq_1)) ∧ (type_of% (uA c66_4.eq_1)) ∧ (type_of% (uR r66_2.eq_1)) ∧ (type_of% (uR r66_3.eq_1)) ∧ (type_of% (uA c66_11.eq_1)) ∧ (type_of% (uR r66_7.eq_1)) ∧ (type_of% (uA c66_10.eq_1)) ∧ (type_of% (uA c66_9.eq_1)) ∧ (type_of% (uR r66_8.eq_1)) ∧ (type_of% (uR r66_12.eq_1)) ∧ (type_of% (uA c66_19.eq_1)) ∧ (type_of% (uR r66_13.eq_1)) ∧ (type_of% (uA c66_18.eq_1)) ∧ (type_of% (uA c66_17.eq_1)) ∧ (type_of% (uR r66_14.eq_1)) ∧ (type_of% (uR r66_15.eq_1)) ∧ (type_of% (uR r66_16.eq_1)) ∧ (type_of% (uR r66_20.eq_1)) ∧ (type_of% (uR r66_21.eq_1)) ∧ (type_of% (uA c66_54.eq_1)) ∧ (type_of% (uA c66_53.eq_1)) ∧ (type_of% (uR r66_55.eq_1)) ∧ (type_of% s66.eq_1) :=
  ⟨uA c66_52.eq_1, uA c66_24.eq_1, uR r66_22.eq_1, uA c66_23.eq_1, uA c66_51.eq_1, uA c66_50.eq_1, uA c66_49.eq_1, uR r66_25.eq_1, uA c66_48.eq_1, uA c66_29.eq_1, uR r66_26.eq_1, uR r66_27.eq_1, uR r66_28.eq_1, uA c66_47.eq_1, uR r66_30.eq_1, uA c66_46.eq_1, uA c66_34.eq_1, uR r66_31.eq_1, uR r66_32.eq_1, uR r66_33.eq_1, uA c66_45.eq_1, uR r66_35.eq_1, uA c66_40.eq_1, uR r66_36.eq_1, uA c66_39.eq_1, uA c66_38.eq_1, uR r66_37.eq_1, uR r66_41.eq_1, uR r66_42.eq_1, uR r66_43.eq_1, uR r66_44.eq_1, uA c66.eq_1, uR r66_0.eq_1, uA c66_6.eq_1, uR r66_1.eq_1, uA c66_5.eq_1, uA c66_4.eq_1, uR r66_2.eq_1, uR r66_3.eq_1, uA c66_11.eq_1, uR r66_7.eq_1, uA c66_10.eq_1, uA c66_9.eq_1, uR r66_8.eq_1, uR r66_12.eq_1, uA c66_19.eq_1, uR r66_13.eq_1, uA c66_18.eq_1, uA c66_17.eq_1, uR r66_14.eq_1, uR r66_15.eq_1, uR r66_16.eq_1, uR r66_20.eq_1, uR r66_21.eq_1, uA c66_54.eq_1, uA c66_53.eq_1, uR r66_55.eq_1, s66.eq_1⟩
theorem j66_a {na nb : List ByteArray} {ka kb ks : List Kd} {m i j : Nat} {x : ByteArray} {k : Kd} (hn : na.length ≤ 1000000) (hb : nb.length ≤ 1000000) (hm : m < ks.length) (hmn : m < (mrg na nb).length) (hi : na[i]? = some x) (hk : ka[i]? = some k) (hB : KB 1000000 k)
    (hj : nb.length ≤ j ∨ ∃ y, nb[j]? = some y ∧ less x y = true) (hmx : (mrg na nb)[m]? = some x) (hks : ks[m]? = some (opt k)) {X : Ctx} {Q : Exit → St → Prop} {t : Nat → T} {H : HMap} {c : Nat} (hS : S66 na ka nb kb ks m i j ⟨t, H, c⟩) {A : St → Prop} (hA : ∀ σ, S66 na ka nb kb ks (m + 1) (i + 1) j σ → A σ) :
    wpa Try.prog X c66_52 (thenA A Q) ⟨t, H, c⟩ := by
  obtain ⟨⟨u2, e2, eH2⟩, ⟨u3, e3, eH3⟩, ⟨u4, e4, eH4⟩, ⟨u8, a, b, e8, eH8, eHa, eHb⟩, e11, e12⟩ := hS
  simp only [T.c, T.i] at e2 eH2 e3 eH3 e4 eH4 e8 eH8 eHa eHb e11 e12
  have hlen := mrg_len na nb
  have l1 : (encS ((mrg na nb).take m)).length = m := by rw [encS_len, List.length_take]; omega
  have l2 : (encKs (ks.take m)).length = m := by rw [encKs_len, List.length_take]; omega
  have t1 : List.take m (encS ((mrg na nb).take m)) = encS ((mrg na nb).take m) := List.take_of_length_le (by omega)
  have t2 : List.take m (encKs (ks.take m)) = encKs (ks.take m) := List.take_of_length_le (by omega)
  have hil := (List.getElem?_eq_some_iff.1 hi).1
  have g1 : (i : Int) < na.length := by omega
  have g1' : ¬ (i : Int) ≥ na.length := by omega
  have gz : (0 : Int) ≤ i := by omega
  have gw : IntKind.i64.wrap ((i : Int) + 1) = ((i + 1 : Nat) : Int) := wrap64 (x := (i : Int) + 1) ⟨by omega, by omega⟩
  have q1 : (m + 1) * 16 ≤ 140737488355328 := by omega
  have q3 : (m + 1) * 56 ≤ 140737488355328 := by omega
  have q4 : m + 1 ≤ 9223372036854775807 := by omega
  have ei := encS_at hi
  have ek := encKs_at hk
  have n1 : encS ((mrg na nb).take (m + 1)) = encS ((mrg na nb).take m) ++ [[.s (.string x)]] := by rw [take_at hmx]; exact encS_snoc _ _
  have n2 : encKs (ks.take (m + 1)) = encKs (ks.take m) ++ [encK (opt k)] := by rw [take_at hks]; exact encKs_snoc _ _
  rcases hj with hj | ⟨y, hy, hxy⟩
  · have g2 : (j : Int) ≥ nb.length := by omega
    simp only [RUN, core, T.c, T.s, T.b, T.i, sBin, sInt, sUn, isShift, asInt, P1.cells, loadT, ptrC, storeT, putC, fillP, Nat.reduceAdd, reduceIte, Nat.reduceEqDiff, Nat.reduceLT, Nat.reduceLeDiff, reduceCtorEq, eq_self, FIT, lendCs_map, verC_map, FinC, resPs, resP, lendPl, lendCs, lendC, sealC, partsT, finHs, tupT, verT, verP, verC, verB, verAt, Blk.ver, handsAre, forall_const, CHT, disj, Nat.reduceBEq, beq_self_eq_true, APT, srcOf, sealPs, sealCs, sealC, List.mem_singleton, forall_eq, ALT, UMp_1, e2, eH2, e3, eH3, e8, eH8, eHa, eHb, e11, e12, encS_len, g1, g2, gz, Int.toNat_natCast, ei, ek, l1, t1, q1, q4, List.length_cons, List.length_nil, List.length_map, encK_len, encKs_len, takeK, Nat.le_refl]
    refine callC (optS_ok k hB) rfl rfl (by simp [closedA, closedP, closedC]) (by simp [closedT, closedP, closedC]) ?_
    simp only [RUN, core, T.c, T.s, T.b, T.i, sBin, sInt, sUn, isShift, asInt, P1.cells, loadT, ptrC, storeT, putC, fillP, Nat.reduceAdd, reduceIte, Nat.reduceEqDiff, Nat.reduceLT, Nat.reduceLeDiff, reduceCtorEq, eq_self, FIT, lendCs_map, verC_map, FinC, resPs, resP, lendPl, lendCs, lendC, sealC, partsT, finHs, tupT, verT, verP, verC, verB, verAt, Blk.ver, handsAre, forall_const, CHT, disj, Nat.reduceBEq, beq_self_eq_true, APT, srcOf, sealPs, sealCs, sealC, List.mem_singleton, forall_eq, ALT, UMp_1, e8, e11, eHb, l2, t2, q3, q4, gw, encK_len, encKs_len, List.length_cons, List.length_nil]
    refine hA _ ?_
    unfold S66
    rw [n1, n2]
    exact ⟨⟨u2, e2, eH2⟩, ⟨u3, e3, eH3⟩, ⟨u4, e4, eH4⟩, ⟨u8, _, _, e8, rfl, rfl, rfl⟩, rfl, e12⟩
  · have hjl := (List.getElem?_eq_some_iff.1 hy).1
    have g2 : ¬ (j : Int) ≥ nb.length := by omega
    have gj : (j : Int) < nb.length := by omega
    have gy : (0 : Int) ≤ j := by omega
    have ey := encS_at hy
    have hxy' : Op.bytesLess x.toList y.toList = true := hxy
    simp only [RUN, core, T.c, T.s, T.b, T.i, sBin, sInt, sUn, isShift, asInt, P1.cells, loadT, ptrC, storeT, putC, fillP, Nat.reduceAdd, reduceIte, Nat.reduceEqDiff, Nat.reduceLT, Nat.reduceLeDiff, reduceCtorEq, eq_self, FIT, lendCs_map, verC_map, FinC, resPs, resP, lendPl, lendCs, lendC, sealC, partsT, finHs, tupT, verT, verP, verC, verB, verAt, Blk.ver, handsAre, forall_const, CHT, disj, Nat.reduceBEq, beq_self_eq_true, APT, srcOf, sealPs, sealCs, sealC, List.mem_singleton, forall_eq, ALT, UMp_1, e2, eH2, e3, eH3, e8, eH8, eHa, eHb, e11, e12, encS_len, g1, g2, gz, gy, Int.toNat_natCast, ei, ek, ey, sStr, hxy', l1, t1, q1, q4, List.length_cons, List.length_nil, List.length_map, encK_len, encKs_len, takeK, Nat.le_refl]
    refine callC (optS_ok k hB) rfl rfl (by simp [closedA, closedP, closedC]) (by simp [closedT, closedP, closedC]) ?_
    simp only [RUN, core, T.c, T.s, T.b, T.i, sBin, sInt, sUn, isShift, asInt, P1.cells, loadT, ptrC, storeT, putC, fillP, Nat.reduceAdd, reduceIte, Nat.reduceEqDiff, Nat.reduceLT, Nat.reduceLeDiff, reduceCtorEq, eq_self, FIT, lendCs_map, verC_map, FinC, resPs, resP, lendPl, lendCs, lendC, sealC, partsT, finHs, tupT, verT, verP, verC, verB, verAt, Blk.ver, handsAre, forall_const, CHT, disj, Nat.reduceBEq, beq_self_eq_true, APT, srcOf, sealPs, sealCs, sealC, List.mem_singleton, forall_eq, ALT, UMp_1, e8, e11, eHb, l2, t2, q3, q4, gw, encK_len, encKs_len, List.length_cons, List.length_nil]
    refine hA _ ?_
    unfold S66
    rw [n1, n2]
    exact ⟨⟨u2, e2, eH2⟩, ⟨u3, e3, eH3⟩, ⟨u4, e4, eH4⟩, ⟨u8, _, _, e8, rfl, rfl, rfl⟩, rfl, e12⟩
set_option maxRecDepth 10000 in
theorem j66_b {na nb : List ByteArray} {ka kb ks : List Kd} {m i j : Nat} {y : ByteArray} {k : Kd} (hn : na.length ≤ 1000000) (hb : nb.length ≤ 1000000) (hm : m < ks.length) (hmn : m < (mrg na nb).length) (hj : nb[j]? = some y) (hk : kb[j]? = some k) (hB : KB 1000000 k)
    (hi : na.length ≤ i ∨ ∃ x, na[i]? = some x ∧ less y x = true) (hmx : (mrg na nb)[m]? = some y) (hks : ks[m]? = some (opt k)) {X : Ctx} {Q : Exit → St → Prop} {t : Nat → T} {H : HMap} {c : Nat} (hS : S66 na ka nb kb ks m i j ⟨t, H, c⟩) {A : St → Prop} (hA : ∀ σ, S66 na ka nb kb ks (m + 1) i (j + 1) σ → A σ) :
    wpa Try.prog X c66_52 (thenA A Q) ⟨t, H, c⟩ := by
  obtain ⟨⟨u2, e2, eH2⟩, ⟨u3, e3, eH3⟩, ⟨u4, e4, eH4⟩, ⟨u8, a, b, e8, eH8, eHa, eHb⟩, e11, e12⟩ := hS
  simp only [T.c, T.i] at e2 eH2 e3 eH3 e4 eH4 e8 eH8 eHa eHb e11 e12
  have hlen := mrg_len na nb
  have l1 : (encS ((mrg na nb).take m)).length = m := by rw [encS_len, List.length_take]; omega
  have l2 : (encKs (ks.take m)).length = m := by rw [encKs_len, List.length_take]; omega
  have t1 : List.take m (encS ((mrg na nb).take m)) = encS ((mrg na nb).take m) := List.take_of_length_le (by omega)
  have t2 : List.take m (encKs (ks.take m)) = encKs (ks.take m) := List.take_of_length_le (by omega)
  have hjl := (List.getElem?_eq_some_iff.1 hj).1
  have gj : (j : Int) < nb.length := by omega
  have g2 : ¬ (j : Int) ≥ nb.length := by omega
  have gy : (0 : Int) ≤ j := by omega
  have gw : IntKind.i64.wrap ((j : Int) + 1) = ((j + 1 : Nat) : Int) := wrap64 (x := (j : Int) + 1) ⟨by omega, by omega⟩
  have q1 : (m + 1) * 16 ≤ 140737488355328 := by omega
  have q3 : (m + 1) * 56 ≤ 140737488355328 := by omega
  have q4 : m + 1 ≤ 9223372036854775807 := by omega
  have ey := encS_at hj
  have ek := encKs_at hk
  have n1 : encS ((mrg na nb).take (m + 1)) = encS ((mrg na nb).take m) ++ [[.s (.string y)]] := by rw [take_at hmx]; exact encS_snoc _ _
  have n2 : encKs (ks.take (m + 1)) = encKs (ks.take m) ++ [encK (opt k)] := by rw [take_at hks]; exact encKs_snoc _ _
  rcases hi with hi | ⟨x, hi, hxy⟩
  · have g1 : ¬ (i : Int) < na.length := by omega
    have g1' : (i : Int) ≥ na.length := by omega
    simp only [RUN, core, T.c, T.s, T.b, T.i, sBin, sInt, sUn, isShift, asInt, P1.cells, loadT, ptrC, storeT, putC, fillP, Nat.reduceAdd, reduceIte, Nat.reduceEqDiff, Nat.reduceLT, Nat.reduceLeDiff, reduceCtorEq, eq_self, FIT, lendCs_map, verC_map, FinC, resPs, resP, lendPl, lendCs, lendC, sealC, partsT, finHs, tupT, verT, verP, verC, verB, verAt, Blk.ver, handsAre, forall_const, CHT, disj, Nat.reduceBEq, beq_self_eq_true, APT, srcOf, sealPs, sealCs, sealC, List.mem_singleton, forall_eq, ALT, UMp_1, e2, eH2, e3, eH3, e8, eH8, eHa, eHb, e11, e12, encS_len, g1, g1', gj, g2, gy, Int.toNat_natCast, ek, ey, l1, t1, q1, q4, List.length_cons, List.length_nil, List.length_map, encK_len, encKs_len, takeK, Nat.le_refl]
    refine callC (optS_ok k hB) rfl rfl (by simp [closedA, closedP, closedC]) (by simp [closedT, closedP, closedC]) ?_
    simp only [RUN, core, T.c, T.s, T.b, T.i, sBin, sInt, sUn, isShift, asInt, P1.cells, loadT, ptrC, storeT, putC, fillP, Nat.reduceAdd, reduceIte, Nat.reduceEqDiff, Nat.reduceLT, Nat.reduceLeDiff, reduceCtorEq, eq_self, FIT, lendCs_map, verC_map, FinC, resPs, resP, lendPl, lendCs, lendC, sealC, partsT, finHs, tupT, verT, verP, verC, verB, verAt, Blk.ver, handsAre, forall_const, CHT, disj, Nat.reduceBEq, beq_self_eq_true, APT, srcOf, sealPs, sealCs, sealC, List.mem_singleton, forall_eq, ALT, UMp_1, e8, e12, eHb, l2, t2, q3, q4, gw, encK_len, encKs_len, List.length_cons, List.length_nil]
    refine hA _ ?_
    unfold S66
    rw [n1, n2]
    exact ⟨⟨u2, e2, eH2⟩, ⟨u3, e3, eH3⟩, ⟨u4, e4, eH4⟩, ⟨u8, _, _, e8, rfl, rfl, rfl⟩, e11, rfl⟩
  · have hil := (List.getElem?_eq_some_iff.1 hi).1
    have g1 : (i : Int) < na.length := by omega
    have g1' : ¬ (i : Int) ≥ na.length := by omega
    have gz : (0 : Int) ≤ i := by omega
    have ei := encS_at hi
    have hxy1 : Op.bytesLess x.toList y.toList = false := less_asymm hxy
    have hxy2 : (x.toList == y.toList) = false := by
      rw [str_beq]
      refine decide_eq_false fun e => ?_
      rw [e, less_irrefl] at hxy; cases hxy
    simp only [RUN, core, T.c, T.s, T.b, T.i, sBin, sInt, sUn, isShift, asInt, P1.cells, loadT, ptrC, storeT, putC, fillP, Nat.reduceAdd, reduceIte, Nat.reduceEqDiff, Nat.reduceLT, Nat.reduceLeDiff, reduceCtorEq, eq_self, FIT, lendCs_map, verC_map, FinC, resPs, resP, lendPl, lendCs, lendC, sealC, partsT, finHs, tupT, verT, verP, verC, verB, verAt, Blk.ver, handsAre, forall_const, CHT, disj, Nat.reduceBEq, beq_self_eq_true, APT, srcOf, sealPs, sealCs, sealC, List.mem_singleton, forall_eq, ALT, UMp_1, e2, eH2, e3, eH3, e8, eH8, eHa, eHb, e11, e12, encS_len, g1, g1', gj, g2, gz, gy, Int.toNat_natCast, ei, ek, ey, sStr, hxy1, hxy2, l1, t1, q1, q4, List.length_cons, List.length_nil, List.length_map, encK_len, encKs_len, takeK, Nat.le_refl]
    refine callC (optS_ok k hB) rfl rfl (by simp [closedA, closedP, closedC]) (by simp [closedT, closedP, closedC]) ?_
    simp only [RUN, core, T.c, T.s, T.b, T.i, sBin, sInt, sUn, isShift, asInt, P1.cells, loadT, ptrC, storeT, putC, fillP, Nat.reduceAdd, reduceIte, Nat.reduceEqDiff, Nat.reduceLT, Nat.reduceLeDiff, reduceCtorEq, eq_self, FIT, lendCs_map, verC_map, FinC, resPs, resP, lendPl, lendCs, lendC, sealC, partsT, finHs, tupT, verT, verP, verC, verB, verAt, Blk.ver, handsAre, forall_const, CHT, disj, Nat.reduceBEq, beq_self_eq_true, APT, srcOf, sealPs, sealCs, sealC, List.mem_singleton, forall_eq, ALT, UMp_1, e8, e12, eHb, l2, t2, q3, q4, gw, encK_len, encKs_len, List.length_cons, List.length_nil]
    refine hA _ ?_
    unfold S66
    rw [n1, n2]
    exact ⟨⟨u2, e2, eH2⟩, ⟨u3, e3, eH3⟩, ⟨u4, e4, eH4⟩, ⟨u8, _, _, e8, rfl, rfl, rfl⟩, e11, rfl⟩
theorem j66_c {na nb : List ByteArray} {ka kb ks : List Kd} {m i j : Nat} {x : ByteArray} {p q k : Kd} (hn : na.length ≤ 1000000) (hb : nb.length ≤ 1000000) (hm : m < ks.length) (hmn : m < (mrg na nb).length) (hi : na[i]? = some x) (hj : nb[j]? = some x) (hp : ka[i]? = some p) (hq : kb[j]? = some q)
    (hC : ACallsF Try.prog 66 [tK p, tK q] [] (tKB (k, true))) (hmx : (mrg na nb)[m]? = some x) (hks : ks[m]? = some k) {X : Ctx} {Q : Exit → St → Prop} {t : Nat → T} {H : HMap} {c : Nat} (hS : S66 na ka nb kb ks m i j ⟨t, H, c⟩) {A : St → Prop} (hA : ∀ σ, S66 na ka nb kb ks (m + 1) (i + 1) (j + 1) σ → A σ) :
    wpa Try.prog X c66_52 (thenA A Q) ⟨t, H, c⟩ := by
  obtain ⟨⟨u2, e2, eH2⟩, ⟨u3, e3, eH3⟩, ⟨u4, e4, eH4⟩, ⟨u8, a, b, e8, eH8, eHa, eHb⟩, e11, e12⟩ := hS
  simp only [T.c, T.i] at e2 eH2 e3 eH3 e4 eH4 e8 eH8 eHa eHb e11 e12
  have hlen := mrg_len na nb
  have l1 : (encS ((mrg na nb).take m)).length = m := by rw [encS_len, List.length_take]; omega
  have l2 : (encKs (ks.take m)).length = m := by rw [encKs_len, List.length_take]; omega
  have t1 : List.take m (encS ((mrg na nb).take m)) = encS ((mrg na nb).take m) := List.take_of_length_le (by omega)
  have t2 : List.take m (encKs (ks.take m)) = encKs (ks.take m) := List.take_of_length_le (by omega)
  have hil := (List.getElem?_eq_some_iff.1 hi).1
  have hjl := (List.getElem?_eq_some_iff.1 hj).1
  have g1 : (i : Int) < na.length := by omega
  have g1' : ¬ (i : Int) ≥ na.length := by omega
  have gz : (0 : Int) ≤ i := by omega
  have gj : (j : Int) < nb.length := by omega
  have g2 : ¬ (j : Int) ≥ nb.length := by omega
  have gy : (0 : Int) ≤ j := by omega
  have gw : IntKind.i64.wrap ((i : Int) + 1) = ((i + 1 : Nat) : Int) := wrap64 (x := (i : Int) + 1) ⟨by omega, by omega⟩
  have gw2 : IntKind.i64.wrap ((j : Int) + 1) = ((j + 1 : Nat) : Int) := wrap64 (x := (j : Int) + 1) ⟨by omega, by omega⟩
  have q1 : (m + 1) * 16 ≤ 140737488355328 := by omega
  have q3 : (m + 1) * 56 ≤ 140737488355328 := by omega
  have q4 : m + 1 ≤ 9223372036854775807 := by omega
  have ei := encS_at hi
  have ey := encS_at hj
  have ep := encKs_at hp
  have eq := encKs_at hq
  have hxx1 : Op.bytesLess x.toList x.toList = false := bl_irrefl _
  have hxx2 : (x.toList == x.toList) = true := by rw [str_beq]; simp
  have n1 : encS ((mrg na nb).take (m + 1)) = encS ((mrg na nb).take m) ++ [[.s (.string x)]] := by rw [take_at hmx]; exact encS_snoc _ _
  have n2 : encKs (ks.take (m + 1)) = encKs (ks.take m) ++ [encK k] := by rw [take_at hks]; exact encKs_snoc _ _
  simp only [RUN, core, T.c, T.s, T.b, T.i, sBin, sInt, sUn, isShift, asInt, P1.cells, loadT, ptrC, storeT, putC, fillP, Nat.reduceAdd, reduceIte, Nat.reduceEqDiff, Nat.reduceLT, Nat.reduceLeDiff, reduceCtorEq, eq_self, FIT, lendCs_map, verC_map, FinC, resPs, resP, lendPl, lendCs, lendC, sealC, partsT, finHs, tupT, verT, verP, verC, verB, verAt, Blk.ver, handsAre, forall_const, CHT, disj, Nat.reduceBEq, beq_self_eq_true, APT, srcOf, sealPs, sealCs, sealC, List.mem_singleton, forall_eq, ALT, UMp_1, e2, eH2, e3, eH3, e8, eH8, e11, e12, encS_len, g1, g1', gj, g2, gz, gy, Int.toNat_natCast, ei, ey, ep, eq, sStr, hxx1, hxx2, List.length_map, encK_len, encKs_len, takeK, Nat.le_refl]
  refine callC hC rfl rfl (by simp [closedA, closedP, closedC]) (by simp [closedT, closedP, closedC]) ?_
  simp only [RUN, core, T.c, T.s, T.b, T.i, sBin, sInt, sUn, isShift, asInt, P1.cells, loadT, ptrC, storeT, putC, fillP, Nat.reduceAdd, reduceIte, Nat.reduceEqDiff, Nat.reduceLT, Nat.reduceLeDiff, reduceCtorEq, eq_self, FIT, lendCs_map, verC_map, FinC, resPs, resP, lendPl, lendCs, lendC, sealC, partsT, finHs, tupT, verT, verP, verC, verB, verAt, Blk.ver, handsAre, forall_const, CHT, disj, Nat.reduceBEq, beq_self_eq_true, APT, srcOf, sealPs, sealCs, sealC, List.mem_singleton, forall_eq, ALT, UMp_1, e2, eH2, e8, eH8, e11, e12, eHa, eHb, gz, ei, Int.toNat_natCast, l1, t1, l2, t2, q1, q3, q4, gw, gw2, encK_len, encKs_len, encS_len, List.length_cons, List.length_nil, List.length_map, takeK, Nat.le_refl]
  refine hA _ ?_
  unfold S66
  rw [n1, n2]
  exact ⟨⟨u2, e2, eH2⟩, ⟨u3, e3, eH3⟩, ⟨u4, e4, eH4⟩, ⟨u8, _, _, e8, rfl, rfl, rfl⟩, rfl, rfl⟩
end Go.V
set_option linter.unusedSimpArgs false
namespace Go.V
open Go.Proofs
def I66 (na : List ByteArray) (ka : List Kd) (nb : List ByteArray) (kb : List Kd) (ks : List Kd) (m : Nat) (σ : St) : Prop := ∃ i j, MR na nb m i j ∧ S66 na ka nb kb ks m i j σ
theorem JP.at {na nb : List ByteArray} {ka kb ks : List Kd} {i : Nat} {x : ByteArray} (h : ∀ i, i < ks.length → ∃ y, ks[i]? = some y ∧ JP na ka nb kb i y) (hi : i < ks.length) (hx : (mrg na nb)[i]? = some x) :
    ∃ y, ks[i]? = some y ∧ (∀ p q, kid na ka x = some p → kid nb kb x = some q → Jn p q y) ∧ (∀ p, kid na ka x = some p → kid nb kb x = none → y = opt p) ∧ ∀ q, kid na ka x = none → kid nb kb x = some q → y = opt q := by
  obtain ⟨y, hy, x', g1, g2⟩ := h i hi
  rw [hx] at g1; cases g1
  exact ⟨y, hy, g2⟩
theorem UMq_1 : (type_of% (uA c66.eq_1)) ∧ (type_of% (uR r66_0.eq_1)) ∧ (type_of% (uA c66_6.eq_1)) ∧ (type_of% (uR r66_1.eq_1)) ∧ (type_of% (uA c66_5.eq_1)) ∧ (type_of% (uA c66_4.eq_1)) ∧ (type_of% (uR r66_2.eq_1)) ∧ (type_of% (uR r66_3.eq_1)) ∧ (type_of% (uA c66_11.eq_1)) ∧ (type_of% (uR r66_7.eq_1)) ∧ (type_of% (uA c66_10.eq_1)) ∧ (type_of% (uA c66_9.eq_1)) ∧ (type_of% (uR r66_8.eq_1)) ∧ (type_of% (uR r66_12.eq_1)) ∧ (type_of% (uA c66_19.eq_1)) ∧ (type_of% (uR r66_13.eq_1)) ∧ (type_of% (uA c66_18.eq_1)) ∧ (type_of% (uA c66_17.eq_1)) ∧ (type_of% (uR r66_14.eq_1)) ∧ (type_of% (uR r66_15.eq_1)) ∧ (type_of% (uR r66_16.eq_1)) ∧ (type_of% (uR r66_20.eq_1)) ∧ (type_of% (uR r66_21.eq_1)) ∧ (type_of% (uA c66_54.eq_1)) ∧ (type_of% (uA c66_53.eq_1)) ∧ (type_of% (uR r66_55.eq_1)) ∧ (type_of% s66.eq_1) :=
  ⟨uA c66.eq_1, uR r66_0.eq_1, uA c66_6.eq_1, uR r66_1.eq_1, uA c66_5.eq_1, uA c66_4.eq_1, uR r66_2.eq_1, uR r66_3.eq_1, uA c66_11.eq_1, uR r66_7.eq_1, uA c66_10.eq_1, uA c66_9.eq_1, uR r66_8.eq_1, uR r66_12.eq_1, uA c66_19.eq_1, uR r66_13.eq_1, uA c66_18.eq_1, uA c66_17.eq_1, uR r66_14.eq_1, uR r66_15.eq_1, uR r66_16.eq_1, uR r66_20.eq_1, uR r66_21.eq_1, uA c66_54.eq_1, uA c66_53.eq_1, uR r66_55.eq_1, s66.eq_1⟩
theorem UMq_2 : (type_of% (uA c66_52.eq_1)) ∧ (type_of% (uA c66_24.eq_1)) ∧ (type_of% (uR r66_22.eq_1)) ∧ (type_of% (uA c66_23.eq_1)) ∧ (type_of% (uA c66_51.eq_1)) ∧ (type_of% (uA c66_50.eq_1)) ∧ (type_of% (uA c66_49.eq_1)) ∧ (type_of% (uR r66_25.eq_1)) ∧ (type_of% (uA c66_48.eq_1)) ∧ (type_of% (uA c66_29.eq_1)) ∧ (type_of% (uR r66_26.eq_1)) ∧ (type_of% (uR r66_27.eq_1)) ∧ (type_of% (uR r66_28.eq_1)) ∧ (type_of% (uA c66_47.eq_1)) ∧ (type_of% (uR r66_30.eq_1)) ∧ (type_of% (uA c66_46.eq_1)) ∧ (type_of% (uA c66_34.eq_1)) ∧ (type_of% (uR r66_31.eq_1)) ∧ (type_of% (uR r66_32.eq_1)) ∧ (type_of% (uR r66_33.eq_1)) ∧ (type_of% (uA c66_45.eq_1)) ∧ (type_of% (uR r66_35.eq_1)) ∧ (type_of% (uA c66_40.eq_1)) ∧ (type_of% (uR r66_36.eq_1)) ∧ (type_of% (uA c66_39.eq_1)) ∧ (type_of% (uA c66_38.eq_1)) ∧ (type_of% (uR r66_37.eq_1)) ∧ (type_of% (uR r66_41.eq_1)) ∧ (type_of% (uR r66_42.eq_1)) ∧ (type_of% (uR r66_43.eq_1)) ∧ (type_of% (uR r66_44.eq_1)) ∧ (type_of% (uA c66.eq_1)) ∧ (type_of% (uR r66_0.eq_1)) ∧ (type_of% (uA c66_6.eq_1)) ∧ (type_of% (uR r66_1.eq_1)) ∧ (type_of% (uA c66_5.eq_1)) ∧ (type_of% (uA c66_4.eq_1)) ∧ (type_of% (uR r66_2.eq_1)) ∧ (type_of% (uR r66_3.eq_1)) ∧ (type_of% (uA c66_11.eq_1)) ∧ (type_of% (uR r66_7.eq_1)) ∧ (type_of% (uA c66_10.eq_1)) ∧ (type_of% (uA c66_9.eq_1)) ∧ (type_of% (uR r66_8.eq_1)) ∧ (type_of% (uR r66_12.eq_1)) ∧ (type_of% (uA c66_19.eq_1)) ∧ (type_of% (uR r66_13.eq_1)) ∧ (type_of% (uA c66_18.eq_1)) ∧ (type_of% (uA c66_17.eq_1)) ∧ (type_of% (uR r66_14.eq_1)) ∧ (type_of% (uR r66_15.eq_1)) ∧ (type_of% (uR r66_16.eq_1)) ∧ (type_of% (uR r66_20.eq_1)) ∧ (type_of% (uR r66_21.eq_1)) ∧ (type_of% (uA c66_54.eq_1)) ∧ (type_of% (uA c66_53.eq_1)) ∧ (type_of% (uR r66_55.eq_1)) ∧ (type_of% s66.eq_1) :=
  ⟨uA c66_52.eq_1, uA c66_24.eq_1, uR r66_22.eq_1, uA c66_23.eq_1, uA c66_51.eq_1, uA c66_50.eq_1, uA c66_49.eq_1, uR r66_25.eq_1, uA c66_48.eq_1, uA c66_29.eq_1, uR r66_26.eq_1, uR r66_27.eq_1, uR r66_28.eq_1, uA c66_47.eq_1, uR r66_30.eq_1, uA c66_46.eq_1, uA c66_34.eq_1, uR r66_31.eq_1, uR r66_32.eq_1, uR r66_33.eq_1, uA c66_45.eq_1, uR r66_35.eq_1, uA c66_40.eq_1, uR r66_36.eq_1, uA c66_39.eq_1, uA c66_38.eq_1, uR r66_37.eq_1, uR r66_41.eq_1, uR r66_42.eq_1, uR r66_43.eq_1, uR r66_44.eq_1, uA c66.eq_1, uR r66_0.eq_1, uA c66_6.eq_1, uR r66_1.eq_1, uA c66_5.eq_1, uA c66_4.eq_1, uR r66_2.eq_1, uR r66_3.eq_1, uA c66_11.eq_1, uR r66_7.eq_1, uA c66_10.eq_1, uA c66_9.eq_1, uR r66_8.eq_1, uR r66_12.eq_1, uA c66_19.eq_1, uR r66_13.eq_1, uA c66_18.eq_1, uA c66_17.eq_1, uR r66_14.eq_1, uR r66_15.eq_1, uR r66_16.eq_1, uR r66_20.eq_1, uR r66_21.eq_1, uA c66_54.eq_1, uA c66_53.eq_1, uR r66_55.eq_1, s66.eq_1⟩
set_option maxRecDepth 10000 in
theorem joinS_form (na nb : List ByteArray) (ka kb : List Kd) (hla : na.length = ka.length) (hlb : nb.length = kb.length) (hra : RiseP na) (hrb : RiseP nb) (hBa : KB 1000 (.mk 5 na ka)) (hBb : KB 1000 (.mk 5 nb kb)) (ih : ∀ p ∈ ka, ∀ q ∈ kb, JC 66 p q) :
    JC 66 (.mk 5 na ka) (.mk 5 nb kb) := by
  obtain ⟨a1, a2, a3, a4⟩ := hBa.inv
  obtain ⟨b1, b2, b3, b4⟩ := hBb.inv
  obtain ⟨ks, hks, hend⟩ := join_plan na nb ka kb (Nat.le_of_eq hla) (Nat.le_of_eq hlb)
  have hlen := mrg_len na nb
  let R : Kd × Bool := if ks.length = (mrg na nb).length then (.mk 5 (mrg na nb) ks, true) else (.mk 0 [] [], false)
  have hR : JR (.mk 5 na ka) (.mk 5 nb kb) R.1 R.2 ∧ KB 1000000 R.1 := by
    rcases hend with ⟨h1, h2⟩ | ⟨h1, -, h2⟩
    · simp only [R, if_pos h1]
      exact ⟨.inl ⟨rfl, h2⟩, (jn_KB h2 hBa hBb).le (by omega)⟩
    · simp only [R, if_neg (Nat.ne_of_lt h1)]
      exact ⟨.inr ⟨rfl, h2⟩, k0_KB⟩
  refine ⟨R.1, R.2, hR.1, hR.2, ?_⟩
  have e0 : ((5 : Int) == 6) = false := rfl
  have e2 : ((5 : Int) != 5) = false := rfl
  have e4 : ((5 : Int) == 4) = false := rfl
  have hle : ks.length ≤ (mrg na nb).length := by rcases hend with h | h <;> omega
  refine ACallsF.intro ok66 follows fun X c0 => ?_
  simp only [RUN, core, T.c, T.s, T.b, T.i, sBin, sInt, sUn, isShift, asInt, P1.cells, loadT, ptrC, storeT, putC, fillP, Nat.reduceAdd, reduceIte, Nat.reduceEqDiff, Nat.reduceLT, Nat.reduceLeDiff, reduceCtorEq, eq_self, FIT, lendCs_map, verC_map, FinC, resPs, resP, lendPl, lendCs, lendC, sealC, partsT, finHs, tupT, verT, verP, verC, verB, verAt, Blk.ver, handsAre, forall_const, CHT, disj, Nat.reduceBEq, beq_self_eq_true, APT, srcOf, sealPs, sealCs, sealC, List.mem_singleton, forall_eq, ALT, UMq_1, encK_mk, e0, e2, e4]
  refine AW.reify 8 1 2005 1 9 rfl rfl rfl (by decide) ?_
  refine AW.reify 8 2 2004 3 26 rfl rfl rfl (by decide) ?_
  refine AW.upto ks.length (I66 na ka nb kb ks) ⟨0, 0, MR.zero na nb, ⟨_, rfl, rfl⟩, ⟨_, rfl, rfl⟩, ⟨_, rfl, rfl⟩, ⟨_, _, _, rfl, rfl, rfl, rfl⟩, rfl, rfl⟩ fun m t H c hm h => ?_
  obtain ⟨i, j, hM, hS⟩ := h
  have hmore := hM.more
  by_cases hlt : m < (mrg na nb).length
  · obtain ⟨x, hx⟩ : ∃ x, (mrg na nb)[m]? = some x := ⟨_, List.getElem?_eq_getElem hlt⟩
    have stop : m = ks.length → ∃ p q, kid na ka x = some p ∧ kid nb kb x = some q ∧ (∀ y, ¬ Jn p q y) := fun e => by
      rcases hend with ⟨h1, h2⟩ | ⟨h1, ⟨x', p, q, g1, g2, g3, g4⟩, -⟩
      · omega
      · subst e
        rw [hx] at g1; cases g1
        exact ⟨p, q, g2, g3, g4⟩
    have kida : ∀ {i : Nat} {k : Kd}, na[i]? = some x → ka[i]? = some k → kid na ka x = some k := fun h1 h2 => kid_in hra h1 h2
    have kidb : ∀ {i : Nat} {k : Kd}, nb[i]? = some x → kb[i]? = some k → kid nb kb x = some k := fun h1 h2 => kid_in hrb h1 h2
    have noa : (∀ t : Nat, na[t]? ≠ some x) → kid na ka x = none := fun h => kid_none h
    have nob : (∀ t : Nat, nb[t]? ≠ some x) → kid nb kb x = none := fun h => kid_none h
    have caseA : ∀ (Q : Exit → St → Prop) (x' : ByteArray), na[i]? = some x' → (∀ y, nb[j]? = some y → less x' y = true) → wpa Try.prog X c66_52 (thenA (fun σ => m < ks.length ∧ I66 na ka nb kb ks (m + 1) σ) Q) ⟨t, H, c⟩ := fun Q x' hi hl => by
      obtain ⟨g1, g2, g3⟩ := hM.a hra hrb hi hl
      rw [hx] at g1; cases g1
      obtain ⟨k, hk⟩ := at_len hla hi
      have hmk : m < ks.length := by
        rcases Nat.lt_or_ge m ks.length with h | h
        · exact h
        · obtain ⟨p, q, _, h2, _⟩ := stop (by omega)
          rw [nob g2] at h2; cases h2
      obtain ⟨y, hy, _, y2, _⟩ := JP.at hks hmk hx
      have := y2 k (kida hi hk) (nob g2)
      subst this
      exact j66_a (by omega) (by omega) hmk hlt hi hk ((a4 _ (List.mem_of_getElem? hk)).le (by omega)) (by
        rcases Nat.lt_or_ge j nb.length with h | h
        · exact .inr ⟨_, List.getElem?_eq_getElem h, hl _ (List.getElem?_eq_getElem h)⟩
        · exact .inl h) hx hy hS fun σ hσ => ⟨hmk, _, _, g3, hσ⟩
    have caseB : ∀ (Q : Exit → St → Prop) (x' : ByteArray), nb[j]? = some x' → (∀ y, na[i]? = some y → less x' y = true) → wpa Try.prog X c66_52 (thenA (fun σ => m < ks.length ∧ I66 na ka nb kb ks (m + 1) σ) Q) ⟨t, H, c⟩ := fun Q x' hj hl => by
      obtain ⟨g1, g2, g3⟩ := hM.b hra hrb hj hl
      rw [hx] at g1; cases g1
      obtain ⟨k, hk⟩ := at_len hlb hj
      have hmk : m < ks.length := by
        rcases Nat.lt_or_ge m ks.length with h | h
        · exact h
        · obtain ⟨p, q, h2, _, _⟩ := stop (by omega)
          rw [noa g2] at h2; cases h2
      obtain ⟨y, hy, _, _, y2⟩ := JP.at hks hmk hx
      have := y2 k (noa g2) (kidb hj hk)
      subst this
      exact j66_b (by omega) (by omega) hmk hlt hj hk ((b4 _ (List.mem_of_getElem? hk)).le (by omega)) (by
        rcases Nat.lt_or_ge i na.length with h | h
        · exact .inr ⟨_, List.getElem?_eq_getElem h, hl _ (List.getElem?_eq_getElem h)⟩
        · exact .inl h) hx hy hS fun σ hσ => ⟨hmk, _, _, g3, hσ⟩
    cases hi : na[i]? with
    | none =>
      have hil := List.getElem?_eq_none_iff.1 hi
      have hjl : j < nb.length := by rcases hmore.1 hlt with h | h; omega; exact h
      exact caseB _ _ (List.getElem?_eq_getElem hjl) fun y hy => by rw [hi] at hy; cases hy
    | some u =>
      cases hj : nb[j]? with
      | none => exact caseA _ u hi fun y hy => by rw [hj] at hy; cases hy
      | some v =>
        cases h1 : less u v with
        | true => exact caseA _ u hi fun y hy => by rw [hj] at hy; cases hy; exact h1
        | false =>
          cases h2 : less v u with
          | true => exact caseB _ v hj fun y hy => by rw [hi] at hy; cases hy; exact h2
          | false =>
            cases less_tri h1 h2
            obtain ⟨g1, g3⟩ := hM.c hra hrb hi hj
            rw [hx] at g1; cases g1
            obtain ⟨p, hp⟩ := at_len hla hi
            obtain ⟨q, hq⟩ := at_len hlb hj
            obtain ⟨k, ok, hJ, hKB, hC⟩ := ih p (List.mem_of_getElem? hp) q (List.mem_of_getElem? hq)
            rcases Nat.lt_or_ge m ks.length with hmk | hmk
            · obtain ⟨y, hy, y2, _⟩ := JP.at hks hmk hx
              have hJy := y2 p q (kida hi hp) (kidb hj hq)
              rcases hJ with ⟨rfl, hJ⟩ | ⟨_, hJ⟩
              · cases jn_det hJ y hJy
                exact j66_c (by omega) (by omega) hmk hlt hi hj hp hq hC hx hy hS fun σ hσ => ⟨hmk, _, _, g3, hσ⟩
              · exact absurd hJy (hJ y)
            · obtain ⟨p', q', z1, z2, z3⟩ := stop (by omega)
              rw [kida hi hp] at z1; cases z1
              rw [kidb hj hq] at z2; cases z2
              rcases hJ with ⟨rfl, hJ⟩ | ⟨rfl, hJ⟩
              · exact absurd hJ (z3 k)
              have hne : ¬ ks.length = (mrg na nb).length := by omega
              have hR2 : R = (.mk 0 [] [], false) := by simp only [R, if_neg hne]
              rw [hR2]
              obtain ⟨⟨u2, e2, eH2⟩, ⟨u3, e3, eH3⟩, ⟨u4, e4, eH4⟩, ⟨u8, a, b, e8, eH8, eHa, eHb⟩, e11, e12⟩ := hS
              simp only [T.c, T.i] at e2 eH2 e3 eH3 e4 eH4 e8 eH8 eHa eHb e11 e12
              have hil := (List.getElem?_eq_some_iff.1 hi).1
              have hjl := (List.getElem?_eq_some_iff.1 hj).1
              have g1 : (i : Int) < na.length := by omega
              have g1' : ¬ (i : Int) ≥ na.length := by omega
              have gz : (0 : Int) ≤ i := by omega
              have gj : (j : Int) < nb.length := by omega
              have g2 : ¬ (j : Int) ≥ nb.length := by omega
              have gy : (0 : Int) ≤ j := by omega
              have ei := encS_at hi
              have ey := encS_at hj
              have ep := encKs_at hp
              have eq := encKs_at hq
              have hxx1 : Op.bytesLess x.toList x.toList = false := bl_irrefl _
              have hxx2 : (x.toList == x.toList) = true := by rw [str_beq]; simp
              simp only [RUN, core, T.c, T.s, T.b, T.i, sBin, sInt, sUn, isShift, asInt, P1.cells, loadT, ptrC, storeT, putC, fillP, Nat.reduceAdd, reduceIte, Nat.reduceEqDiff, Nat.reduceLT, Nat.reduceLeDiff, reduceCtorEq, eq_self, FIT, lendCs_map, verC_map, FinC, resPs, resP, lendPl, lendCs, lendC, sealC, partsT, finHs, tupT, verT, verP, verC, verB, verAt, Blk.ver, handsAre, forall_const, CHT, disj, Nat.reduceBEq, beq_self_eq_true, APT, srcOf, sealPs, sealCs, sealC, List.mem_singleton, forall_eq, ALT, UMq_2, e2, eH2, e3, eH3, e8, eH8, e11, e12, encS_len, g1, g1', gj, g2, gz, gy, Int.toNat_natCast, ei, ey, ep, eq, sStr, hxx1, hxx2, List.length_map, encK_len, encKs_len, takeK, Nat.le_refl]
              refine callC hC rfl rfl (by simp [closedA, closedP, closedC]) (by simp [closedT, closedP, closedC]) ?_
              simp only [RUN, core, T.c, T.s, T.b, T.i, sBin, sInt, sUn, isShift, asInt, P1.cells, loadT, ptrC, storeT, putC, fillP, Nat.reduceAdd, reduceIte, Nat.reduceEqDiff, Nat.reduceLT, Nat.reduceLeDiff, reduceCtorEq, eq_self, FIT, lendCs_map, verC_map, FinC, resPs, resP, lendPl, lendCs, lendC, sealC, partsT, finHs, tupT, verT, verP, verC, verB, verAt, Blk.ver, handsAre, forall_const, CHT, disj, Nat.reduceBEq, beq_self_eq_true, APT, srcOf, sealPs, sealCs, sealC, List.mem_singleton, forall_eq, ALT, UMq_2, UMq_1, e4, eH4, List.length_map, encK_len, takeK, Nat.le_refl, encK_0]
  · have hmE : m = (mrg na nb).length := by omega
    have hkE : ks.length = (mrg na nb).length := by omega
    have hno := mt hmore.2 hlt
    have hR2 : R = (.mk 5 (mrg na nb) ks, true) := by simp only [R, if_pos hkE]
    rw [hR2]
    obtain ⟨⟨u2, e2, eH2⟩, ⟨u3, e3, eH3⟩, ⟨u4, e4, eH4⟩, ⟨u8, a, b, e8, eH8, eHa, eHb⟩, e11, e12⟩ := hS
    simp only [T.c, T.i] at e2 eH2 e3 eH3 e4 eH4 e8 eH8 eHa eHb e11 e12
    have g1 : ¬ (i : Int) < na.length := fun h => hno (.inl (by omega))
    have g2 : ¬ (j : Int) < nb.length := fun h => hno (.inr (by omega))
    have r1 : (mrg na nb).take m = mrg na nb := List.take_of_length_le (by omega)
    have r2 : ks.take m = ks := List.take_of_length_le (by omega)
    rw [r1] at eHa
    rw [r2] at eHb
    have w1 : List.take m (encS (mrg na nb)) = encS (mrg na nb) := List.take_of_length_le (by rw [encS_len]; omega)
    have w2 : List.take m (encKs ks) = encKs ks := List.take_of_length_le (by rw [encKs_len]; omega)
    have w3 : m ≤ (mrg na nb).length := by omega
    have w4 : m ≤ ks.length := by omega
    simp only [RUN, core, T.c, T.s, T.b, T.i, sBin, sInt, sUn, isShift, asInt, P1.cells, loadT, ptrC, storeT, putC, fillP, Nat.reduceAdd, reduceIte, Nat.reduceEqDiff, Nat.reduceLT, Nat.reduceLeDiff, reduceCtorEq, eq_self, FIT, lendCs_map, verC_map, FinC, resPs, resP, lendPl, lendCs, lendC, sealC, partsT, finHs, tupT, verT, verP, verC, verB, verAt, Blk.ver, handsAre, forall_const, CHT, disj, Nat.reduceBEq, beq_self_eq_true, APT, srcOf, sealPs, sealCs, sealC, List.mem_singleton, forall_eq, ALT, UMq_2, UMq_1, e2, eH2, e3, eH3, e4, eH4, e8, eH8, eHa, eHb, e11, e12, encS_len, encKs_len, g1, g2, w1, w2, w3, w4, encK_mk, List.length_map, encK_len, takeK, Nat.le_refl]
end Go.V
set_option linter.unusedSimpArgs false
namespace Go.V
open Go.Proofs
theorem join_rec (f : FuncId)
    (hm : ∀ (a b : Kd) (da db : Nat), KOk da a → KOk db b → (a.sort = 6 ∨ b.sort = 6) → JC f (bare a) (bare b) → JC f a b)
    (hd : ∀ (sa sb : Int) (na nb : List ByteArray) (ka kb : List Kd), sa ≠ 6 → sb ≠ 6 → sa ≠ sb → JC f (.mk sa na ka) (.mk sb nb kb))
    (hf : ∀ s : Int, s < 4 → JC f (.mk s [] []) (.mk s [] []))
    (hl : ∀ (na nb : List ByteArray) (ka kb : List Kd) (p q : Kd), ka[0]? = some p → kb[0]? = some q → JC f p q → JC f (.mk 4 na ka) (.mk 4 nb kb))
    (hF : ∀ (na nb : List ByteArray) (ka kb : List Kd), na.length = ka.length → nb.length = kb.length → RiseP na → RiseP nb → KB 1000 (.mk 5 na ka) → KB 1000 (.mk 5 nb kb) → (∀ p ∈ ka, ∀ q ∈ kb, JC f p q) → JC f (.mk 5 na ka) (.mk 5 nb kb)) :
    ∀ (N : Nat) (a b : Kd), parts a + parts b ≤ N → ∀ da db : Nat, KOk da a → KOk db b → KB 1000 a → KB 1000 b → JC f a b := by
  intro N
  induction N with
  | zero => intro a b h; have := parts_pos a; omega
  | succ N ih =>
    intro a b hN da db ha hb hBa hBb
    by_cases h6 : a.sort = 6 ∨ b.sort = 6
    · obtain ⟨a1, a2, ⟨ea, a3⟩, a4⟩ := bare_parts ha
      obtain ⟨b1, b2, ⟨eb, b3⟩, b4⟩ := bare_parts hb
      refine hm a b da db ha hb h6 (ih _ _ ?_ ea eb a3 b3 (a4 _ hBa) (b4 _ hBb))
      rcases h6 with h | h
      · have := a2 h; omega
      · have := b2 h; omega
    · have n1 : a.sort ≠ 6 := fun h => h6 (.inl h)
      have n2 : b.sort ≠ 6 := fun h => h6 (.inr h)
      obtain ⟨sa, na, ka⟩ := a
      obtain ⟨sb, nb, kb⟩ := b
      simp only [Kd.sort] at n1 n2
      by_cases hs : sa = sb
      · subst hs
        obtain ⟨_, a2, a3⟩ := ha.inv
        obtain ⟨_, b2, b3⟩ := hb.inv
        have kids : ∀ p ∈ ka, ∀ q ∈ kb, JC f p q := fun p hp q hq => by
          have l1 := partsL_mem hp
          have l2 := partsL_mem hq
          simp only [parts] at hN
          exact ih p q (by omega) (da + 1) (db + 1) (a3 p hp) (b3 q hq) (hBa.inv.2.2.2 p hp) (hBb.inv.2.2.2 q hq)
        rcases (by have := a2.hi; omega : sa < 4 ∨ sa = 4 ∨ sa = 5) with h | h | h
        · have e1 := List.length_eq_zero_iff.1 (a2.leaf h)
          have e2 := List.length_eq_zero_iff.1 (b2.leaf h)
          have e3 := List.length_eq_zero_iff.1 (a2.other (by omega))
          have e4 := List.length_eq_zero_iff.1 (b2.other (by omega))
          subst e1 e2 e3 e4
          exact hf sa h
        · subst h
          obtain ⟨p, hp⟩ := one_at a2 (.inl rfl)
          obtain ⟨q, hq⟩ := one_at b2 (.inl rfl)
          exact hl na nb ka kb p q hp hq (kids p (List.mem_of_getElem? hp) q (List.mem_of_getElem? hq))
        · subst h
          exact hF na nb ka kb (a2.form rfl).1 (b2.form rfl).1 a2.rise b2.rise hBa hBb kids
      · exact hd sa sb na nb ka kb n1 n2 hs
theorem joinS_ok (a b : Kd) (da db : Nat) (ha : KOk da a) (hb : KOk db b) (hBa : KB 1000 a) (hBb : KB 1000 b) : JC 66 a b :=
  join_rec 66 joinS_maybe joinS_diff joinS_leaf joinS_list joinS_form _ a b (Nat.le_refl _) da db ha hb hBa hBb
/- loop.example/teagle/impl.join -/
def r67_0 : List AOper := [ao 0 2 (.box 26 (.t 0)),
  ao 1 3 (.box 26 (.t 1)),
  ao 2 4 (.alloc 26 [(.v (.s (.int .i64 0))), .nil0, .nil0]),
  ao 3 5 (.mv (.k (.b false)))]
def r67_1 : List AOper := [ao 0 21 (.fa 0 (.t 2)),
  ao 1 22 (.ld 1 false (.t 21)),
  ao 2 23 (.bin .eql (.t 22) (.k (.i 6))),
  ao 3 24 (.mv (.t 23)),
  ag 4 25 24 false [] (.fa 0 (.t 3)),
  ag 5 26 24 false [] (.ld 1 false (.t 25)),
  ag 6 27 24 false [] (.bin .eql (.t 26) (.k (.i 6))),
  ao 7 28 (.pick (.t 24) (.k (.b true)) (.t 27)),
  ao 8 20 (.mv (.t 28))]
def r67_2 : List AOper := [ao 0 30 (.ld 3 true (.t 2)),
  ao 1 31 (.call (.k (.c (.fn 90 []))) [(.t 30)]),
  au 2 32 [0, 1] (.ld 3 true (.t 3)),
  ao 3 33 (.call (.k (.c (.fn 90 []))) [(.t 32)]),
  ao 4 34 (.call (.k (.c (.fn 67 []))) [(.t 31), (.t 33)]),
  ao 5 29 (.mv (.t 34)),
  ao 6 35 (.ext 0 (.t 29)),
  au 7 36 [6] (.ext 1 (.t 29)),
  au 8 6 (ru 8) (.alloc 26 [(.v (.s (.int .i64 0))), .nil0, .nil0]),
  ax 9 none none [7] (.st 3 (.t 6) (.t 35)),
  ao 10 7 (.mv (.t 36))]
def r67_3 : List AOper := [ao 0 37 (.ld 3 true (.t 6)),
  ao 1 38 (.call (.k (.c (.fn 91 []))) [(.t 37)]),
  ao 2 39 (.mv (.t 7)),
  an 3 (.st 3 (.t 4) (.t 38)),
  ao 4 5 (.mv (.t 39))]
def c67_4 : ACode := .seq (.reg r67_2) (.seq (.reg r67_3) .ret)
def r67_5 : List AOper := [ao 0 41 (.fa 0 (.t 2)),
  ao 1 42 (.ld 1 false (.t 41)),
  ao 2 43 (.fa 0 (.t 3)),
  ao 3 44 (.ld 1 false (.t 43)),
  ao 4 45 (.bin .neq (.t 42) (.t 44)),
  ao 5 40 (.mv (.t 45))]
def r67_6 : List AOper := [ao 0 46 (.build [(.v (.s (.int .i64 0))), .nil0, .nil0] []),
  an 1 (.st 3 (.t 4) (.t 46)),
  ao 2 5 (.mv (.k (.b false)))]
def c67_7 : ACode := .seq (.reg r67_6) .ret
def r67_8 : List AOper := [ao 0 48 (.fa 0 (.t 2)),
  ao 1 49 (.ld 1 false (.t 48)),
  ao 2 50 (.bin .eql (.t 49) (.k (.i 4))),
  ao 3 47 (.mv (.t 50))]
def r67_9 : List AOper := [ao 0 52 (.fa 2 (.t 2)),
  ao 1 53 (.ld 1 false (.t 52)),
  ao 2 54 (.ia 3 (.t 53) (.k (.i 0))),
  ao 3 55 (.ld 3 true (.t 54)),
  au 4 56 (ru 4) (.fa 2 (.t 3)),
  au 5 57 (ru 4) (.ld 1 false (.t 56)),
  au 6 58 (ru 4) (.ia 3 (.t 57) (.k (.i 0))),
  au 7 59 (ru 4) (.ld 3 true (.t 58)),
  ao 8 60 (.call (.k (.c (.fn 67 []))) [(.t 55), (.t 59)]),
  ao 9 51 (.mv (.t 60)),
  ao 10 61 (.ext 0 (.t 51)),
  au 11 62 [10] (.ext 1 (.t 51)),
  au 12 8 (ru 12) (.alloc 26 [(.v (.s (.int .i64 0))), .nil0, .nil0]),
  ax 13 none none [11] (.st 3 (.t 8) (.t 61)),
  ao 14 9 (.mv (.t 62))]
def r67_10 : List AOper := [ao 0 63 (.ld 3 true (.t 8)),
  ao 1 64 (.call (.k (.c (.fn 92 []))) [(.t 63)]),
  ao 2 65 (.mv (.t 9)),
  an 3 (.st 3 (.t 4) (.t 64)),
  ao 4 5 (.mv (.t 65))]
def c67_11 : ACode := .seq (.reg r67_9) (.seq (.reg r67_10) .ret)
def r67_12 : List AOper := [ao 0 67 (.fa 0 (.t 2)),
  ao 1 68 (.ld 1 false (.t 67)),
  ao 2 69 (.bin .neq (.t 68) (.k (.i 5))),
  ao 3 66 (.mv (.t 69))]
def r67_13 : List AOper := [ao 0 70 (.ld 3 true (.t 2)),
  ao 1 71 (.call (.k (.c (.fn 93 []))) [(.t 70)]),
  an 2 (.st 3 (.t 4) (.t 71)),
  ao 3 5 (.mv (.k (.b true)))]
def c67_14 : ACode := .seq (.reg r67_13) .ret
def c67_15 : ACode := .cond (.t 66) c67_14 .skip
def c67_16 : ACode := .seq (.reg r67_12) c67_15
def c67_17 : ACode := .cond (.t 47) c67_11 c67_16
def c67_18 : ACode := .seq (.reg r67_8) c67_17
def c67_19 : ACode := .cond (.t 40) c67_7 c67_18
def c67_20 : ACode := .seq (.reg r67_5) c67_19
def c67_21 : ACode := .cond (.t 20) c67_4 c67_20
def c67_22 : ACode := .seq (.reg r67_1) c67_21
def c67_23 : ACode := .block 0 c67_22
def r67_24 : List AOper := [ao 0 72 (.build [(.v (.s (.int .i64 0))), .nil0, .nil0] [(0, 1, (.k (.i 5)))]),
  ao 1 73 (.fa 1 (.t 2)),
  ao 2 74 (.ld 1 false (.t 73)),
  ao 3 75 (.fa 1 (.t 3)),
  ao 4 76 (.ld 1 false (.t 75)),
  ao 5 77 (.bsl 1 23 [(.t 74), (.t 76)]),
  ao 6 78 (.call (.k (.c (.fn 94 []))) [(.t 77)]),
  ao 7 10 (.alloc 26 [(.v (.s (.int .i64 0))), .nil0, .nil0]),
  an 8 (.st 3 (.t 10) (.t 72)),
  ao 9 11 (.mv (.t 78))]
def r67_25 : List AOper := [ao 0 79 (.mv (.t 11)),
  ao 1 80 (.call (.k (.c (.fn 95 []))) [(.t 79)])]
def r67_26 : List AOper := [ao 0 81 (.mv (.t 11)),
  ao 1 82 (.call (.k (.c (.fn 96 []))) [(.t 81)]),
  ao 2 83 (.len (.t 82)),
  ao 3 84 (.mv (.k (.i 0)))]
def r67_27 : List AOper := [ao 0 85 (.bin .lss (.t 84) (.t 83))]
def c67_28 : ACode := .cond (.t 85) .skip (.exit 1)
def r67_29 : List AOper := [ao 0 86 (.ia 1 (.t 82) (.t 84)),
  ao 1 87 (.ld 1 false (.t 86)),
  ao 2 13 (.mv (.t 87))]
def r67_30 : List AOper := [ao 0 89 (.fa 1 (.t 2)),
  ao 1 90 (.ld 1 false (.t 89)),
  ao 2 91 (.mv (.t 13)),
  ao 3 92 (.call (.k (.c (.fn 79 []))) [(.t 90), (.t 91)]),
  ao 4 88 (.mv (.t 92)),
  ao 5 93 (.ext 0 (.t 88)),
  ao 6 94 (.ext 1 (.t 88)),
  ao 7 14 (.mv (.t 93)),
  ao 8 15 (.mv (.t 94))]
def r67_31 : List AOper := [ao 0 96 (.fa 1 (.t 3)),
  ao 1 97 (.ld 1 false (.t 96)),
  ao 2 98 (.mv (.t 13)),
  ao 3 99 (.call (.k (.c (.fn 79 []))) [(.t 97), (.t 98)]),
  ao 4 95 (.mv (.t 99)),
  ao 5 100 (.ext 0 (.t 95)),
  ao 6 101 (.ext 1 (.t 95)),
  ao 7 16 (.mv (.t 100)),
  ao 8 17 (.mv (.t 101))]
def r67_32 : List AOper := [ao 0 102 (.build [(.v (.s (.int .i64 0))), .nil0, .nil0] []),
  ao 1 18 (.alloc 26 [(.v (.s (.int .i64 0))), .nil0, .nil0]),
  an 2 (.st 3 (.t 18) (.t 102)),
  ao 3 19 (.mv (.k (.b true)))]
def r67_33 : List AOper := [ao 0 110 (.mv (.t 15)),
  ao 1 111 (.mv (.t 110)),
  ag 2 112 111 true [] (.mv (.t 17)),
  ao 3 113 (.pick (.t 111) (.t 112) (.k (.b false))),
  ao 4 109 (.mv (.t 113))]
def r67_34 : List AOper := [ao 0 115 (.fa 2 (.t 2)),
  ao 1 116 (.ld 1 false (.t 115)),
  au 2 117 [0, 1] (.mv (.t 14)),
  ao 3 118 (.ia 3 (.t 116) (.t 117)),
  ao 4 119 (.ld 3 true (.t 118)),
  au 5 120 (ru 5) (.fa 2 (.t 3)),
  au 6 121 (ru 5) (.ld 1 false (.t 120)),
  au 7 122 (ru 7) (.mv (.t 16)),
  au 8 123 (ru 5) (.ia 3 (.t 121) (.t 122)),
  au 9 124 (ru 5) (.ld 3 true (.t 123)),
  ao 10 125 (.call (.k (.c (.fn 67 []))) [(.t 119), (.t 124)]),
  ao 11 114 (.mv (.t 125)),
  ao 12 126 (.ext 0 (.t 114)),
  au 13 127 [12] (.ext 1 (.t 114)),
  ax 14 none none [13] (.st 3 (.t 18) (.t 126)),
  ao 15 19 (.mv (.t 127))]
def r67_35 : List AOper := [ao 0 129 (.mv (.t 15)),
  ao 1 128 (.mv (.t 129))]
def r67_36 : List AOper := [ao 0 130 (.fa 2 (.t 2)),
  ao 1 131 (.ld 1 false (.t 130)),
  ao 2 132 (.mv (.t 14)),
  ao 3 133 (.ia 3 (.t 131) (.t 132)),
  ao 4 134 (.ld 3 true (.t 133)),
  ao 5 135 (.call (.k (.c (.fn 97 []))) [(.t 134)]),
  an 6 (.st 3 (.t 18) (.t 135))]
def r67_37 : List AOper := [ao 0 103 (.fa 2 (.t 3)),
  ao 1 104 (.ld 1 false (.t 103)),
  ao 2 105 (.mv (.t 16)),
  ao 3 106 (.ia 3 (.t 104) (.t 105)),
  ao 4 107 (.ld 3 true (.t 106)),
  ao 5 108 (.call (.k (.c (.fn 97 []))) [(.t 107)]),
  an 6 (.st 3 (.t 18) (.t 108))]
def c67_38 : ACode := .cond (.t 128) (.reg r67_36) (.reg r67_37)
def c67_39 : ACode := .seq (.reg r67_35) c67_38
def c67_40 : ACode := .cond (.t 109) (.reg r67_34) c67_39
def c67_41 : ACode := .seq (.reg r67_33) c67_40
def c67_42 : ACode := .block 3 c67_41
def r67_43 : List AOper := [ao 0 136 (.mv (.t 19)),
  ao 1 137 (.un .not (.t 136))]
def r67_44 : List AOper := [ao 0 138 (.build [(.v (.s (.int .i64 0))), .nil0, .nil0] []),
  an 1 (.st 3 (.t 4) (.t 138)),
  ao 2 5 (.mv (.k (.b false)))]
def c67_45 : ACode := .seq (.reg r67_44) .ret
def c67_46 : ACode := .cond (.t 137) c67_45 .skip
def c67_47 : ACode := .seq (.reg r67_43) c67_46
def r67_48 : List AOper := [ao 0 139 (.fa 1 (.t 10)),
  ao 1 140 (.ld 1 false (.t 139)),
  au 2 141 [0, 1] (.mv (.t 13)),
  au 3 142 [0, 1] (.bsl 1 9 [(.t 141)]),
  ao 4 143 (.app 1 9 16 (.t 140) (.t 142)),
  au 5 144 (ru 5) (.fa 2 (.t 10)),
  au 6 145 (ru 5) (.ld 1 false (.t 144)),
  au 7 146 (ru 7) (.ld 3 true (.t 18)),
  au 8 147 (ru 7) (.bsl 3 26 [(.t 146)]),
  ao 9 148 (.app 3 26 56 (.t 145) (.t 147)),
  au 10 149 [7, 8, 9] (.fa 1 (.t 10)),
  an 11 (.st 1 (.t 149) (.t 143)),
  ao 12 150 (.fa 2 (.t 10)),
  an 13 (.st 1 (.t 150) (.t 148))]
def c67_49 : ACode := .seq (.reg r67_29) (.seq (.reg r67_30) (.seq (.reg r67_31) (.seq (.reg r67_32) (.seq c67_42 (.seq c67_47 (.reg r67_48))))))
def c67_50 : ACode := .block 2 c67_49
def r67_51 : List AOper := [ao 0 151 (.bin .add (.t 84) (.k (.i 1))),
  ao 1 84 (.mv (.t 151))]
def c67_52 : ACode := .seq (.reg r67_27) (.seq c67_28 (.seq c67_50 (.reg r67_51)))
def c67_53 : ACode := .loop c67_52
def c67_54 : ACode := .block 1 c67_53
def c67_55 : ACode := .seq (.reg r67_26) c67_54
def r67_56 : List AOper := [ao 0 152 (.ld 3 true (.t 10)),
  an 1 (.st 3 (.t 4) (.t 152)),
  ao 2 5 (.mv (.k (.b true)))]
def c67 : ACode := .seq (.reg r67_0) (.seq c67_23 (.seq (.reg r67_24) (.seq (.reg r67_25) (.seq c67_55 (.seq (.reg r67_56) .ret)))))
def s67 : List ARes := [.cell 4 3 true, .tmp 5]
theorem ok67 : okF Try.prog 67 153 c67 s67 := ⟨Try.f67, Try.func67, Try.ntmps67, by kernel_rfl, by kernel_rfl, by kernel_rfl⟩
theorem UMr_1 : (type_of% (uA c67.eq_1)) ∧ (type_of% (uR r67_0.eq_1)) ∧ (type_of% (uA c67_23.eq_1)) ∧ (type_of% (uA c67_22.eq_1)) ∧ (type_of% (uR r67_1.eq_1)) ∧ (type_of% (uA c67_21.eq_1)) ∧ (type_of% (uA c67_4.eq_1)) ∧ (type_of% (uR r67_2.eq_1)) ∧ (type_of% (uR r67_3.eq_1)) ∧ (type_of% (uA c67_20.eq_1)) ∧ (type_of% (uR r67_5.eq_1)) ∧ (type_of% (uA c67_19.eq_1)) ∧ (type_of% (uA c67_7.eq_1)) ∧ (type_of% (uR r67_6.eq_1)) ∧ (type_of% (uA c67_18.eq_1)) ∧ (type_of% (uR r67_8.eq_1)) ∧ (type_of% (uA c67_17.eq_1)) ∧ (type_of% (uA c67_11.eq_1)) ∧ (type_of% (uR r67_9.eq_1)) ∧ (type_of% (uR r67_10.eq_1)) ∧ (type_of% (uA c67_16.eq_1)) ∧ (type_of% (uR r67_12.eq_1)) ∧ (type_of% (uA c67_15.eq_1)) ∧ (type_of% (uA c67_14.eq_1)) ∧ (type_of% (uR r67_13.eq_1)) ∧ (type_of% (uR r67_24.eq_1)) ∧ (type_of% (uR r67_25.eq_1)) ∧ (type_of% (uA c67_55.eq_1)) ∧ (type_of% (uR r67_26.eq_1)) ∧ (type_of% (uA c67_54.eq_1)) ∧ (type_of% (uA c67_53.eq_1)) ∧ (type_of% (uR r67_56.eq_1)) ∧ (type_of% s67.eq_1) :=
  ⟨uA c67.eq_1, uR r67_0.eq_1, uA c67_23.eq_1, uA c67_22.eq_1, uR r67_1.eq_1, uA c67_21.eq_1, uA c67_4.eq_1, uR r67_2.eq_1, uR r67_3.eq_1, uA c67_20.eq_1, uR r67_5.eq_1, uA c67_19.eq_1, uA c67_7.eq_1, uR r67_6.eq_1, uA c67_18.eq_1, uR r67_8.eq_1, uA c67_17.eq_1, uA c67_11.eq_1, uR r67_9.eq_1, uR r67_10.eq_1, uA c67_16.eq_1, uR r67_12.eq_1, uA c67_15.eq_1, uA c67_14.eq_1, uR r67_13.eq_1, uR r67_24.eq_1, uR r67_25.eq_1, uA c67_55.eq_1, uR r67_26.eq_1, uA c67_54.eq_1, uA c67_53.eq_1, uR r67_56.eq_1, s67.eq_1⟩
theorem joinI_maybe (a b : Kd) (da db : Nat) (ha : KOk da a) (hb : KOk db b) (h6 : a.sort = 6 ∨ b.sort = 6) (ih : JC 67 (bare a) (bare b)) : JC 67 a b := by
  obtain ⟨k, ok, hj, hB, hC⟩ := ih
  refine ⟨.mk 6 [] [k], ok, hj.bare h6, hB.may (by omega) 6, ?_⟩
  obtain ⟨sa, na, ka⟩ := a
  obtain ⟨sb, nb, kb⟩ := b
  have hwa := bareI_ok sa na ka fun h => by subst h; exact one_at ha.inv.2.1 (.inr rfl)
  have hwb := bareI_ok sb nb kb fun h => by subst h; exact one_at hb.inv.2.1 (.inr rfl)
  refine ACallsF.intro ok67 follows fun X c0 => ?_
  have e0 : (sa == 6) = true ∨ ((sa == 6) = false ∧ (sb == 6) = true) := by
    simp only [Kd.sort] at h6
    rcases h6 with h | h
    · exact .inl (by simpa using h)
    · by_cases h' : sa = 6
      · exact .inl (by simpa using h')
      · exact .inr ⟨by simpa using h', by simpa using h⟩
  rcases e0 with e0 | ⟨e0, e1⟩
  · simp only [RUN, core, T.c, T.s, T.b, T.i, sBin, sInt, sUn, isShift, asInt, P1.cells, loadT, ptrC, storeT, putC, fillP, Nat.reduceAdd, reduceIte, Nat.reduceEqDiff, Nat.reduceLT, Nat.reduceLeDiff, reduceCtorEq, eq_self, FIT, lendCs_map, verC_map, FinC, resPs, resP, lendPl, lendCs, lendC, sealC, partsT, finHs, tupT, verT, verP, verC, verB, verAt, Blk.ver, handsAre, forall_const, CHT, disj, Nat.reduceBEq, beq_self_eq_true, APT, srcOf, sealPs, sealCs, sealC, List.mem_singleton, forall_eq, ALT, UMr_1, encK_mk, e0]
    refine callC (argsC := [tK (.mk sa na ka)]) hwa rfl (by simp only [RUN, core, T.c, T.s, T.b, T.i, sBin, sInt, sUn, isShift, asInt, P1.cells, loadT, ptrC, storeT, putC, fillP, Nat.reduceAdd, reduceIte, Nat.reduceEqDiff, Nat.reduceLT, Nat.reduceLeDiff, reduceCtorEq, eq_self, FIT, lendCs_map, verC_map, FinC, resPs, resP, lendPl, lendCs, lendC, sealC, partsT, finHs, tupT, verT, verP, verC, verB, verAt, Blk.ver, handsAre, forall_const, CHT, disj, Nat.reduceBEq, beq_self_eq_true, APT, srcOf, sealPs, sealCs, sealC, List.mem_singleton, forall_eq, ALT, tK, encK_mk]) (by simp [closedA, closedP, closedC]) (by simp [closedT, closedP, closedC]) ?_
    simp only [RUN, core, T.c, T.s, T.b, T.i, sBin, sInt, sUn, isShift, asInt, P1.cells, loadT, ptrC, storeT, putC, fillP, Nat.reduceAdd, reduceIte, Nat.reduceEqDiff, Nat.reduceLT, Nat.reduceLeDiff, reduceCtorEq, eq_self, FIT, lendCs_map, verC_map, FinC, resPs, resP, lendPl, lendCs, lendC, sealC, partsT, finHs, tupT, verT, verP, verC, verB, verAt, Blk.ver, handsAre, forall_const, CHT, disj, Nat.reduceBEq, beq_self_eq_true, APT, srcOf, sealPs, sealCs, sealC, List.mem_singleton, forall_eq, ALT, UMr_1, encK_mk, e0]
    refine callC (argsC := [tK (.mk sb nb kb)]) hwb rfl (by simp only [RUN, core, T.c, T.s, T.b, T.i, sBin, sInt, sUn, isShift, asInt, P1.cells, loadT, ptrC, storeT, putC, fillP, Nat.reduceAdd, reduceIte, Nat.reduceEqDiff, Nat.reduceLT, Nat.reduceLeDiff, reduceCtorEq, eq_self, FIT, lendCs_map, verC_map, FinC, resPs, resP, lendPl, lendCs, lendC, sealC, partsT, finHs, tupT, verT, verP, verC, verB, verAt, Blk.ver, handsAre, forall_const, CHT, disj, Nat.reduceBEq, beq_self_eq_true, APT, srcOf, sealPs, sealCs, sealC, List.mem_singleton, forall_eq, ALT, tK, encK_mk]) (by simp [closedA, closedP, closedC]) (by simp [closedT, closedP, closedC]) ?_
    simp only [RUN, core, T.c, T.s, T.b, T.i, sBin, sInt, sUn, isShift, asInt, P1.cells, loadT, ptrC, storeT, putC, fillP, Nat.reduceAdd, reduceIte, Nat.reduceEqDiff, Nat.reduceLT, Nat.reduceLeDiff, reduceCtorEq, eq_self, FIT, lendCs_map, verC_map, FinC, resPs, resP, lendPl, lendCs, lendC, sealC, partsT, finHs, tupT, verT, verP, verC, verB, verAt, Blk.ver, handsAre, forall_const, CHT, disj, Nat.reduceBEq, beq_self_eq_true, APT, srcOf, sealPs, sealCs, sealC, List.mem_singleton, forall_eq, ALT, UMr_1]
    refine callC hC rfl rfl (by simp [closedA, closedP, closedC]) (by simp [closedT, closedP, closedC]) ?_
    simp only [RUN, core, T.c, T.s, T.b, T.i, sBin, sInt, sUn, isShift, asInt, P1.cells, loadT, ptrC, storeT, putC, fillP, Nat.reduceAdd, reduceIte, Nat.reduceEqDiff, Nat.reduceLT, Nat.reduceLeDiff, reduceCtorEq, eq_self, FIT, lendCs_map, verC_map, FinC, resPs, resP, lendPl, lendCs, lendC, sealC, partsT, finHs, tupT, verT, verP, verC, verB, verAt, Blk.ver, handsAre, forall_const, CHT, disj, Nat.reduceBEq, beq_self_eq_true, APT, srcOf, sealPs, sealCs, sealC, List.mem_singleton, forall_eq, ALT, UMr_1, List.length_map, encK_len, takeK, Nat.le_refl]
    refine callC (maybeOf_ok k hB) rfl rfl (by simp [closedA, closedP, closedC]) (by simp [closedT, closedP, closedC]) ?_
    simp only [RUN, core, T.c, T.s, T.b, T.i, sBin, sInt, sUn, isShift, asInt, P1.cells, loadT, ptrC, storeT, putC, fillP, Nat.reduceAdd, reduceIte, Nat.reduceEqDiff, Nat.reduceLT, Nat.reduceLeDiff, reduceCtorEq, eq_self, FIT, lendCs_map, verC_map, FinC, resPs, resP, lendPl, lendCs, lendC, sealC, partsT, finHs, tupT, verT, verP, verC, verB, verAt, Blk.ver, handsAre, forall_const, CHT, disj, Nat.reduceBEq, beq_self_eq_true, APT, srcOf, sealPs, sealCs, sealC, List.mem_singleton, forall_eq, ALT, UMr_1, List.length_map, encK_len, takeK, Nat.le_refl]
  · simp only [RUN, core, T.c, T.s, T.b, T.i, sBin, sInt, sUn, isShift, asInt, P1.cells, loadT, ptrC, storeT, putC, fillP, Nat.reduceAdd, reduceIte, Nat.reduceEqDiff, Nat.reduceLT, Nat.reduceLeDiff, reduceCtorEq, eq_self, FIT, lendCs_map, verC_map, FinC, resPs, resP, lendPl, lendCs, lendC, sealC, partsT, finHs, tupT, verT, verP, verC, verB, verAt, Blk.ver, handsAre, forall_const, CHT, disj, Nat.reduceBEq, beq_self_eq_true, APT, srcOf, sealPs, sealCs, sealC, List.mem_singleton, forall_eq, ALT, UMr_1, encK_mk, e0, e1]
    refine callC (argsC := [tK (.mk sa na ka)]) hwa rfl (by simp only [RUN, core, T.c, T.s, T.b, T.i, sBin, sInt, sUn, isShift, asInt, P1.cells, loadT, ptrC, storeT, putC, fillP, Nat.reduceAdd, reduceIte, Nat.reduceEqDiff, Nat.reduceLT, Nat.reduceLeDiff, reduceCtorEq, eq_self, FIT, lendCs_map, verC_map, FinC, resPs, resP, lendPl, lendCs, lendC, sealC, partsT, finHs, tupT, verT, verP, verC, verB, verAt, Blk.ver, handsAre, forall_const, CHT, disj, Nat.reduceBEq, beq_self_eq_true, APT, srcOf, sealPs, sealCs, sealC, List.mem_singleton, forall_eq, ALT, tK, encK_mk]) (by simp [closedA, closedP, closedC]) (by simp [closedT, closedP, closedC]) ?_
    simp only [RUN, core, T.c, T.s, T.b, T.i, sBin, sInt, sUn, isShift, asInt, P1.cells, loadT, ptrC, storeT, putC, fillP, Nat.reduceAdd, reduceIte, Nat.reduceEqDiff, Nat.reduceLT, Nat.reduceLeDiff, reduceCtorEq, eq_self, FIT, lendCs_map, verC_map, FinC, resPs, resP, lendPl, lendCs, lendC, sealC, partsT, finHs, tupT, verT, verP, verC, verB, verAt, Blk.ver, handsAre, forall_const, CHT, disj, Nat.reduceBEq, beq_self_eq_true, APT, srcOf, sealPs, sealCs, sealC, List.mem_singleton, forall_eq, ALT, UMr_1, encK_mk, e0, e1]
    refine callC (argsC := [tK (.mk sb nb kb)]) hwb rfl (by simp only [RUN, core, T.c, T.s, T.b, T.i, sBin, sInt, sUn, isShift, asInt, P1.cells, loadT, ptrC, storeT, putC, fillP, Nat.reduceAdd, reduceIte, Nat.reduceEqDiff, Nat.reduceLT, Nat.reduceLeDiff, reduceCtorEq, eq_self, FIT, lendCs_map, verC_map, FinC, resPs, resP, lendPl, lendCs, lendC, sealC, partsT, finHs, tupT, verT, verP, verC, verB, verAt, Blk.ver, handsAre, forall_const, CHT, disj, Nat.reduceBEq, beq_self_eq_true, APT, srcOf, sealPs, sealCs, sealC, List.mem_singleton, forall_eq, ALT, tK, encK_mk]) (by simp [closedA, closedP, closedC]) (by simp [closedT, closedP, closedC]) ?_
    simp only [RUN, core, T.c, T.s, T.b, T.i, sBin, sInt, sUn, isShift, asInt, P1.cells, loadT, ptrC, storeT, putC, fillP, Nat.reduceAdd, reduceIte, Nat.reduceEqDiff, Nat.reduceLT, Nat.reduceLeDiff, reduceCtorEq, eq_self, FIT, lendCs_map, verC_map, FinC, resPs, resP, lendPl, lendCs, lendC, sealC, partsT, finHs, tupT, verT, verP, verC, verB, verAt, Blk.ver, handsAre, forall_const, CHT, disj, Nat.reduceBEq, beq_self_eq_true, APT, srcOf, sealPs, sealCs, sealC, List.mem_singleton, forall_eq, ALT, UMr_1]
    refine callC hC rfl rfl (by simp [closedA, closedP, closedC]) (by simp [closedT, closedP, closedC]) ?_
    simp only [RUN, core, T.c, T.s, T.b, T.i, sBin, sInt, sUn, isShift, asInt, P1.cells, loadT, ptrC, storeT, putC, fillP, Nat.reduceAdd, reduceIte, Nat.reduceEqDiff, Nat.reduceLT, Nat.reduceLeDiff, reduceCtorEq, eq_self, FIT, lendCs_map, verC_map, FinC, resPs, resP, lendPl, lendCs, lendC, sealC, partsT, finHs, tupT, verT, verP, verC, verB, verAt, Blk.ver, handsAre, forall_const, CHT, disj, Nat.reduceBEq, beq_self_eq_true, APT, srcOf, sealPs, sealCs, sealC, List.mem_singleton, forall_eq, ALT, UMr_1, List.length_map, encK_len, takeK, Nat.le_refl]
    refine callC (maybeOf_ok k hB) rfl rfl (by simp [closedA, closedP, closedC]) (by simp [closedT, closedP, closedC]) ?_
    simp only [RUN, core, T.c, T.s, T.b, T.i, sBin, sInt, sUn, isShift, asInt, P1.cells, loadT, ptrC, storeT, putC, fillP, Nat.reduceAdd, reduceIte, Nat.reduceEqDiff, Nat.reduceLT, Nat.reduceLeDiff, reduceCtorEq, eq_self, FIT, lendCs_map, verC_map, FinC, resPs, resP, lendPl, lendCs, lendC, sealC, partsT, finHs, tupT, verT, verP, verC, verB, verAt, Blk.ver, handsAre, forall_const, CHT, disj, Nat.reduceBEq, beq_self_eq_true, APT, srcOf, sealPs, sealCs, sealC, List.mem_singleton, forall_eq, ALT, UMr_1, List.length_map, encK_len, takeK, Nat.le_refl]
theorem joinI_diff (sa sb : Int) (na nb : List ByteArray) (ka kb : List Kd) (h1 : sa ≠ 6) (h2 : sb ≠ 6) (h : sa ≠ sb) : JC 67 (.mk sa na ka) (.mk sb nb kb) := by
  refine ⟨.mk 0 [] [], false, JR.diff _ h1 h2 h, k0_KB, ?_⟩
  have e0 : (sa == 6) = false := by simpa using h1
  have e1 : (sb == 6) = false := by simpa using h2
  have e2 : (sa != sb) = true := by simpa using h
  refine ACallsF.intro ok67 follows fun X c0 => ?_
  simp only [RUN, core, T.c, T.s, T.b, T.i, sBin, sInt, sUn, isShift, asInt, P1.cells, loadT, ptrC, storeT, putC, fillP, Nat.reduceAdd, reduceIte, Nat.reduceEqDiff, Nat.reduceLT, Nat.reduceLeDiff, reduceCtorEq, eq_self, FIT, lendCs_map, verC_map, FinC, resPs, resP, lendPl, lendCs, lendC, sealC, partsT, finHs, tupT, verT, verP, verC, verB, verAt, Blk.ver, handsAre, forall_const, CHT, disj, Nat.reduceBEq, beq_self_eq_true, APT, srcOf, sealPs, sealCs, sealC, List.mem_singleton, forall_eq, ALT, UMr_1, encK_mk, e0, e1, e2, encK_0]
theorem joinI_leaf (s : Int) (hs : s < 4) : JC 67 (.mk s [] []) (.mk s [] []) := by
  have hB : KB 1000000 (.mk s [] []) := .mk _ _ _ (by simp) (by simp) (fun x hx => by cases hx) (fun x hx => by cases hx)
  refine ⟨.mk s [] [], true, .inl ⟨rfl, .leaf s [] [] [] [] hs⟩, hB, ?_⟩
  have e0 : (s == 6) = false := by simp; omega
  have e2 : (s != s) = false := by simp
  have e4 : (s == 4) = false := by simp; omega
  have e5 : (s != 5) = true := by simp; omega
  refine ACallsF.intro ok67 follows fun X c0 => ?_
  simp only [RUN, core, T.c, T.s, T.b, T.i, sBin, sInt, sUn, isShift, asInt, P1.cells, loadT, ptrC, storeT, putC, fillP, Nat.reduceAdd, reduceIte, Nat.reduceEqDiff, Nat.reduceLT, Nat.reduceLeDiff, reduceCtorEq, eq_self, FIT, lendCs_map, verC_map, FinC, resPs, resP, lendPl, lendCs, lendC, sealC, partsT, finHs, tupT, verT, verP, verC, verB, verAt, Blk.ver, handsAre, forall_const, CHT, disj, Nat.reduceBEq, beq_self_eq_true, APT, srcOf, sealPs, sealCs, sealC, List.mem_singleton, forall_eq, ALT, UMr_1, encK_mk, e0, e2, e4, e5]
  refine callC (argsC := [tK (.mk s [] [])]) (cloneK_ok _ hB) rfl (by simp only [RUN, core, T.c, T.s, T.b, T.i, sBin, sInt, sUn, isShift, asInt, P1.cells, loadT, ptrC, storeT, putC, fillP, Nat.reduceAdd, reduceIte, Nat.reduceEqDiff, Nat.reduceLT, Nat.reduceLeDiff, reduceCtorEq, eq_self, FIT, lendCs_map, verC_map, FinC, resPs, resP, lendPl, lendCs, lendC, sealC, partsT, finHs, tupT, verT, verP, verC, verB, verAt, Blk.ver, handsAre, forall_const, CHT, disj, Nat.reduceBEq, beq_self_eq_true, APT, srcOf, sealPs, sealCs, sealC, List.mem_singleton, forall_eq, ALT, tK, encK_mk]) (by simp [closedA, closedP, closedC]) (by simp [closedT, closedP, closedC]) ?_
  simp only [RUN, core, T.c, T.s, T.b, T.i, sBin, sInt, sUn, isShift, asInt, P1.cells, loadT, ptrC, storeT, putC, fillP, Nat.reduceAdd, reduceIte, Nat.reduceEqDiff, Nat.reduceLT, Nat.reduceLeDiff, reduceCtorEq, eq_self, FIT, lendCs_map, verC_map, FinC, resPs, resP, lendPl, lendCs, lendC, sealC, partsT, finHs, tupT, verT, verP, verC, verB, verAt, Blk.ver, handsAre, forall_const, CHT, disj, Nat.reduceBEq, beq_self_eq_true, APT, srcOf, sealPs, sealCs, sealC, List.mem_singleton, forall_eq, ALT, UMr_1, encK_mk]
theorem joinI_list (na nb : List ByteArray) (ka kb : List Kd) (p q : Kd) (hp : ka[0]? = some p) (hq : kb[0]? = some q) (ih : JC 67 p q) : JC 67 (.mk 4 na ka) (.mk 4 nb kb) := by
  obtain ⟨k, ok, hj, hB, hC⟩ := ih
  refine ⟨.mk 4 [] [k], ok, hj.list hp hq, hB.may (by omega) 4, ?_⟩
  have ep := encKs_at hp
  have eq := encKs_at hq
  have e2 : ((4 : Int) != 4) = false := rfl
  have e0 : ((4 : Int) == 6) = false := rfl
  refine ACallsF.intro ok67 follows fun X c0 => ?_
  simp only [RUN, core, T.c, T.s, T.b, T.i, sBin, sInt, sUn, isShift, asInt, P1.cells, loadT, ptrC, storeT, putC, fillP, Nat.reduceAdd, reduceIte, Nat.reduceEqDiff, Nat.reduceLT, Nat.reduceLeDiff, reduceCtorEq, eq_self, FIT, lendCs_map, verC_map, FinC, resPs, resP, lendPl, lendCs, lendC, sealC, partsT, finHs, tupT, verT, verP, verC, verB, verAt, Blk.ver, handsAre, forall_const, CHT, disj, Nat.reduceBEq, beq_self_eq_true, APT, srcOf, sealPs, sealCs, sealC, List.mem_singleton, forall_eq, ALT, UMr_1, encK_mk, e0, e2, ep, eq, Int.toNat_zero, Int.le_refl, List.length_map, encK_len, takeK, Nat.le_refl]
  refine callC hC rfl rfl (by simp [closedA, closedP, closedC]) (by simp [closedT, closedP, closedC]) ?_
  simp only [RUN, core, T.c, T.s, T.b, T.i, sBin, sInt, sUn, isShift, asInt, P1.cells, loadT, ptrC, storeT, putC, fillP, Nat.reduceAdd, reduceIte, Nat.reduceEqDiff, Nat.reduceLT, Nat.reduceLeDiff, reduceCtorEq, eq_self, FIT, lendCs_map, verC_map, FinC, resPs, resP, lendPl, lendCs, lendC, sealC, partsT, finHs, tupT, verT, verP, verC, verB, verAt, Blk.ver, handsAre, forall_const, CHT, disj, Nat.reduceBEq, beq_self_eq_true, APT, srcOf, sealPs, sealCs, sealC, List.mem_singleton, forall_eq, ALT, UMr_1, List.length_map, encK_len, takeK, Nat.le_refl]
  refine callC (listOf_ok k hB) rfl rfl (by simp [closedA, closedP, closedC]) (by simp [closedT, closedP, closedC]) ?_
  simp only [RUN, core, T.c, T.s, T.b, T.i, sBin, sInt, sUn, isShift, asInt, P1.cells, loadT, ptrC, storeT, putC, fillP, Nat.reduceAdd, reduceIte, Nat.reduceEqDiff, Nat.reduceLT, Nat.reduceLeDiff, reduceCtorEq, eq_self, FIT, lendCs_map, verC_map, FinC, resPs, resP, lendPl, lendCs, lendC, sealC, partsT, finHs, tupT, verT, verP, verC, verB, verAt, Blk.ver, handsAre, forall_const, CHT, disj, Nat.reduceBEq, beq_self_eq_true, APT, srcOf, sealPs, sealCs, sealC, List.mem_singleton, forall_eq, ALT, UMr_1, List.length_map, encK_len, takeK, Nat.le_refl]
end Go.V

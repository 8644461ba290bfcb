/- It is proved that the law FnExactCrewCancel returns true for every input and leaves its input as it was; no condition. -/
import Derived.Test.YtlajnafcfngkaaaKC3
set_option linter.unusedSimpArgs false
namespace Go.V
open Go.Proofs
/- (*loop.example/teagle/impl.CrewWorld).jobsOk -/
def r51_0 : List AOper := [ao 0 2 (.mv (.k (.b false)))]
def r51_1 : List AOper := [ao 0 10 (.mv (.t 0)),
  ao 1 11 (.call (.k (.c (.fn 87 []))) [(.t 10)]),
  ao 2 3 (.mv (.t 11))]
def r51_2 : List AOper := [ao 0 12 (.mv (.t 3)),
  ao 1 13 (.call (.k (.c (.fn 88 []))) [(.t 12)])]
def r51_3 : List AOper := [ao 0 14 (.mv (.t 3)),
  ao 1 15 (.len (.t 14)),
  ao 2 16 (.mv (.k (.i 0)))]
def r51_4 : List AOper := [ao 0 17 (.bin .lss (.t 16) (.t 15))]
def c51_5 : ACode := .cond (.t 17) .skip (.exit 0)
def r51_6 : List AOper := [ao 0 18 (.mv (.t 16)),
  ao 1 19 (.ia 1 (.t 14) (.t 16)),
  ao 2 20 (.ld 1 false (.t 19)),
  ao 3 4 (.mv (.t 18)),
  ao 4 5 (.mv (.t 20))]
def r51_7 : List AOper := [ao 0 21 (.mv (.t 5)),
  au 1 22 [0] (.mv (.t 0)),
  au 2 23 [0] (.nck (.t 22)),
  au 3 24 [0] (.fa 11 (.t 23)),
  au 4 25 [0] (.ld 1 false (.t 24)),
  au 5 26 (ru 5) (.mv (.t 0)),
  au 6 27 (ru 5) (.nck (.t 26)),
  au 7 28 (ru 5) (.fa 3 (.t 27)),
  au 8 29 (ru 5) (.ld 1 false (.t 28)),
  au 9 30 (ru 5) (.bin .sub (.t 29) (.k (.i 1))),
  ao 10 31 (.call (.k (.c (.fn 66 []))) [(.t 21), (.t 25), (.t 30)]),
  ao 11 32 (.un .not (.t 31)),
  ao 12 33 (.mv (.t 32)),
  ag 13 34 33 false [] (.mv (.t 4)),
  ag 14 35 33 false [] (.bin .gtr (.t 34) (.k (.i 0))),
  ag 15 36 33 false [] (.mv (.t 35)),
  ag 16 37 36 true [] (.mv (.t 3)),
  ag 17 38 36 true [16] (.mv (.t 4)),
  ag 18 39 36 true [16] (.bin .sub (.t 38) (.k (.i 1))),
  ag 19 40 36 true [] (.ia 1 (.t 37) (.t 39)),
  ag 20 41 36 true [] (.ld 1 false (.t 40)),
  ag 21 42 36 true [16, 17, 18, 19, 20] (.mv (.t 5)),
  ag 22 43 36 true [] (.bin .eql (.t 41) (.t 42)),
  ag 23 44 33 false [] (.pick (.t 36) (.t 43) (.k (.b false))),
  ao 24 45 (.pick (.t 33) (.k (.b true)) (.t 44))]
def r51_8 : List AOper := [ao 0 2 (.mv (.k (.b false)))]
def c51_9 : ACode := .seq (.reg r51_8) .ret
def c51_10 : ACode := .cond (.t 45) c51_9 .skip
def c51_11 : ACode := .seq (.reg r51_6) (.seq (.reg r51_7) c51_10)
def c51_12 : ACode := .block 1 c51_11
def r51_13 : List AOper := [ao 0 46 (.bin .add (.t 16) (.k (.i 1))),
  ao 1 16 (.mv (.t 46))]
def c51_14 : ACode := .seq (.reg r51_4) (.seq c51_5 (.seq c51_12 (.reg r51_13)))
def c51_15 : ACode := .loop c51_14
def c51_16 : ACode := .block 0 c51_15
def c51_17 : ACode := .seq (.reg r51_3) c51_16
def r51_18 : List AOper := [ao 0 47 (.mv (.t 0)),
  ao 1 48 (.call (.k (.c (.fn 89 []))) [(.t 47)]),
  ao 2 49 (.un .not (.t 48)),
  ao 3 50 (.mv (.t 49)),
  ag 4 51 50 true [] (.mv (.t 3)),
  ag 5 52 50 true [] (.len (.t 51)),
  ag 6 53 50 true [4, 5] (.mv (.t 0)),
  ag 7 54 50 true [4, 5] (.nck (.t 53)),
  ag 8 55 50 true [4, 5] (.fa 3 (.t 54)),
  ag 9 56 50 true [4, 5] (.ld 1 false (.t 55)),
  ag 10 57 50 true [4, 5, 6, 7, 8, 9] (.mv (.t 0)),
  ag 11 58 50 true [4, 5, 6, 7, 8, 9] (.nck (.t 57)),
  ag 12 59 50 true [4, 5, 6, 7, 8, 9] (.fa 11 (.t 58)),
  ag 13 60 50 true [4, 5, 6, 7, 8, 9] (.ld 1 false (.t 59)),
  ag 14 61 50 true [4, 5] (.bin .sub (.t 56) (.t 60)),
  ag 15 62 50 true [] (.bin .neq (.t 52) (.t 61)),
  ao 16 63 (.pick (.t 50) (.t 62) (.k (.b false)))]
def r51_19 : List AOper := [ao 0 2 (.mv (.k (.b false)))]
def c51_20 : ACode := .seq (.reg r51_19) .ret
def c51_21 : ACode := .cond (.t 63) c51_20 .skip
def c51_22 : ACode := .seq (.reg r51_18) c51_21
def r51_23 : List AOper := [ao 0 64 (.mv (.t 0)),
  ao 1 65 (.nck (.t 64)),
  ao 2 66 (.fa 10 (.t 65)),
  ao 3 67 (.ld 1 false (.t 66)),
  ao 4 68 (.len (.t 67)),
  ao 5 69 (.mv (.k (.i 0)))]
def r51_24 : List AOper := [ao 0 70 (.bin .lss (.t 69) (.t 68))]
def c51_25 : ACode := .cond (.t 70) .skip (.exit 2)
def r51_26 : List AOper := [ao 0 71 (.mv (.t 69)),
  ao 1 72 (.ia 1 (.t 67) (.t 69)),
  ao 2 73 (.ld 1 false (.t 72)),
  ao 3 6 (.mv (.t 71)),
  ao 4 7 (.mv (.t 73))]
def r51_27 : List AOper := [ao 0 74 (.mv (.t 7)),
  ao 1 75 (.bin .neq (.t 74) (.k (.i (-1)))),
  ao 2 76 (.mv (.t 75)),
  ag 3 77 76 true [] (.mv (.t 7)),
  ag 4 78 76 true [] (.mv (.t 0)),
  ag 5 79 76 true [] (.nck (.t 78)),
  ag 6 80 76 true [] (.fa 2 (.t 79)),
  ag 7 81 76 true [] (.ld 1 false (.t 80)),
  ag 8 82 76 true [] (.bin .rem (.t 77) (.t 81)),
  ag 9 83 76 true [] (.mv (.t 6)),
  ag 10 84 76 true [] (.bin .neq (.t 82) (.t 83)),
  ao 11 85 (.pick (.t 76) (.t 84) (.k (.b false)))]
def r51_28 : List AOper := [ao 0 2 (.mv (.k (.b false)))]
def c51_29 : ACode := .seq (.reg r51_28) .ret
def c51_30 : ACode := .cond (.t 85) c51_29 .skip
def c51_31 : ACode := .seq (.reg r51_26) (.seq (.reg r51_27) c51_30)
def c51_32 : ACode := .block 3 c51_31
def r51_33 : List AOper := [ao 0 86 (.bin .add (.t 69) (.k (.i 1))),
  ao 1 69 (.mv (.t 86))]
def c51_34 : ACode := .seq (.reg r51_24) (.seq c51_25 (.seq c51_32 (.reg r51_33)))
def c51_35 : ACode := .loop c51_34
def c51_36 : ACode := .block 2 c51_35
def c51_37 : ACode := .seq (.reg r51_23) c51_36
def r51_38 : List AOper := [ao 0 87 (.mv (.t 0)),
  ao 1 88 (.nck (.t 87)),
  ao 2 89 (.fa 14 (.t 88)),
  ao 3 90 (.ld 1 false (.t 89)),
  ao 4 91 (.len (.t 90)),
  ao 5 92 (.mv (.k (.i 0)))]
def r51_39 : List AOper := [ao 0 93 (.bin .lss (.t 92) (.t 91))]
def c51_40 : ACode := .cond (.t 93) .skip (.exit 4)
def r51_41 : List AOper := [ao 0 94 (.mv (.t 92)),
  ao 1 95 (.ia 1 (.t 90) (.t 92)),
  ao 2 96 (.ld 1 false (.t 95)),
  ao 3 8 (.mv (.t 94)),
  ao 4 9 (.mv (.t 96))]
def r51_42 : List AOper := [ao 0 97 (.mv (.t 9)),
  ao 1 98 (.mv (.t 8)),
  ao 2 99 (.bin .neq (.t 97) (.t 98))]
def r51_43 : List AOper := [ao 0 2 (.mv (.k (.b false)))]
def c51_44 : ACode := .seq (.reg r51_43) .ret
def c51_45 : ACode := .cond (.t 99) c51_44 .skip
def c51_46 : ACode := .seq (.reg r51_41) (.seq (.reg r51_42) c51_45)
def c51_47 : ACode := .block 5 c51_46
def r51_48 : List AOper := [ao 0 100 (.bin .add (.t 92) (.k (.i 1))),
  ao 1 92 (.mv (.t 100))]
def c51_49 : ACode := .seq (.reg r51_39) (.seq c51_40 (.seq c51_47 (.reg r51_48)))
def c51_50 : ACode := .loop c51_49
def c51_51 : ACode := .block 4 c51_50
def c51_52 : ACode := .seq (.reg r51_38) c51_51
def r51_53 : List AOper := [ao 0 101 (.mv (.t 0)),
  ao 1 102 (.nck (.t 101)),
  ao 2 103 (.fa 12 (.t 102)),
  ao 3 104 (.ld 1 false (.t 103)),
  ao 4 105 (.len (.t 104)),
  ao 5 106 (.bin .eql (.t 105) (.k (.i 1))),
  ao 6 107 (.mv (.t 106)),
  ag 7 108 107 true [] (.mv (.t 0)),
  ag 8 109 107 true [] (.nck (.t 108)),
  ag 9 110 107 true [] (.fa 12 (.t 109)),
  ag 10 111 107 true [] (.ld 1 false (.t 110)),
  ag 11 112 107 true [] (.ia 1 (.t 111) (.k (.i 0))),
  ag 12 113 107 true [] (.ld 1 false (.t 112)),
  ag 13 114 107 true [7, 8, 9, 10, 11, 12] (.mv (.t 0)),
  ag 14 115 107 true [7, 8, 9, 10, 11, 12] (.nck (.t 114)),
  ag 15 116 107 true [7, 8, 9, 10, 11, 12] (.fa 14 (.t 115)),
  ag 16 117 107 true [7, 8, 9, 10, 11, 12] (.ld 1 false (.t 116)),
  ag 17 118 107 true [7, 8, 9, 10, 11, 12] (.len (.t 117)),
  ag 18 119 107 true [] (.bin .neq (.t 113) (.t 118)),
  ao 19 120 (.pick (.t 107) (.t 119) (.k (.b false))),
  ao 20 121 (.mv (.t 120)),
  ag 21 122 121 false [] (.mv (.t 0)),
  ag 22 123 121 false [] (.nck (.t 122)),
  ag 23 124 121 false [] (.fa 11 (.t 123)),
  ag 24 125 121 false [] (.ld 1 false (.t 124)),
  ag 25 126 121 false [21, 22, 23, 24] (.mv (.t 0)),
  ag 26 127 121 false [21, 22, 23, 24] (.nck (.t 126)),
  ag 27 128 121 false [21, 22, 23, 24] (.fa 14 (.t 127)),
  ag 28 129 121 false [21, 22, 23, 24] (.ld 1 false (.t 128)),
  ag 29 130 121 false [21, 22, 23, 24] (.len (.t 129)),
  ag 30 131 121 false [21, 22, 23, 24, 25, 26, 27, 28, 29] (.mv (.t 0)),
  ag 31 132 121 false [21, 22, 23, 24, 25, 26, 27, 28, 29] (.nck (.t 131)),
  ag 32 133 121 false [21, 22, 23, 24, 25, 26, 27, 28, 29] (.fa 12 (.t 132)),
  ag 33 134 121 false [21, 22, 23, 24, 25, 26, 27, 28, 29] (.ld 1 false (.t 133)),
  ag 34 135 121 false [21, 22, 23, 24, 25, 26, 27, 28, 29] (.len (.t 134)),
  ag 35 136 121 false [21, 22, 23, 24] (.bin .add (.t 130) (.t 135)),
  ag 36 137 121 false [] (.bin .neq (.t 125) (.t 136)),
  ao 37 138 (.pick (.t 121) (.k (.b true)) (.t 137))]
def r51_54 : List AOper := [ao 0 2 (.mv (.k (.b false)))]
def c51_55 : ACode := .seq (.reg r51_54) .ret
def c51_56 : ACode := .cond (.t 138) c51_55 .skip
def c51_57 : ACode := .seq (.reg r51_53) c51_56
def r51_58 : List AOper := [ao 0 139 (.mv (.t 0)),
  ao 1 140 (.nck (.t 139)),
  ao 2 141 (.fa 15 (.t 140)),
  ao 3 142 (.ld 1 false (.t 141)),
  au 4 143 (ru 4) (.mv (.t 0)),
  au 5 144 (ru 4) (.nck (.t 143)),
  au 6 145 (ru 4) (.fa 3 (.t 144)),
  au 7 146 (ru 4) (.ld 1 false (.t 145)),
  ao 8 147 (.bin .add (.t 142) (.t 146)),
  au 9 148 (ru 9) (.mv (.t 0)),
  au 10 149 (ru 9) (.nck (.t 148)),
  au 11 150 (ru 9) (.fa 11 (.t 149)),
  au 12 151 (ru 9) (.ld 1 false (.t 150)),
  ao 13 152 (.bin .sub (.t 147) (.t 151)),
  au 14 153 (ru 14) (.mv (.t 0)),
  au 15 154 (ru 14) (.nck (.t 153)),
  au 16 155 (ru 14) (.fa 9 (.t 154)),
  au 17 156 (ru 14) (.ld 1 false (.t 155)),
  au 18 157 (ru 14) (.bin .eql (.t 156) (.k (.i 3))),
  au 19 158 (ru 14) (.call (.k (.c (.fn 90 []))) [(.t 157)]),
  ao 20 159 (.bin .add (.t 152) (.t 158)),
  au 21 160 (ru 21) (.mv (.t 0)),
  au 22 161 (ru 21) (.nck (.t 160)),
  au 23 162 (ru 21) (.fa 2 (.t 161)),
  au 24 163 (ru 21) (.ld 1 false (.t 162)),
  ao 25 164 (.bin .eql (.t 159) (.t 163)),
  ao 26 2 (.mv (.t 164))]
def c51 : ACode := .seq (.reg r51_0) (.seq (.reg r51_1) (.seq (.reg r51_2) (.seq c51_17 (.seq c51_22 (.seq c51_37 (.seq c51_52 (.seq c51_57 (.seq (.reg r51_58) .ret))))))))
def s51 : List ARes := [.tmp 2]
theorem ok51 : okF Try.prog 51 165 c51 s51 := ⟨Try.f51, Try.func51, Try.ntmps51, by kernel_rfl, by kernel_rfl, by kernel_rfl⟩
def inv51a (w : CW) (L : List Int) (i : Nat) (σ : St) : Prop := (∀ j : Nat, j < i → ∀ x, L[j]? = some x → w.due ≤ x ∧ x ≤ w.next - 1) ∧ (∀ j : Nat, j + 1 < i → ∀ x y, L[j]? = some x → L[j + 1]? = some y → x ≠ y) ∧ σ.t 0 = wP 1000 0 ∧ σ.H 1000 = some (cwB 0 w) ∧ σ.t 15 = .i L.length ∧ σ.t 16 = .i i ∧ ∃ u, σ.t 3 = .c (.own 3108 u L.length) ∧ σ.t 14 = .c (.own 3108 u L.length) ∧ σ.H 3108 = some (.arr u true 1 3 (en eI L))
def inv51b (w : CW) (i : Nat) (σ : St) : Prop := (∀ j : Nat, j < i → ∀ x, w.ring[j]? = some x → x ≠ -1 → x.tmod w.window = j) ∧ σ.t 0 = wP 1000 0 ∧ σ.H 1000 = some (cwB 0 w) ∧ σ.t 67 = tL (en eI w.ring) ∧ σ.t 68 = .i w.ring.length ∧ σ.t 69 = .i i
def inv51c (w : CW) (i : Nat) (σ : St) : Prop := (∀ j : Nat, j < i → ∀ x, w.got[j]? = some x → x = j) ∧ σ.t 0 = wP 1000 0 ∧ σ.H 1000 = some (cwB 0 w) ∧ σ.t 90 = tL (en eI w.got) ∧ σ.t 91 = .i w.got.length ∧ σ.t 92 = .i i
def UCq_1 := Bx.mk <|
  aN (uA c51.eq_1) <| aN (uR r51_0.eq_1) <| aN (uR r51_1.eq_1) <| aN (uR r51_2.eq_1) <| aN (uA c51_17.eq_1) <| aN (uR r51_3.eq_1) <| aN (uA c51_16.eq_1) <| aN (uA c51_15.eq_1) <| aN (uA c51_22.eq_1) <| aN (uR r51_18.eq_1) <| aN (uA c51_21.eq_1) <| aN (uA c51_20.eq_1) <| aN (uR r51_19.eq_1) <| aN (uA c51_37.eq_1) <| aN (uR r51_23.eq_1) <| aN (uA c51_36.eq_1) <| aN (uA c51_35.eq_1) <| aN (uA c51_57.eq_1) <| aN (uR r51_53.eq_1) <| aN (uA c51_56.eq_1) <| aN (uA c51_55.eq_1) <| aN (uR r51_54.eq_1) <| aN (uR r51_58.eq_1) <| s51.eq_1
def UCq_2 := Bx.mk <|
  aN (uA c51.eq_1) <| aN (uR r51_0.eq_1) <| aN (uR r51_1.eq_1) <| aN (uR r51_2.eq_1) <| aN (uA c51_17.eq_1) <| aN (uR r51_3.eq_1) <| aN (uA c51_16.eq_1) <| aN (uA c51_15.eq_1) <| aN (uA c51_22.eq_1) <| aN (uR r51_18.eq_1) <| aN (uA c51_21.eq_1) <| aN (uA c51_20.eq_1) <| aN (uR r51_19.eq_1) <| aN (uA c51_37.eq_1) <| aN (uR r51_23.eq_1) <| aN (uA c51_36.eq_1) <| aN (uA c51_35.eq_1) <| aN (uA c51_52.eq_1) <| aN (uR r51_38.eq_1) <| aN (uA c51_51.eq_1) <| aN (uA c51_50.eq_1) <| aN (uA c51_57.eq_1) <| aN (uR r51_53.eq_1) <| aN (uA c51_56.eq_1) <| aN (uA c51_55.eq_1) <| aN (uR r51_54.eq_1) <| aN (uR r51_58.eq_1) <| s51.eq_1
def UCq_3 := Bx.mk <|
  aN (uA c51.eq_1) <| aN (uR r51_0.eq_1) <| aN (uR r51_1.eq_1) <| aN (uR r51_2.eq_1) <| aN (uA c51_17.eq_1) <| aN (uR r51_3.eq_1) <| aN (uA c51_16.eq_1) <| aN (uA c51_15.eq_1) <| aN (uA c51_22.eq_1) <| aN (uR r51_18.eq_1) <| aN (uA c51_21.eq_1) <| aN (uA c51_20.eq_1) <| aN (uR r51_19.eq_1) <| aN (uA c51_52.eq_1) <| aN (uR r51_38.eq_1) <| aN (uA c51_51.eq_1) <| aN (uA c51_50.eq_1) <| aN (uA c51_57.eq_1) <| aN (uR r51_53.eq_1) <| aN (uA c51_56.eq_1) <| aN (uA c51_55.eq_1) <| aN (uR r51_54.eq_1) <| aN (uR r51_58.eq_1) <| s51.eq_1
def UCq_4 := Bx.mk <|
  aN (uA c51_34.eq_1) <| aN (uR r51_24.eq_1) <| aN (uA c51_25.eq_1) <| aN (uA c51_32.eq_1) <| aN (uA c51_31.eq_1) <| aN (uR r51_26.eq_1) <| aN (uR r51_27.eq_1) <| aN (uA c51_30.eq_1) <| aN (uA c51_29.eq_1) <| aN (uR r51_28.eq_1) <| aN (uR r51_33.eq_1) <| aN (uA c51.eq_1) <| aN (uR r51_0.eq_1) <| aN (uR r51_1.eq_1) <| aN (uR r51_2.eq_1) <| aN (uA c51_17.eq_1) <| aN (uR r51_3.eq_1) <| aN (uA c51_16.eq_1) <| aN (uA c51_15.eq_1) <| aN (uA c51_22.eq_1) <| aN (uR r51_18.eq_1) <| aN (uA c51_21.eq_1) <| aN (uA c51_20.eq_1) <| aN (uR r51_19.eq_1) <| aN (uA c51_37.eq_1) <| aN (uR r51_23.eq_1) <| aN (uA c51_36.eq_1) <| aN (uA c51_35.eq_1) <| aN (uA c51_52.eq_1) <| aN (uR r51_38.eq_1) <| aN (uA c51_51.eq_1) <| aN (uA c51_50.eq_1) <| aN (uA c51_57.eq_1) <| aN (uR r51_53.eq_1) <| aN (uA c51_56.eq_1) <| aN (uA c51_55.eq_1) <| aN (uR r51_54.eq_1) <| aN (uR r51_58.eq_1) <| s51.eq_1
def UCq_5 := Bx.mk <|
  aN (uA c51_34.eq_1) <| aN (uR r51_24.eq_1) <| aN (uA c51_25.eq_1) <| aN (uA c51_32.eq_1) <| aN (uA c51_31.eq_1) <| aN (uR r51_26.eq_1) <| aN (uR r51_27.eq_1) <| aN (uA c51_30.eq_1) <| aN (uA c51_29.eq_1) <| aN (uR r51_28.eq_1) <| aN (uR r51_33.eq_1) <| aN (uA c51.eq_1) <| aN (uR r51_0.eq_1) <| aN (uR r51_1.eq_1) <| aN (uR r51_2.eq_1) <| aN (uA c51_17.eq_1) <| aN (uR r51_3.eq_1) <| aN (uA c51_16.eq_1) <| aN (uA c51_15.eq_1) <| aN (uA c51_22.eq_1) <| aN (uR r51_18.eq_1) <| aN (uA c51_21.eq_1) <| aN (uA c51_20.eq_1) <| aN (uR r51_19.eq_1) <| aN (uA c51_37.eq_1) <| aN (uR r51_23.eq_1) <| aN (uA c51_36.eq_1) <| aN (uA c51_35.eq_1) <| aN (uA c51_52.eq_1) <| aN (uR r51_38.eq_1) <| aN (uA c51_51.eq_1) <| aN (uA c51_50.eq_1) <| aN (uR r51_58.eq_1) <| s51.eq_1
def UCq_6 := Bx.mk <|
  aN (uA c51_49.eq_1) <| aN (uR r51_39.eq_1) <| aN (uA c51_40.eq_1) <| aN (uA c51_47.eq_1) <| aN (uA c51_46.eq_1) <| aN (uR r51_41.eq_1) <| aN (uR r51_42.eq_1) <| aN (uA c51_45.eq_1) <| aN (uA c51_44.eq_1) <| aN (uR r51_43.eq_1) <| aN (uR r51_48.eq_1) <| aN (uA c51.eq_1) <| aN (uR r51_0.eq_1) <| aN (uR r51_1.eq_1) <| aN (uR r51_2.eq_1) <| aN (uA c51_17.eq_1) <| aN (uR r51_3.eq_1) <| aN (uA c51_16.eq_1) <| aN (uA c51_15.eq_1) <| aN (uA c51_22.eq_1) <| aN (uR r51_18.eq_1) <| aN (uA c51_21.eq_1) <| aN (uA c51_20.eq_1) <| aN (uR r51_19.eq_1) <| aN (uA c51_37.eq_1) <| aN (uR r51_23.eq_1) <| aN (uA c51_36.eq_1) <| aN (uA c51_35.eq_1) <| aN (uA c51_52.eq_1) <| aN (uR r51_38.eq_1) <| aN (uA c51_51.eq_1) <| aN (uA c51_50.eq_1) <| aN (uA c51_57.eq_1) <| aN (uR r51_53.eq_1) <| aN (uA c51_56.eq_1) <| aN (uA c51_55.eq_1) <| aN (uR r51_54.eq_1) <| aN (uR r51_58.eq_1) <| s51.eq_1
def UCq_7 := Bx.mk <|
  aN (uA c51_49.eq_1) <| aN (uR r51_39.eq_1) <| aN (uA c51_40.eq_1) <| aN (uA c51_47.eq_1) <| aN (uA c51_46.eq_1) <| aN (uR r51_41.eq_1) <| aN (uR r51_42.eq_1) <| aN (uA c51_45.eq_1) <| aN (uA c51_44.eq_1) <| aN (uR r51_43.eq_1) <| aN (uR r51_48.eq_1) <| aN (uA c51.eq_1) <| aN (uR r51_0.eq_1) <| aN (uR r51_1.eq_1) <| aN (uR r51_2.eq_1) <| aN (uA c51_17.eq_1) <| aN (uR r51_3.eq_1) <| aN (uA c51_16.eq_1) <| aN (uA c51_15.eq_1) <| aN (uA c51_22.eq_1) <| aN (uR r51_18.eq_1) <| aN (uA c51_21.eq_1) <| aN (uA c51_20.eq_1) <| aN (uR r51_19.eq_1) <| aN (uA c51_37.eq_1) <| aN (uR r51_23.eq_1) <| aN (uA c51_36.eq_1) <| aN (uA c51_35.eq_1) <| aN (uA c51_52.eq_1) <| aN (uR r51_38.eq_1) <| aN (uA c51_51.eq_1) <| aN (uA c51_50.eq_1) <| aN (uA c51_57.eq_1) <| aN (uR r51_53.eq_1) <| aN (uA c51_56.eq_1) <| aN (uA c51_55.eq_1) <| aN (uR r51_54.eq_1) <| s51.eq_1
def UCq_8 := Bx.mk <|
  aN (uA c51_14.eq_1) <| aN (uR r51_4.eq_1) <| aN (uA c51_5.eq_1) <| aN (uA c51_12.eq_1) <| aN (uA c51_11.eq_1) <| aN (uR r51_6.eq_1) <| aN (uR r51_7.eq_1) <| aN (uA c51_10.eq_1) <| aN (uA c51_9.eq_1) <| aN (uR r51_8.eq_1) <| aN (uR r51_13.eq_1) <| aN (uA c51.eq_1) <| aN (uR r51_0.eq_1) <| aN (uR r51_1.eq_1) <| aN (uR r51_2.eq_1) <| aN (uA c51_17.eq_1) <| aN (uR r51_3.eq_1) <| aN (uA c51_16.eq_1) <| aN (uA c51_15.eq_1) <| aN (uA c51_22.eq_1) <| aN (uR r51_18.eq_1) <| aN (uA c51_21.eq_1) <| aN (uA c51_20.eq_1) <| aN (uR r51_19.eq_1) <| aN (uA c51_37.eq_1) <| aN (uR r51_23.eq_1) <| aN (uA c51_36.eq_1) <| aN (uA c51_35.eq_1) <| aN (uA c51_52.eq_1) <| aN (uR r51_38.eq_1) <| aN (uA c51_51.eq_1) <| aN (uA c51_50.eq_1) <| aN (uA c51_57.eq_1) <| aN (uR r51_53.eq_1) <| aN (uA c51_56.eq_1) <| aN (uA c51_55.eq_1) <| aN (uR r51_54.eq_1) <| aN (uR r51_58.eq_1) <| s51.eq_1
def UCq_9 := Bx.mk <|
  aN (uA c51_14.eq_1) <| aN (uR r51_4.eq_1) <| aN (uA c51_5.eq_1) <| aN (uA c51_12.eq_1) <| aN (uA c51_11.eq_1) <| aN (uR r51_6.eq_1) <| aN (uR r51_7.eq_1) <| aN (uA c51_10.eq_1) <| aN (uA c51_9.eq_1) <| aN (uR r51_8.eq_1) <| aN (uR r51_13.eq_1) <| aN (uA c51.eq_1) <| aN (uR r51_0.eq_1) <| aN (uR r51_1.eq_1) <| aN (uR r51_2.eq_1) <| aN (uA c51_17.eq_1) <| aN (uR r51_3.eq_1) <| aN (uA c51_16.eq_1) <| aN (uA c51_15.eq_1) <| aN (uA c51_22.eq_1) <| aN (uR r51_18.eq_1) <| aN (uA c51_21.eq_1) <| aN (uA c51_20.eq_1) <| aN (uR r51_19.eq_1) <| aN (uA c51_52.eq_1) <| aN (uR r51_38.eq_1) <| aN (uA c51_51.eq_1) <| aN (uA c51_50.eq_1) <| aN (uA c51_57.eq_1) <| aN (uR r51_53.eq_1) <| aN (uA c51_56.eq_1) <| aN (uA c51_55.eq_1) <| aN (uR r51_54.eq_1) <| aN (uR r51_58.eq_1) <| s51.eq_1
set_option maxRecDepth 4000 in
set_option maxHeartbeats 2000000 in
theorem jobsOk_ok {w : CW} (h : PForm w) (hgl : w.got.length ≤ 2000000) : YW 51 w (Jobs w) := by
  have hh := h.lh
  have hr := h.lr
  have hk := h.st.k
  have hn := h.st.n
  have hj := h.st.j
  have hnx := h.next
  have hdu := h.due
  have hrm := h.room
  have ho := h.lo
  have hpl := way_len h
  have gw1 : IntKind.i64.wrap (w.next - 1) = w.next - 1 := wrap64 ⟨by omega, by omega⟩
  have gw2 : IntKind.i64.wrap (w.next - w.due) = w.next - w.due := wrap64 ⟨by omega, by omega⟩
  have hs3 : w.shut[3]? = some (sh w 3) := by
    have h1 := h.ls
    rw [sh, List.getD_eq_getElem?_getD, List.getElem?_eq_getElem (by omega)]; rfl
  have z3 := h.shut _ (List.mem_of_getElem? hs3)
  refine WC.intro ok51 rfl (fun _ => rfl) fun X => ?_
  have fin : (∀ x ∈ wayJobs w, w.due ≤ x ∧ x ≤ w.next - 1) → (wayJobs w).Nodup → (sh w 3 = 0 → ((wayJobs w).length : Int) = w.next - w.due) → ∀ (t : Nat → T) (H : HMap) (c : Nat), t 0 = wP 1000 0 → H 1000 = some (cwB 0 w) → wpa Try.prog X c51_37 (thenW Try.prog X (.seq c51_52 (.seq c51_57 (.seq (.reg r51_58) .ret))) (endE (fun b : Bool => b = true ↔ Jobs w) T.b (fun _ => [rV 0 29 (cwC w) (cwC w)]) [.tmp 2])) ⟨t, H, c⟩ := by
    intro q1 q2 q3 t H c e0 hW
    simp only [wP, T.c] at e0
    simp only [RUX, Nat.reduceAdd, reduceIte, Nat.reduceEqDiff, Nat.reduceLT, Nat.reduceLeDiff, reduceCtorEq, eq_self, rV, FIX, forall_const, endE_n, endE_r, CHT, disj, Nat.reduceBEq, beq_self_eq_true, APT, APX, forall_eq, ALT, KI, UCq_1.d, e0, hW, en_len]
    refine AW.upto w.ring.length (inv51b w) ⟨fun j hj => absurd hj (Nat.not_lt_zero j), e0, hW, rfl, rfl, rfl⟩ fun i t H c hi h' => ?_
    clear e0 hW
    obtain ⟨a, e0, hW, e67, e68, e69⟩ := h'
    simp only [wP, T.c, T.i] at e0 hW e67 e68 e69
    by_cases k1 : (i : Int) < w.ring.length
    · obtain ⟨x, hx⟩ : ∃ x, w.ring[i]? = some x := ⟨_, List.getElem?_eq_getElem (by omega)⟩
      have ex := en_at eI hx
      have gz : (0 : Int) ≤ i := by omega
      have gw := w1_ok (i := i) (by omega)
      have hz : ¬ w.window = 0 := by omega
      by_cases b1 : x = -1
      · have k2 := eqn b1
        simp only [RUX, Nat.reduceAdd, reduceIte, Nat.reduceEqDiff, Nat.reduceLT, Nat.reduceLeDiff, reduceCtorEq, eq_self, rV, FIX, forall_const, endE_n, endE_r, CHT, disj, Nat.reduceBEq, beq_self_eq_true, APT, APX, forall_eq, ALT, KI, UCq_4.d, e0, hW, e67, e68, e69, en_len, k1, ex, gz, gw, eI, k2]
        exact ⟨by omega, upto_next2 (p := fun j x => x ≠ -1 → x.tmod w.window = (j : Int)) a hx (fun e => absurd b1 e), e0, hW, e67, e68, rfl⟩
      · have k2 := neqn b1
        by_cases b2 : x.tmod w.window = i
        · have k3 := eqn b2
          simp only [RUX, Nat.reduceAdd, reduceIte, Nat.reduceEqDiff, Nat.reduceLT, Nat.reduceLeDiff, reduceCtorEq, eq_self, rV, FIX, forall_const, endE_n, endE_r, CHT, disj, Nat.reduceBEq, beq_self_eq_true, APT, APX, forall_eq, ALT, KI, UCq_4.d, e0, hW, e67, e68, e69, en_len, k1, ex, gz, gw, eI, k2, k3, hz]
          exact ⟨by omega, upto_next2 (p := fun j x => x ≠ -1 → x.tmod w.window = (j : Int)) a hx (fun _ => b2), e0, hW, e67, e68, rfl⟩
        · have k3 := neqn b2
          simp only [RUX, Nat.reduceAdd, reduceIte, Nat.reduceEqDiff, Nat.reduceLT, Nat.reduceLeDiff, reduceCtorEq, eq_self, rV, FIX, forall_const, endE_n, endE_r, CHT, disj, Nat.reduceBEq, beq_self_eq_true, APT, APX, forall_eq, ALT, KI, UCq_4.d, e0, hW, e67, e68, e69, en_len, k1, ex, gz, gw, eI, k2, k3, hz]
          refine ES.mk false (no fun g => b2 (jobs_ring g hx b1)) ?_
          simp only [RUX, Nat.reduceAdd, reduceIte, Nat.reduceEqDiff, Nat.reduceLT, Nat.reduceLeDiff, reduceCtorEq, eq_self, rV, FIX, forall_const, endE_n, endE_r, CHT, disj, Nat.reduceBEq, beq_self_eq_true, APT, APX, forall_eq, ALT, KI, UCq_4.d, e0, hW, e67, e68, e69, en_len, k1, ex, gz, gw, eI, k2, k3, hz]
    have q4 := upto_all (p := fun j x => x ≠ -1 → x.tmod w.window = (j : Int)) a (by omega)
    simp only [RUX, Nat.reduceAdd, reduceIte, Nat.reduceEqDiff, Nat.reduceLT, Nat.reduceLeDiff, reduceCtorEq, eq_self, rV, FIX, forall_const, endE_n, endE_r, CHT, disj, Nat.reduceBEq, beq_self_eq_true, APT, APX, forall_eq, ALT, KI, UCq_5.d, e0, hW, e67, e68, e69, en_len, k1]
    refine AW.upto w.got.length (inv51c w) ⟨fun j hj => absurd hj (Nat.not_lt_zero j), e0, hW, rfl, rfl, rfl⟩ fun i t H c hi h' => ?_
    clear e0 hW e67 e68 e69 k1 a
    obtain ⟨a, e0, hW, e90, e91, e92⟩ := h'
    simp only [wP, T.c, T.i] at e0 hW e90 e91 e92
    by_cases k1 : (i : Int) < w.got.length
    · obtain ⟨x, hx⟩ : ∃ x, w.got[i]? = some x := ⟨_, List.getElem?_eq_getElem (by omega)⟩
      have ex := en_at eI hx
      have gz : (0 : Int) ≤ i := by omega
      have gw := w1_ok (i := i) (by omega)
      by_cases b1 : x = i
      · have k2 := eqn b1
        simp only [RUX, Nat.reduceAdd, reduceIte, Nat.reduceEqDiff, Nat.reduceLT, Nat.reduceLeDiff, reduceCtorEq, eq_self, rV, FIX, forall_const, endE_n, endE_r, CHT, disj, Nat.reduceBEq, beq_self_eq_true, APT, APX, forall_eq, ALT, KI, UCq_6.d, e0, hW, e90, e91, e92, en_len, k1, ex, gz, gw, eI, k2]
        exact ⟨by omega, upto_next2 (p := fun j x => x = (j : Int)) a hx b1, e0, hW, e90, e91, rfl⟩
      · have k2 := neqn b1
        simp only [RUX, Nat.reduceAdd, reduceIte, Nat.reduceEqDiff, Nat.reduceLT, Nat.reduceLeDiff, reduceCtorEq, eq_self, rV, FIX, forall_const, endE_n, endE_r, CHT, disj, Nat.reduceBEq, beq_self_eq_true, APT, APX, forall_eq, ALT, KI, UCq_6.d, e0, hW, e90, e91, e92, en_len, k1, ex, gz, gw, eI, k2]
        refine ES.mk false (no fun g => b1 (g.got i x hx)) ?_
        simp only [RUX, Nat.reduceAdd, reduceIte, Nat.reduceEqDiff, Nat.reduceLT, Nat.reduceLeDiff, reduceCtorEq, eq_self, rV, FIX, forall_const, endE_n, endE_r, CHT, disj, Nat.reduceBEq, beq_self_eq_true, APT, APX, forall_eq, ALT, KI, UCq_6.d, e0, hW, e90, e91, e92, en_len, k1, ex, gz, gw, eI, k2]
    have q5 := upto_all (p := fun j x => x = (j : Int)) a (by omega)
    have w1 : IntKind.i64.wrap ((w.got.length : Int) + w.out.length) = w.got.length + w.out.length := wrap64 ⟨by omega, by omega⟩
    have w2 : IntKind.i64.wrap (w.room + w.next) = w.room + w.next := wrap64 ⟨by omega, by omega⟩
    have w3 : IntKind.i64.wrap (w.room + w.next - w.due) = w.room + w.next - w.due := wrap64 ⟨by omega, by omega⟩
    obtain ⟨back, hb, hbw⟩ : ∃ back : Int, (if w.keeper = 3 then 1 else 0) = back ∧ IntKind.i64.wrap (w.room + w.next - w.due + back) = w.room + w.next - w.due + back := by
      by_cases b : w.keeper = 3
      · exact ⟨1, if_pos b, wrap64 ⟨by omega, by omega⟩⟩
      · exact ⟨0, if_neg b, wrap64 ⟨by omega, by omega⟩⟩
    have hb2 : (if (w.keeper == 3) = true then (1 : Int) else 0) = back := by rw [← hb]; simp only [beq_iff_eq]
    have tail : (w.due = w.got.length + w.out.length) → (∀ x : Int, w.out[0]? = some x → x = w.got.length) → ∀ (t : Nat → T) (H : HMap) (c : Nat), t 0 = wP 1000 0 → H 1000 = some (cwB 0 w) → DRun Try.prog r51_58 [] (Kont (thenW Try.prog X .ret (endE (fun b : Bool => b = true ↔ Jobs w) T.b (fun _ => [rV 0 29 (cwC w) (cwC w)]) [.tmp 2])) r51_58) ⟨t, H, c⟩ := by
      intro q6 q7 t H c e0 hW
      simp only [wP, T.c] at e0
      simp only [RUX, Nat.reduceAdd, reduceIte, Nat.reduceEqDiff, Nat.reduceLT, Nat.reduceLeDiff, reduceCtorEq, eq_self, rV, FIX, forall_const, endE_n, endE_r, CHT, disj, Nat.reduceBEq, beq_self_eq_true, APT, APX, forall_eq, ALT, KI, UCq_2.d, e0, hW, w2, w3]
      refine callC (bit_ok (w.keeper == 3)) rfl rfl rfl rfl ?_
      by_cases b3 : w.room + w.next - w.due + back = w.window
      · have k3 := eqb b3
        simp only [RUX, Nat.reduceAdd, reduceIte, Nat.reduceEqDiff, Nat.reduceLT, Nat.reduceLeDiff, reduceCtorEq, eq_self, rV, FIX, forall_const, endE_n, endE_r, CHT, disj, Nat.reduceBEq, beq_self_eq_true, APT, APX, forall_eq, ALT, KI, UCq_2.d, e0, hW, w2, w3, hb2, hbw, k3]
        refine ES.mk true (yes (jobs_of h q1 q2 q3 q4 q5 q6 q7 (by rw [hb]; exact b3))) ?_
        simp only [RUX, Nat.reduceAdd, reduceIte, Nat.reduceEqDiff, Nat.reduceLT, Nat.reduceLeDiff, reduceCtorEq, eq_self, rV, FIX, forall_const, endE_n, endE_r, CHT, disj, Nat.reduceBEq, beq_self_eq_true, APT, APX, forall_eq, ALT, KI, UCq_2.d, e0, hW, w2, w3, hb2, hbw, k3]
      · have k3 := neqb b3
        simp only [RUX, Nat.reduceAdd, reduceIte, Nat.reduceEqDiff, Nat.reduceLT, Nat.reduceLeDiff, reduceCtorEq, eq_self, rV, FIX, forall_const, endE_n, endE_r, CHT, disj, Nat.reduceBEq, beq_self_eq_true, APT, APX, forall_eq, ALT, KI, UCq_2.d, e0, hW, w2, w3, hb2, hbw, k3]
        refine ES.mk false (no fun g => b3 (by have := g.room; rw [hb] at this; exact this)) ?_
        simp only [RUX, Nat.reduceAdd, reduceIte, Nat.reduceEqDiff, Nat.reduceLT, Nat.reduceLeDiff, reduceCtorEq, eq_self, rV, FIX, forall_const, endE_n, endE_r, CHT, disj, Nat.reduceBEq, beq_self_eq_true, APT, APX, forall_eq, ALT, KI, UCq_2.d, e0, hW, w2, w3, hb2, hbw, k3]
    by_cases b1 : (w.out.length : Int) = 1
    · have k2 := eqb b1
      obtain ⟨x, hx⟩ : ∃ x, w.out[0]? = some x := ⟨_, List.getElem?_eq_getElem (by omega)⟩
      have ex := en_at eI hx
      by_cases b4 : x = w.got.length
      · have k4 := eqn b4
        have q7 : ∀ y : Int, w.out[0]? = some y → y = w.got.length := fun y hy => by rw [hx] at hy; rw [← Option.some.inj hy]; exact b4
        by_cases b6 : w.due = w.got.length + w.out.length
        · have k6 := eqn b6
          simp only [RUX, Nat.reduceAdd, reduceIte, Nat.reduceEqDiff, Nat.reduceLT, Nat.reduceLeDiff, reduceCtorEq, eq_self, rV, FIX, forall_const, endE_n, endE_r, CHT, disj, Nat.reduceBEq, beq_self_eq_true, APT, APX, forall_eq, ALT, KI, UCq_7.d, e0, hW, e90, e91, e92, en_len, k1, w1, k2, ex, eI, k4, k6, Int.toNat_zero, Int.le_refl]
          refine tail b6 q7 _ _ _ ?_ ?_
          · exact e0
          · exact hW
        · have k6 := neqn b6
          simp only [RUX, Nat.reduceAdd, reduceIte, Nat.reduceEqDiff, Nat.reduceLT, Nat.reduceLeDiff, reduceCtorEq, eq_self, rV, FIX, forall_const, endE_n, endE_r, CHT, disj, Nat.reduceBEq, beq_self_eq_true, APT, APX, forall_eq, ALT, KI, UCq_7.d, e0, hW, e90, e91, e92, en_len, k1, w1, k2, ex, eI, k4, k6, Int.toNat_zero, Int.le_refl]
          refine ES.mk false (no fun g => b6 g.due) ?_
          simp only [RUX, Nat.reduceAdd, reduceIte, Nat.reduceEqDiff, Nat.reduceLT, Nat.reduceLeDiff, reduceCtorEq, eq_self, rV, FIX, forall_const, endE_n, endE_r, CHT, disj, Nat.reduceBEq, beq_self_eq_true, APT, APX, forall_eq, ALT, KI, UCq_7.d, e0, hW, e90, e91, e92, en_len, k1, w1, k2, ex, eI, k4, k6, Int.toNat_zero, Int.le_refl]
      · have k4 := neqn b4
        simp only [RUX, Nat.reduceAdd, reduceIte, Nat.reduceEqDiff, Nat.reduceLT, Nat.reduceLeDiff, reduceCtorEq, eq_self, rV, FIX, forall_const, endE_n, endE_r, CHT, disj, Nat.reduceBEq, beq_self_eq_true, APT, APX, forall_eq, ALT, KI, UCq_7.d, e0, hW, e90, e91, e92, en_len, k1, w1, k2, ex, eI, k4, Int.toNat_zero, Int.le_refl]
        refine ES.mk false (no fun g => b4 (g.out x hx)) ?_
        simp only [RUX, Nat.reduceAdd, reduceIte, Nat.reduceEqDiff, Nat.reduceLT, Nat.reduceLeDiff, reduceCtorEq, eq_self, rV, FIX, forall_const, endE_n, endE_r, CHT, disj, Nat.reduceBEq, beq_self_eq_true, APT, APX, forall_eq, ALT, KI, UCq_7.d, e0, hW, e90, e91, e92, en_len, k1, w1, k2, ex, eI, k4, Int.toNat_zero, Int.le_refl]
    · have k2 := neqb b1
      have q7 : ∀ y : Int, w.out[0]? = some y → y = w.got.length := fun y hy => absurd (List.getElem?_eq_some_iff.1 hy).1 (by omega)
      by_cases b6 : w.due = w.got.length + w.out.length
      · have k6 := eqn b6
        simp only [RUX, Nat.reduceAdd, reduceIte, Nat.reduceEqDiff, Nat.reduceLT, Nat.reduceLeDiff, reduceCtorEq, eq_self, rV, FIX, forall_const, endE_n, endE_r, CHT, disj, Nat.reduceBEq, beq_self_eq_true, APT, APX, forall_eq, ALT, KI, UCq_7.d, e0, hW, e90, e91, e92, en_len, k1, w1, k2, k6]
        refine tail b6 q7 _ _ _ ?_ ?_
        · exact e0
        · exact hW
      · have k6 := neqn b6
        simp only [RUX, Nat.reduceAdd, reduceIte, Nat.reduceEqDiff, Nat.reduceLT, Nat.reduceLeDiff, reduceCtorEq, eq_self, rV, FIX, forall_const, endE_n, endE_r, CHT, disj, Nat.reduceBEq, beq_self_eq_true, APT, APX, forall_eq, ALT, KI, UCq_7.d, e0, hW, e90, e91, e92, en_len, k1, w1, k2, k6]
        refine ES.mk false (no fun g => b6 g.due) ?_
        simp only [RUX, Nat.reduceAdd, reduceIte, Nat.reduceEqDiff, Nat.reduceLT, Nat.reduceLeDiff, reduceCtorEq, eq_self, rV, FIX, forall_const, endE_n, endE_r, CHT, disj, Nat.reduceBEq, beq_self_eq_true, APT, APX, forall_eq, ALT, KI, UCq_7.d, e0, hW, e90, e91, e92, en_len, k1, w1, k2, k6]
  simp only [RUX, Nat.reduceAdd, reduceIte, Nat.reduceEqDiff, Nat.reduceLT, Nat.reduceLeDiff, reduceCtorEq, eq_self, rV, FIX, forall_const, endE_n, endE_r, CHT, disj, Nat.reduceBEq, beq_self_eq_true, APT, APX, forall_eq, ALT, KI, UCq_3.d, en_len]
  refine callPA (m := 1000) (v := 0) (m2 := 3108) (fun m v m2 => underWay_ok h m v m2) rfl rfl rfl rfl (by decide) (by decide) ⟨rfl, ?_⟩
  simp only [RUX, Nat.reduceAdd, reduceIte, Nat.reduceEqDiff, Nat.reduceLT, Nat.reduceLeDiff, reduceCtorEq, eq_self, rV, FIX, forall_const, endE_n, endE_r, CHT, disj, Nat.reduceBEq, beq_self_eq_true, APT, APX, forall_eq, ALT, KI, UCq_3.d, en_len]
  refine callRowI (sort_ok (wayJobs w) (by omega) 3108 3108 _) rfl rfl rfl ⟨rfl, ?_⟩
  obtain ⟨L, hL⟩ : ∃ L, srt (wayJobs w) = L := ⟨_, rfl⟩
  have hp : L.Perm (wayJobs w) := by rw [← hL]; exact srt_perm _
  have hup : L.Pairwise fun x y => x ≤ y := by rw [← hL]; exact srt_up _
  have hlen : L.length = (wayJobs w).length := hp.length_eq
  have hll : L.length ≤ 41 := by omega
  rw [hL, ← hlen]
  simp only [RUX, Nat.reduceAdd, reduceIte, Nat.reduceEqDiff, Nat.reduceLT, Nat.reduceLeDiff, reduceCtorEq, eq_self, rV, FIX, forall_const, endE_n, endE_r, CHT, disj, Nat.reduceBEq, beq_self_eq_true, APT, APX, forall_eq, ALT, KI, UCq_3.d, en_len]
  refine AW.upto L.length (inv51a w L) ⟨fun j hj => absurd hj (Nat.not_lt_zero j), fun j hj => absurd hj (by omega), rfl, rfl, rfl, rfl, _, rfl, rfl, rfl⟩ fun i t H c hi h' => ?_
  obtain ⟨a, b, e0, hW, e15, e16, u, e3, e14, eL⟩ := h'
  simp only [wP, T.c, T.i] at e0 hW e15 e16 e3 e14 eL
  by_cases k1 : (i : Int) < L.length
  · obtain ⟨x, hx⟩ : ∃ x, L[i]? = some x := ⟨_, List.getElem?_eq_getElem (by omega)⟩
    have ex := en_at eI hx
    have gz : (0 : Int) ≤ i := by omega
    have gw := w1_ok (i := i) (by omega)
    have hmem := hp.mem_iff.1 (List.mem_of_getElem? hx)
    simp only [RUX, Nat.reduceAdd, reduceIte, Nat.reduceEqDiff, Nat.reduceLT, Nat.reduceLeDiff, reduceCtorEq, eq_self, rV, FIX, forall_const, endE_n, endE_r, CHT, disj, Nat.reduceBEq, beq_self_eq_true, APT, APX, forall_eq, ALT, KI, UCq_8.d, e0, hW, e15, e16, e3, e14, eL, en_len, k1, ex, gz, gw, eI, gw1]
    by_cases h1 : w.due ≤ x ∧ x ≤ w.next - 1
    rotate_left
    · refine callC (in_no h1) rfl rfl rfl rfl ?_
      simp only [RUX, Nat.reduceAdd, reduceIte, Nat.reduceEqDiff, Nat.reduceLT, Nat.reduceLeDiff, reduceCtorEq, eq_self, rV, FIX, forall_const, endE_n, endE_r, CHT, disj, Nat.reduceBEq, beq_self_eq_true, APT, APX, forall_eq, ALT, KI, UCq_8.d, e0, hW, e15, e16, e3, e14, eL, en_len, k1, ex, gz, gw, eI, gw1]
      refine ES.mk false (no fun g => h1 (g.all x ((jobs_way g).mem_iff.1 hmem))) ?_
      simp only [RUX, Nat.reduceAdd, reduceIte, Nat.reduceEqDiff, Nat.reduceLT, Nat.reduceLeDiff, reduceCtorEq, eq_self, rV, FIX, forall_const, endE_n, endE_r, CHT, disj, Nat.reduceBEq, beq_self_eq_true, APT, APX, forall_eq, ALT, KI, UCq_8.d, e0, hW, e15, e16, e3, e14, eL, en_len, k1, ex, gz, gw, eI, gw1]
    refine callC (in_yes h1) rfl rfl rfl rfl ?_
    cases i with
    | zero =>
      have k2 : ¬ ((0 : Nat) : Int) > 0 := by decide
      simp only [RUX, Nat.reduceAdd, reduceIte, Nat.reduceEqDiff, Nat.reduceLT, Nat.reduceLeDiff, reduceCtorEq, eq_self, rV, FIX, forall_const, endE_n, endE_r, CHT, disj, Nat.reduceBEq, beq_self_eq_true, APT, APX, forall_eq, ALT, KI, UCq_8.d, e0, hW, e15, e16, e3, e14, eL, en_len, k1, ex, gz, gw, eI, gw1, k2]
      exact ⟨by omega, upto_next a hx h1, fun j hj => absurd hj (by omega), e0, hW, e15, rfl, u, e3, e14, eL⟩
    | succ p =>
      have k2 : ((p + 1 : Nat) : Int) > 0 := by omega
      have gm : IntKind.i64.wrap (((p + 1 : Nat) : Int) - 1) = (p : Int) := by rw [wrap64 ⟨by omega, by omega⟩]; omega
      obtain ⟨y, hy⟩ : ∃ y, L[p]? = some y := ⟨_, List.getElem?_eq_getElem (by omega)⟩
      have ey := en_at eI hy
      have gp : (0 : Int) ≤ p := by omega
      have gp2 : (p : Int) < L.length := by omega
      by_cases b1 : y = x
      · have k3 := eqb b1
        simp only [RUX, Nat.reduceAdd, reduceIte, Nat.reduceEqDiff, Nat.reduceLT, Nat.reduceLeDiff, reduceCtorEq, eq_self, rV, FIX, forall_const, endE_n, endE_r, CHT, disj, Nat.reduceBEq, beq_self_eq_true, APT, APX, forall_eq, ALT, KI, UCq_8.d, e0, hW, e15, e16, e3, e14, eL, en_len, k1, ex, gz, gw, eI, gw1, k2, gm, ey, gp, gp2, k3]
        refine ES.mk false (no fun g => nd_no (hp.nodup_iff.2 ((jobs_way g).nodup_iff.2 g.nd)) (Nat.lt_succ_self p) hx (by rw [← b1]; exact hy)) ?_
        simp only [RUX, Nat.reduceAdd, reduceIte, Nat.reduceEqDiff, Nat.reduceLT, Nat.reduceLeDiff, reduceCtorEq, eq_self, rV, FIX, forall_const, endE_n, endE_r, CHT, disj, Nat.reduceBEq, beq_self_eq_true, APT, APX, forall_eq, ALT, KI, UCq_8.d, e0, hW, e15, e16, e3, e14, eL, en_len, k1, ex, gz, gw, eI, gw1, k2, gm, ey, gp, gp2, k3]
      · have k3 := neqb b1
        simp only [RUX, Nat.reduceAdd, reduceIte, Nat.reduceEqDiff, Nat.reduceLT, Nat.reduceLeDiff, reduceCtorEq, eq_self, rV, FIX, forall_const, endE_n, endE_r, CHT, disj, Nat.reduceBEq, beq_self_eq_true, APT, APX, forall_eq, ALT, KI, UCq_8.d, e0, hW, e15, e16, e3, e14, eL, en_len, k1, ex, gz, gw, eI, gw1, k2, gm, ey, gp, gp2, k3]
        refine ⟨by omega, upto_next a hx h1, fun j hj x' y' hx' hy' => ?_, e0, hW, e15, rfl, u, e3, e14, eL⟩
        by_cases hjp : j + 1 < p + 1
        · exact b j hjp x' y' hx' hy'
        · have : j = p := by omega
          subst this
          rw [hy] at hx'
          rw [hx] at hy'
          rw [← Option.some.inj hx', ← Option.some.inj hy']
          exact b1
  have q1 : ∀ x ∈ wayJobs w, w.due ≤ x ∧ x ≤ w.next - 1 := fun x hx => upto_mem a (by omega) x (hp.mem_iff.2 hx)
  have q2 : (wayJobs w).Nodup := hp.nodup_iff.1 (nd_adj hup fun j x y hx hy => b j (by have := (List.getElem?_eq_some_iff.1 hy).1; omega) x y hx hy)
  simp only [RUX, Nat.reduceAdd, reduceIte, Nat.reduceEqDiff, Nat.reduceLT, Nat.reduceLeDiff, reduceCtorEq, eq_self, rV, FIX, forall_const, endE_n, endE_r, CHT, disj, Nat.reduceBEq, beq_self_eq_true, APT, APX, forall_eq, ALT, KI, UCq_9.d, e0, hW, e15, e16, e3, e14, eL, en_len, k1]
  obtain ⟨bs, hbs, Cs⟩ := stopped_at hs3
  refine callP (v := 0) (w := w) Cs rfl rfl rfl rfl hW ⟨rfl, ?_⟩
  cases bs with
  | true =>
    simp only [RUX, Nat.reduceAdd, reduceIte, Nat.reduceEqDiff, Nat.reduceLT, Nat.reduceLeDiff, reduceCtorEq, eq_self, rV, FIX, forall_const, endE_n, endE_r, CHT, disj, Nat.reduceBEq, beq_self_eq_true, APT, APX, forall_eq, ALT, KI, UCq_9.d, e0, hW, e15, e16, e3, e14, eL, en_len, k1]
    refine fin q1 q2 (fun e => by have := hbs.1 rfl; omega) _ _ _ ?_ ?_
    · exact e0
    · exact hW
  | false =>
    have hs0 : sh w 3 = 0 := by
      by_cases e : sh w 3 = 1
      · cases hbs.2 e
      · omega
    by_cases b2 : (L.length : Int) = w.next - w.due
    · have k3 := eqn b2
      simp only [RUX, Nat.reduceAdd, reduceIte, Nat.reduceEqDiff, Nat.reduceLT, Nat.reduceLeDiff, reduceCtorEq, eq_self, rV, FIX, forall_const, endE_n, endE_r, CHT, disj, Nat.reduceBEq, beq_self_eq_true, APT, APX, forall_eq, ALT, KI, UCq_9.d, e0, hW, e15, e16, e3, e14, eL, en_len, k1, gw2, k3]
      refine fin q1 q2 (fun _ => by rw [← hlen]; exact b2) _ _ _ ?_ ?_
      · exact e0
      · exact hW
    · have k3 := neqn b2
      simp only [RUX, Nat.reduceAdd, reduceIte, Nat.reduceEqDiff, Nat.reduceLT, Nat.reduceLeDiff, reduceCtorEq, eq_self, rV, FIX, forall_const, endE_n, endE_r, CHT, disj, Nat.reduceBEq, beq_self_eq_true, APT, APX, forall_eq, ALT, KI, UCq_9.d, e0, hW, e15, e16, e3, e14, eL, en_len, k1, gw2, k3]
      refine ES.mk false (no fun g => b2 (by rw [hlen, (jobs_way g).length_eq]; exact g.len hs0)) ?_
      simp only [RUX, Nat.reduceAdd, reduceIte, Nat.reduceEqDiff, Nat.reduceLT, Nat.reduceLeDiff, reduceCtorEq, eq_self, rV, FIX, forall_const, endE_n, endE_r, CHT, disj, Nat.reduceBEq, beq_self_eq_true, APT, APX, forall_eq, ALT, KI, UCq_9.d, e0, hW, e15, e16, e3, e14, eL, en_len, k1, gw2, k3]
end Go.V
set_option linter.unusedSimpArgs false
namespace Go.V
open Go.Proofs
/-- Those have ended who may have, as the program asks it. -/
structure PEnds (w : CW) : Prop where
  rd : sh w 0 = 1 ↔ w.reader = 3
  cl : sh w 1 = 1 ↔ w.closer = 1
  kp : sh w 2 = 1 ↔ w.keeper = 5
  al : w.closer = 1 → All w
  us : sh w 3 = 1 → w.user = 1
  rc : sh w 3 = 0 → 2 ≤ w.reader → w.next = w.jobs
  an : sh w 3 = 0 → Any w → w.reader = 3 ∧ w.queue.length = 0
  dn : sh w 3 = 0 → (w.keeper = 4 ∨ w.keeper = 5) → w.closer = 1 ∧ w.results.length = 0
  en : sh w 3 = 0 → w.user = 1 → w.keeper = 5 ∧ w.out.length = 0
theorem ends_iff {w : CW} : Ends w ↔ PEnds w ∧ (w.keeper = 0 → ¬ Due w) ∧ (w.keeper = 2 → Due w) :=
  ⟨fun g => ⟨⟨g.rd, g.cl, g.kp, g.al, g.us, g.rc, g.an, g.dn, g.en⟩, g.tk, g.gv⟩, fun ⟨g, x, y⟩ => ⟨g.rd, g.cl, g.kp, g.us, g.rc, g.an, g.al, g.dn, g.en, x, y⟩⟩
theorem bitt {s x y : Int} (hs : s = 0 ∨ s = 1) (h : s = 1 ↔ x = y) : (s != (if (x == y) = true then (1 : Int) else 0)) = false := by
  by_cases g : x = y
  · rw [if_pos (eqb g), h.2 g]; rfl
  · rw [if_neg (by rw [neqb g]; decide)]
    rcases hs with hs | hs
    · rw [hs]; rfl
    · exact absurd (h.1 hs) g
theorem bitn {s x y : Int} (hs : s = 0 ∨ s = 1) (h : ¬ (s = 1 ↔ x = y)) : (s != (if (x == y) = true then (1 : Int) else 0)) = true := by
  by_cases g : x = y
  · rw [if_pos (eqb g)]
    rcases hs with hs | hs
    · rw [hs]; rfl
    · exact absurd ⟨fun _ => g, fun _ => hs⟩ h
  · rw [if_neg (by rw [neqb g]; decide)]
    rcases hs with hs | hs
    · exact absurd ⟨fun e => absurd e (by omega), fun e => absurd e g⟩ h
    · rw [hs]; rfl
/- (*loop.example/teagle/impl.CrewWorld).endsOk -/
def r52_0 : List AOper := [ao 0 2 (.mv (.k (.b false)))]
def r52_1 : List AOper := [ao 0 3 (.mv (.t 0)),
  ao 1 4 (.nck (.t 3)),
  ao 2 5 (.fa 16 (.t 4)),
  ao 3 6 (.ld 1 false (.t 5)),
  ao 4 7 (.ia 1 (.t 6) (.k (.i 0))),
  ao 5 8 (.ld 1 false (.t 7)),
  au 6 9 (ru 6) (.mv (.t 0)),
  au 7 10 (ru 6) (.nck (.t 9)),
  au 8 11 (ru 6) (.fa 4 (.t 10)),
  au 9 12 (ru 6) (.ld 1 false (.t 11)),
  au 10 13 (ru 6) (.bin .eql (.t 12) (.k (.i 3))),
  au 11 14 (ru 6) (.call (.k (.c (.fn 90 []))) [(.t 13)]),
  ao 12 15 (.bin .neq (.t 8) (.t 14)),
  ao 13 16 (.mv (.t 15)),
  ag 14 17 16 false [] (.mv (.t 0)),
  ag 15 18 16 false [] (.nck (.t 17)),
  ag 16 19 16 false [] (.fa 16 (.t 18)),
  ag 17 20 16 false [] (.ld 1 false (.t 19)),
  ag 18 21 16 false [] (.ia 1 (.t 20) (.k (.i 1))),
  ag 19 22 16 false [] (.ld 1 false (.t 21)),
  ag 20 23 16 false [14, 15, 16, 17, 18, 19] (.mv (.t 0)),
  ag 21 24 16 false [14, 15, 16, 17, 18, 19] (.nck (.t 23)),
  ag 22 25 16 false [14, 15, 16, 17, 18, 19] (.fa 7 (.t 24)),
  ag 23 26 16 false [14, 15, 16, 17, 18, 19] (.ld 1 false (.t 25)),
  ag 24 27 16 false [14, 15, 16, 17, 18, 19] (.bin .eql (.t 26) (.k (.i 1))),
  ag 25 28 16 false [14, 15, 16, 17, 18, 19] (.call (.k (.c (.fn 90 []))) [(.t 27)]),
  ag 26 29 16 false [] (.bin .neq (.t 22) (.t 28)),
  ao 27 30 (.pick (.t 16) (.k (.b true)) (.t 29)),
  ao 28 31 (.mv (.t 30)),
  ag 29 32 31 false [] (.mv (.t 0)),
  ag 30 33 31 false [] (.nck (.t 32)),
  ag 31 34 31 false [] (.fa 16 (.t 33)),
  ag 32 35 31 false [] (.ld 1 false (.t 34)),
  ag 33 36 31 false [] (.ia 1 (.t 35) (.k (.i 2))),
  ag 34 37 31 false [] (.ld 1 false (.t 36)),
  ag 35 38 31 false [29, 30, 31, 32, 33, 34] (.mv (.t 0)),
  ag 36 39 31 false [29, 30, 31, 32, 33, 34] (.nck (.t 38)),
  ag 37 40 31 false [29, 30, 31, 32, 33, 34] (.fa 9 (.t 39)),
  ag 38 41 31 false [29, 30, 31, 32, 33, 34] (.ld 1 false (.t 40)),
  ag 39 42 31 false [29, 30, 31, 32, 33, 34] (.bin .eql (.t 41) (.k (.i 5))),
  ag 40 43 31 false [29, 30, 31, 32, 33, 34] (.call (.k (.c (.fn 90 []))) [(.t 42)]),
  ag 41 44 31 false [] (.bin .neq (.t 37) (.t 43)),
  ao 42 45 (.pick (.t 31) (.k (.b true)) (.t 44))]
def r52_2 : List AOper := [ao 0 2 (.mv (.k (.b false)))]
def c52_3 : ACode := .seq (.reg r52_2) .ret
def c52_4 : ACode := .cond (.t 45) c52_3 .skip
def c52_5 : ACode := .seq (.reg r52_1) c52_4
def r52_6 : List AOper := [ao 0 46 (.mv (.t 0)),
  ao 1 47 (.nck (.t 46)),
  ao 2 48 (.fa 7 (.t 47)),
  ao 3 49 (.ld 1 false (.t 48)),
  ao 4 50 (.bin .eql (.t 49) (.k (.i 1))),
  ao 5 51 (.mv (.t 50)),
  ag 6 52 51 true [] (.mv (.t 0)),
  ag 7 53 51 true [] (.call (.k (.c (.fn 70 []))) [(.t 52)]),
  ag 8 54 51 true [] (.un .not (.t 53)),
  ao 9 55 (.pick (.t 51) (.t 54) (.k (.b false)))]
def r52_7 : List AOper := [ao 0 2 (.mv (.k (.b false)))]
def c52_8 : ACode := .seq (.reg r52_7) .ret
def c52_9 : ACode := .cond (.t 55) c52_8 .skip
def c52_10 : ACode := .seq (.reg r52_6) c52_9
def r52_11 : List AOper := [ao 0 56 (.mv (.t 0)),
  ao 1 57 (.call (.k (.c (.fn 89 []))) [(.t 56)])]
def r52_12 : List AOper := [ao 0 58 (.mv (.t 0)),
  ao 1 59 (.nck (.t 58)),
  ao 2 60 (.fa 13 (.t 59)),
  ao 3 61 (.ld 1 false (.t 60)),
  ao 4 62 (.bin .eql (.t 61) (.k (.i 1))),
  ao 5 2 (.mv (.t 62))]
def c52_13 : ACode := .seq (.reg r52_12) .ret
def c52_14 : ACode := .cond (.t 57) c52_13 .skip
def c52_15 : ACode := .seq (.reg r52_11) c52_14
def r52_16 : List AOper := [ao 0 64 (.mv (.t 0)),
  ao 1 65 (.nck (.t 64)),
  ao 2 66 (.fa 4 (.t 65)),
  ao 3 67 (.ld 1 false (.t 66)),
  ao 4 68 (.bin .eql (.t 67) (.k (.i 2))),
  ao 5 69 (.mv (.t 68)),
  ag 6 70 69 false [] (.mv (.t 0)),
  ag 7 71 69 false [] (.nck (.t 70)),
  ag 8 72 69 false [] (.fa 4 (.t 71)),
  ag 9 73 69 false [] (.ld 1 false (.t 72)),
  ag 10 74 69 false [] (.bin .eql (.t 73) (.k (.i 3))),
  ao 11 75 (.pick (.t 69) (.k (.b true)) (.t 74)),
  ao 12 76 (.mv (.t 75)),
  ag 13 77 76 true [] (.mv (.t 0)),
  ag 14 78 76 true [] (.nck (.t 77)),
  ag 15 79 76 true [] (.fa 3 (.t 78)),
  ag 16 80 76 true [] (.ld 1 false (.t 79)),
  ag 17 81 76 true [13, 14, 15, 16] (.mv (.t 0)),
  ag 18 82 76 true [13, 14, 15, 16] (.nck (.t 81)),
  ag 19 83 76 true [13, 14, 15, 16] (.fa 0 (.t 82)),
  ag 20 84 76 true [13, 14, 15, 16] (.ld 1 false (.t 83)),
  ag 21 85 76 true [] (.bin .neq (.t 80) (.t 84)),
  ao 22 86 (.pick (.t 76) (.t 85) (.k (.b false))),
  ao 23 63 (.mv (.t 86))]
def r52_17 : List AOper := [ao 0 2 (.mv (.k (.b false)))]
def c52_18 : ACode := .seq (.reg r52_17) .ret
def r52_19 : List AOper := [ao 0 88 (.mv (.t 0)),
  ao 1 89 (.call (.k (.c (.fn 91 []))) [(.t 88)]),
  ao 2 90 (.mv (.t 89)),
  ag 3 91 90 true [] (.mv (.t 0)),
  ag 4 92 90 true [] (.nck (.t 91)),
  ag 5 93 90 true [] (.fa 4 (.t 92)),
  ag 6 94 90 true [] (.ld 1 false (.t 93)),
  ag 7 95 90 true [] (.bin .neq (.t 94) (.k (.i 3))),
  ag 8 96 90 true [] (.mv (.t 95)),
  ag 9 97 96 false [] (.mv (.t 0)),
  ag 10 98 96 false [] (.nck (.t 97)),
  ag 11 99 96 false [] (.fa 5 (.t 98)),
  ag 12 100 96 false [] (.ld 1 false (.t 99)),
  ag 13 101 96 false [] (.len (.t 100)),
  ag 14 102 96 false [] (.bin .gtr (.t 101) (.k (.i 0))),
  ag 15 103 90 true [] (.pick (.t 96) (.k (.b true)) (.t 102)),
  ao 16 104 (.pick (.t 90) (.t 103) (.k (.b false))),
  ao 17 87 (.mv (.t 104))]
def r52_20 : List AOper := [ao 0 2 (.mv (.k (.b false)))]
def c52_21 : ACode := .seq (.reg r52_20) .ret
def r52_22 : List AOper := [ao 0 106 (.mv (.t 0)),
  ao 1 107 (.nck (.t 106)),
  ao 2 108 (.fa 9 (.t 107)),
  ao 3 109 (.ld 1 false (.t 108)),
  ao 4 110 (.bin .eql (.t 109) (.k (.i 4))),
  ao 5 111 (.mv (.t 110)),
  ag 6 112 111 false [] (.mv (.t 0)),
  ag 7 113 111 false [] (.nck (.t 112)),
  ag 8 114 111 false [] (.fa 9 (.t 113)),
  ag 9 115 111 false [] (.ld 1 false (.t 114)),
  ag 10 116 111 false [] (.bin .eql (.t 115) (.k (.i 5))),
  ao 11 117 (.pick (.t 111) (.k (.b true)) (.t 116)),
  ao 12 118 (.mv (.t 117)),
  ag 13 119 118 true [] (.mv (.t 0)),
  ag 14 120 118 true [] (.nck (.t 119)),
  ag 15 121 118 true [] (.fa 7 (.t 120)),
  ag 16 122 118 true [] (.ld 1 false (.t 121)),
  ag 17 123 118 true [] (.bin .neq (.t 122) (.k (.i 1))),
  ag 18 124 118 true [] (.mv (.t 123)),
  ag 19 125 124 false [] (.mv (.t 0)),
  ag 20 126 124 false [] (.nck (.t 125)),
  ag 21 127 124 false [] (.fa 8 (.t 126)),
  ag 22 128 124 false [] (.ld 1 false (.t 127)),
  ag 23 129 124 false [] (.len (.t 128)),
  ag 24 130 124 false [] (.bin .gtr (.t 129) (.k (.i 0))),
  ag 25 131 118 true [] (.pick (.t 124) (.k (.b true)) (.t 130)),
  ao 26 132 (.pick (.t 118) (.t 131) (.k (.b false))),
  ao 27 105 (.mv (.t 132))]
def r52_23 : List AOper := [ao 0 2 (.mv (.k (.b false)))]
def c52_24 : ACode := .seq (.reg r52_23) .ret
def r52_25 : List AOper := [ao 0 134 (.mv (.t 0)),
  ao 1 135 (.nck (.t 134)),
  ao 2 136 (.fa 13 (.t 135)),
  ao 3 137 (.ld 1 false (.t 136)),
  ao 4 138 (.bin .eql (.t 137) (.k (.i 1))),
  ao 5 139 (.mv (.t 138)),
  ag 6 140 139 true [] (.mv (.t 0)),
  ag 7 141 139 true [] (.nck (.t 140)),
  ag 8 142 139 true [] (.fa 9 (.t 141)),
  ag 9 143 139 true [] (.ld 1 false (.t 142)),
  ag 10 144 139 true [] (.bin .neq (.t 143) (.k (.i 5))),
  ag 11 145 139 true [] (.mv (.t 144)),
  ag 12 146 145 false [] (.mv (.t 0)),
  ag 13 147 145 false [] (.nck (.t 146)),
  ag 14 148 145 false [] (.fa 12 (.t 147)),
  ag 15 149 145 false [] (.ld 1 false (.t 148)),
  ag 16 150 145 false [] (.len (.t 149)),
  ag 17 151 145 false [] (.bin .gtr (.t 150) (.k (.i 0))),
  ag 18 152 139 true [] (.pick (.t 145) (.k (.b true)) (.t 151)),
  ao 19 153 (.pick (.t 139) (.t 152) (.k (.b false))),
  ao 20 133 (.mv (.t 153))]
def r52_26 : List AOper := [ao 0 2 (.mv (.k (.b false)))]
def c52_27 : ACode := .seq (.reg r52_26) .ret
def c52_28 : ACode := .cond (.t 133) c52_27 .skip
def c52_29 : ACode := .seq (.reg r52_25) c52_28
def c52_30 : ACode := .cond (.t 105) c52_24 c52_29
def c52_31 : ACode := .seq (.reg r52_22) c52_30
def c52_32 : ACode := .cond (.t 87) c52_21 c52_31
def c52_33 : ACode := .seq (.reg r52_19) c52_32
def c52_34 : ACode := .cond (.t 63) c52_18 c52_33
def c52_35 : ACode := .seq (.reg r52_16) c52_34
def c52_36 : ACode := .block 0 c52_35
def r52_37 : List AOper := [ao 0 2 (.mv (.k (.b true)))]
def c52 : ACode := .seq (.reg r52_0) (.seq c52_5 (.seq c52_10 (.seq c52_15 (.seq c52_36 (.seq (.reg r52_37) .ret)))))
def s52 : List ARes := [.tmp 2]
theorem ok52 : okF Try.prog 52 154 c52 s52 := ⟨Try.f52, Try.func52, Try.ntmps52, by kernel_rfl, by kernel_rfl, by kernel_rfl⟩
def UCr_1 := Bx.mk <|
  aN (uA c52.eq_1) <| aN (uR r52_0.eq_1) <| aN (uA c52_5.eq_1) <| aN (uR r52_1.eq_1) <| aN (uA c52_4.eq_1) <| aN (uA c52_3.eq_1) <| aN (uR r52_2.eq_1) <| aN (uA c52_10.eq_1) <| aN (uR r52_6.eq_1) <| aN (uA c52_9.eq_1) <| aN (uA c52_8.eq_1) <| aN (uR r52_7.eq_1) <| aN (uA c52_15.eq_1) <| aN (uR r52_11.eq_1) <| aN (uA c52_14.eq_1) <| aN (uA c52_13.eq_1) <| aN (uR r52_12.eq_1) <| aN (uA c52_36.eq_1) <| aN (uA c52_35.eq_1) <| aN (uR r52_16.eq_1) <| aN (uA c52_34.eq_1) <| aN (uA c52_18.eq_1) <| aN (uR r52_17.eq_1) <| aN (uA c52_33.eq_1) <| aN (uR r52_19.eq_1) <| aN (uA c52_32.eq_1) <| aN (uA c52_21.eq_1) <| aN (uR r52_20.eq_1) <| aN (uA c52_31.eq_1) <| aN (uR r52_22.eq_1) <| aN (uA c52_30.eq_1) <| aN (uA c52_24.eq_1) <| aN (uR r52_23.eq_1) <| aN (uA c52_29.eq_1) <| aN (uR r52_25.eq_1) <| aN (uA c52_28.eq_1) <| aN (uA c52_27.eq_1) <| aN (uR r52_26.eq_1) <| aN (uR r52_37.eq_1) <| s52.eq_1
def UCr_2 := Bx.mk <|
  aN (uA c52.eq_1) <| aN (uR r52_0.eq_1) <| aN (uA c52_5.eq_1) <| aN (uR r52_1.eq_1) <| aN (uA c52_4.eq_1) <| aN (uA c52_3.eq_1) <| aN (uR r52_2.eq_1) <| aN (uA c52_10.eq_1) <| aN (uR r52_6.eq_1) <| aN (uA c52_9.eq_1) <| aN (uA c52_8.eq_1) <| aN (uR r52_7.eq_1) <| aN (uA c52_15.eq_1) <| aN (uR r52_11.eq_1) <| aN (uA c52_14.eq_1) <| aN (uA c52_13.eq_1) <| aN (uR r52_12.eq_1) <| aN (uA c52_36.eq_1) <| aN (uA c52_35.eq_1) <| aN (uR r52_16.eq_1) <| aN (uA c52_34.eq_1) <| aN (uA c52_18.eq_1) <| aN (uR r52_17.eq_1) <| aN (uA c52_33.eq_1) <| aN (uR r52_19.eq_1) <| aN (uA c52_32.eq_1) <| aN (uA c52_21.eq_1) <| aN (uR r52_20.eq_1) <| aN (uA c52_31.eq_1) <| aN (uR r52_22.eq_1) <| aN (uA c52_30.eq_1) <| aN (uA c52_24.eq_1) <| aN (uR r52_23.eq_1) <| aN (uR r52_37.eq_1) <| s52.eq_1
def UCr_3 := Bx.mk <|
  aN (uA c52.eq_1) <| aN (uR r52_0.eq_1) <| aN (uA c52_5.eq_1) <| aN (uR r52_1.eq_1) <| aN (uA c52_4.eq_1) <| aN (uA c52_3.eq_1) <| aN (uR r52_2.eq_1) <| aN (uA c52_10.eq_1) <| aN (uR r52_6.eq_1) <| aN (uA c52_9.eq_1) <| aN (uA c52_8.eq_1) <| aN (uR r52_7.eq_1) <| aN (uA c52_15.eq_1) <| aN (uR r52_11.eq_1) <| aN (uA c52_14.eq_1) <| aN (uA c52_13.eq_1) <| aN (uR r52_12.eq_1) <| aN (uA c52_36.eq_1) <| aN (uA c52_35.eq_1) <| aN (uR r52_16.eq_1) <| aN (uA c52_34.eq_1) <| aN (uA c52_18.eq_1) <| aN (uR r52_17.eq_1) <| aN (uA c52_33.eq_1) <| aN (uR r52_19.eq_1) <| aN (uA c52_32.eq_1) <| aN (uA c52_21.eq_1) <| aN (uR r52_20.eq_1) <| aN (uR r52_37.eq_1) <| s52.eq_1
def UCr_4 := Bx.mk <|
  aN (uA c52.eq_1) <| aN (uR r52_0.eq_1) <| aN (uA c52_5.eq_1) <| aN (uR r52_1.eq_1) <| aN (uA c52_4.eq_1) <| aN (uA c52_3.eq_1) <| aN (uR r52_2.eq_1) <| aN (uA c52_10.eq_1) <| aN (uR r52_6.eq_1) <| aN (uA c52_9.eq_1) <| aN (uA c52_8.eq_1) <| aN (uR r52_7.eq_1) <| aN (uA c52_15.eq_1) <| aN (uR r52_11.eq_1) <| aN (uA c52_14.eq_1) <| aN (uA c52_13.eq_1) <| aN (uR r52_12.eq_1) <| aN (uA c52_36.eq_1) <| aN (uA c52_35.eq_1) <| aN (uR r52_16.eq_1) <| aN (uA c52_34.eq_1) <| aN (uA c52_18.eq_1) <| aN (uR r52_17.eq_1) <| aN (uR r52_37.eq_1) <| s52.eq_1
def UCr_5 := Bx.mk <|
  aN (uA c52.eq_1) <| aN (uR r52_0.eq_1) <| aN (uA c52_5.eq_1) <| aN (uR r52_1.eq_1) <| aN (uA c52_4.eq_1) <| aN (uA c52_3.eq_1) <| aN (uR r52_2.eq_1) <| aN (uA c52_10.eq_1) <| aN (uR r52_6.eq_1) <| aN (uA c52_9.eq_1) <| aN (uA c52_8.eq_1) <| aN (uR r52_7.eq_1) <| aN (uA c52_36.eq_1) <| aN (uA c52_35.eq_1) <| aN (uR r52_16.eq_1) <| aN (uA c52_34.eq_1) <| aN (uA c52_18.eq_1) <| aN (uR r52_17.eq_1) <| aN (uA c52_33.eq_1) <| aN (uR r52_19.eq_1) <| aN (uA c52_32.eq_1) <| aN (uA c52_21.eq_1) <| aN (uR r52_20.eq_1) <| aN (uA c52_31.eq_1) <| aN (uR r52_22.eq_1) <| aN (uA c52_30.eq_1) <| aN (uA c52_24.eq_1) <| aN (uR r52_23.eq_1) <| aN (uA c52_29.eq_1) <| aN (uR r52_25.eq_1) <| aN (uA c52_28.eq_1) <| aN (uA c52_27.eq_1) <| aN (uR r52_26.eq_1) <| aN (uR r52_37.eq_1) <| s52.eq_1
set_option maxRecDepth 4000 in
set_option maxHeartbeats 1000000 in
theorem endsOk_ok {w : CW} (h : Form w) : YW 52 w (PEnds w) := by
  obtain ⟨ba, hba, Ca⟩ := someHasEnded_ok h
  obtain ⟨bl, hbl, Cl⟩ := haveEnded_ok h
  obtain ⟨bs, hbs, Cs⟩ := stopped_ok h
  have s0 := en_at eI (sh_at h (i := 0) (by omega))
  have s1 := en_at eI (sh_at h (i := 1) (by omega))
  have s2 := en_at eI (sh_at h (i := 2) (by omega))
  have y0 := sh_01 h (i := 0) (by omega)
  have y1 := sh_01 h (i := 1) (by omega)
  have y2 := sh_01 h (i := 2) (by omega)
  have y3 := sh_01 h (i := 3) (by omega)
  have hrd := h.rd
  refine WC.intro ok52 rfl (fun _ => rfl) fun X => ?_
  have t29 : (sh w 3 = 0) → ((w.user = 1 → w.keeper = 5 ∧ w.out.length = 0) → PEnds w) → ∀ (t : Nat → T) (H : HMap) (c : Nat), t 0 = wP 1000 0 → H 1000 = some (cwB 0 w) → wpa Try.prog X c52_29 (inW 0 (thenW Try.prog X (.seq (.reg r52_37) .ret) (endE (fun b : Bool => b = true ↔ PEnds w) T.b (fun _ => [rV 0 29 (cwC w) (cwC w)]) [.tmp 2]))) ⟨t, H, c⟩ := by
    intro z3 pre t H c e0 hW
    simp only [wP, T.c] at e0
    by_cases b1 : w.user = 1
    · have k1 := eqb b1
      by_cases b2 : w.keeper = 5
      · have k2 := eqn b2
        by_cases b3 : (w.out.length : Int) > 0
        · simp only [RUX, Nat.reduceAdd, reduceIte, Nat.reduceEqDiff, Nat.reduceLT, Nat.reduceLeDiff, reduceCtorEq, eq_self, rV, FIX, forall_const, endE_n, endE_r, CHT, disj, Nat.reduceBEq, beq_self_eq_true, APT, APX, forall_eq, ALT, KI, UCr_1.d, e0, hW, en_len, k1, k2, b3]
          refine ES.mk false (no fun g => by have := (g.en z3 b1).2; omega) ?_
          simp only [RUX, Nat.reduceAdd, reduceIte, Nat.reduceEqDiff, Nat.reduceLT, Nat.reduceLeDiff, reduceCtorEq, eq_self, rV, FIX, forall_const, endE_n, endE_r, CHT, disj, Nat.reduceBEq, beq_self_eq_true, APT, APX, forall_eq, ALT, KI, UCr_1.d, e0, hW, en_len, k1, k2, b3]
        · simp only [RUX, Nat.reduceAdd, reduceIte, Nat.reduceEqDiff, Nat.reduceLT, Nat.reduceLeDiff, reduceCtorEq, eq_self, rV, FIX, forall_const, endE_n, endE_r, CHT, disj, Nat.reduceBEq, beq_self_eq_true, APT, APX, forall_eq, ALT, KI, UCr_1.d, e0, hW, en_len, k1, k2, b3]
          refine ES.mk true (yes (pre fun _ => ⟨b2, by omega⟩)) ?_
          simp only [RUX, Nat.reduceAdd, reduceIte, Nat.reduceEqDiff, Nat.reduceLT, Nat.reduceLeDiff, reduceCtorEq, eq_self, rV, FIX, forall_const, endE_n, endE_r, CHT, disj, Nat.reduceBEq, beq_self_eq_true, APT, APX, forall_eq, ALT, KI, UCr_1.d, e0, hW, en_len, k1, k2, b3]
      · have k2 := neqn b2
        simp only [RUX, Nat.reduceAdd, reduceIte, Nat.reduceEqDiff, Nat.reduceLT, Nat.reduceLeDiff, reduceCtorEq, eq_self, rV, FIX, forall_const, endE_n, endE_r, CHT, disj, Nat.reduceBEq, beq_self_eq_true, APT, APX, forall_eq, ALT, KI, UCr_1.d, e0, hW, en_len, k1, k2]
        refine ES.mk false (no fun g => b2 (g.en z3 b1).1) ?_
        simp only [RUX, Nat.reduceAdd, reduceIte, Nat.reduceEqDiff, Nat.reduceLT, Nat.reduceLeDiff, reduceCtorEq, eq_self, rV, FIX, forall_const, endE_n, endE_r, CHT, disj, Nat.reduceBEq, beq_self_eq_true, APT, APX, forall_eq, ALT, KI, UCr_1.d, e0, hW, en_len, k1, k2]
    · have k1 := neqb b1
      simp only [RUX, Nat.reduceAdd, reduceIte, Nat.reduceEqDiff, Nat.reduceLT, Nat.reduceLeDiff, reduceCtorEq, eq_self, rV, FIX, forall_const, endE_n, endE_r, CHT, disj, Nat.reduceBEq, beq_self_eq_true, APT, APX, forall_eq, ALT, KI, UCr_1.d, e0, hW, en_len, k1]
      refine ES.mk true (yes (pre fun e => absurd e b1)) ?_
      simp only [RUX, Nat.reduceAdd, reduceIte, Nat.reduceEqDiff, Nat.reduceLT, Nat.reduceLeDiff, reduceCtorEq, eq_self, rV, FIX, forall_const, endE_n, endE_r, CHT, disj, Nat.reduceBEq, beq_self_eq_true, APT, APX, forall_eq, ALT, KI, UCr_1.d, e0, hW, en_len, k1]
  have t31 : (sh w 3 = 0) → ((w.keeper = 4 ∨ w.keeper = 5 → w.closer = 1 ∧ w.results.length = 0) → (w.user = 1 → w.keeper = 5 ∧ w.out.length = 0) → PEnds w) → ∀ (t : Nat → T) (H : HMap) (c : Nat), t 0 = wP 1000 0 → H 1000 = some (cwB 0 w) → wpa Try.prog X c52_31 (inW 0 (thenW Try.prog X (.seq (.reg r52_37) .ret) (endE (fun b : Bool => b = true ↔ PEnds w) T.b (fun _ => [rV 0 29 (cwC w) (cwC w)]) [.tmp 2]))) ⟨t, H, c⟩ := by
    intro z3 pre t H c e0 hW
    simp only [wP, T.c] at e0
    by_cases c1 : w.keeper = 4
    · have k1 := eqb c1
      have hkk : w.keeper = 4 ∨ w.keeper = 5 := .inl c1
      by_cases b1 : w.closer = 1
      · have k2 := eqn b1
        by_cases b3 : (w.results.length : Int) > 0
        · simp only [RUX, Nat.reduceAdd, reduceIte, Nat.reduceEqDiff, Nat.reduceLT, Nat.reduceLeDiff, reduceCtorEq, eq_self, rV, FIX, forall_const, endE_n, endE_r, CHT, disj, Nat.reduceBEq, beq_self_eq_true, APT, APX, forall_eq, ALT, KI, UCr_2.d, e0, hW, en_len, k1, k2, b3]
          refine ES.mk false (no fun g => by have := (g.dn z3 hkk).2; omega) ?_
          simp only [RUX, Nat.reduceAdd, reduceIte, Nat.reduceEqDiff, Nat.reduceLT, Nat.reduceLeDiff, reduceCtorEq, eq_self, rV, FIX, forall_const, endE_n, endE_r, CHT, disj, Nat.reduceBEq, beq_self_eq_true, APT, APX, forall_eq, ALT, KI, UCr_2.d, e0, hW, en_len, k1, k2, b3]
        · simp only [RUX, Nat.reduceAdd, reduceIte, Nat.reduceEqDiff, Nat.reduceLT, Nat.reduceLeDiff, reduceCtorEq, eq_self, rV, FIX, forall_const, endE_n, endE_r, CHT, disj, Nat.reduceBEq, beq_self_eq_true, APT, APX, forall_eq, ALT, KI, UCr_2.d, e0, hW, en_len, k1, k2, b3]
          refine t29 z3 (pre fun _ => ⟨b1, by omega⟩) _ _ _ ?_ ?_
          · exact e0
          · exact hW
      · have k2 := neqn b1
        simp only [RUX, Nat.reduceAdd, reduceIte, Nat.reduceEqDiff, Nat.reduceLT, Nat.reduceLeDiff, reduceCtorEq, eq_self, rV, FIX, forall_const, endE_n, endE_r, CHT, disj, Nat.reduceBEq, beq_self_eq_true, APT, APX, forall_eq, ALT, KI, UCr_2.d, e0, hW, en_len, k1, k2]
        refine ES.mk false (no fun g => b1 (g.dn z3 hkk).1) ?_
        simp only [RUX, Nat.reduceAdd, reduceIte, Nat.reduceEqDiff, Nat.reduceLT, Nat.reduceLeDiff, reduceCtorEq, eq_self, rV, FIX, forall_const, endE_n, endE_r, CHT, disj, Nat.reduceBEq, beq_self_eq_true, APT, APX, forall_eq, ALT, KI, UCr_2.d, e0, hW, en_len, k1, k2]
    by_cases c2 : w.keeper = 5
    · have k1 : (w.keeper == 4) = false := neqb c1
      have k4 := eqb c2
      have hkk : w.keeper = 4 ∨ w.keeper = 5 := .inr c2
      by_cases b1 : w.closer = 1
      · have k2 := eqn b1
        by_cases b3 : (w.results.length : Int) > 0
        · simp only [RUX, Nat.reduceAdd, reduceIte, Nat.reduceEqDiff, Nat.reduceLT, Nat.reduceLeDiff, reduceCtorEq, eq_self, rV, FIX, forall_const, endE_n, endE_r, CHT, disj, Nat.reduceBEq, beq_self_eq_true, APT, APX, forall_eq, ALT, KI, UCr_2.d, e0, hW, en_len, k1, k4, k2, b3]
          refine ES.mk false (no fun g => by have := (g.dn z3 hkk).2; omega) ?_
          simp only [RUX, Nat.reduceAdd, reduceIte, Nat.reduceEqDiff, Nat.reduceLT, Nat.reduceLeDiff, reduceCtorEq, eq_self, rV, FIX, forall_const, endE_n, endE_r, CHT, disj, Nat.reduceBEq, beq_self_eq_true, APT, APX, forall_eq, ALT, KI, UCr_2.d, e0, hW, en_len, k1, k4, k2, b3]
        · simp only [RUX, Nat.reduceAdd, reduceIte, Nat.reduceEqDiff, Nat.reduceLT, Nat.reduceLeDiff, reduceCtorEq, eq_self, rV, FIX, forall_const, endE_n, endE_r, CHT, disj, Nat.reduceBEq, beq_self_eq_true, APT, APX, forall_eq, ALT, KI, UCr_2.d, e0, hW, en_len, k1, k4, k2, b3]
          refine t29 z3 (pre fun _ => ⟨b1, by omega⟩) _ _ _ ?_ ?_
          · exact e0
          · exact hW
      · have k2 := neqn b1
        simp only [RUX, Nat.reduceAdd, reduceIte, Nat.reduceEqDiff, Nat.reduceLT, Nat.reduceLeDiff, reduceCtorEq, eq_self, rV, FIX, forall_const, endE_n, endE_r, CHT, disj, Nat.reduceBEq, beq_self_eq_true, APT, APX, forall_eq, ALT, KI, UCr_2.d, e0, hW, en_len, k1, k4, k2]
        refine ES.mk false (no fun g => b1 (g.dn z3 hkk).1) ?_
        simp only [RUX, Nat.reduceAdd, reduceIte, Nat.reduceEqDiff, Nat.reduceLT, Nat.reduceLeDiff, reduceCtorEq, eq_self, rV, FIX, forall_const, endE_n, endE_r, CHT, disj, Nat.reduceBEq, beq_self_eq_true, APT, APX, forall_eq, ALT, KI, UCr_2.d, e0, hW, en_len, k1, k4, k2]
    have k1 := neqb c1
    have k2 := neqb c2
    simp only [RUX, Nat.reduceAdd, reduceIte, Nat.reduceEqDiff, Nat.reduceLT, Nat.reduceLeDiff, reduceCtorEq, eq_self, rV, FIX, forall_const, endE_n, endE_r, CHT, disj, Nat.reduceBEq, beq_self_eq_true, APT, APX, forall_eq, ALT, KI, UCr_2.d, e0, hW, en_len, k1, k2]
    refine t29 z3 (pre fun e => by omega) _ _ _ ?_ ?_
    · exact e0
    · exact hW
  have t33 : (sh w 3 = 0) → ((Any w → w.reader = 3 ∧ w.queue.length = 0) → (w.keeper = 4 ∨ w.keeper = 5 → w.closer = 1 ∧ w.results.length = 0) → (w.user = 1 → w.keeper = 5 ∧ w.out.length = 0) → PEnds w) → ∀ (t : Nat → T) (H : HMap) (c : Nat), t 0 = wP 1000 0 → H 1000 = some (cwB 0 w) → wpa Try.prog X c52_33 (inW 0 (thenW Try.prog X (.seq (.reg r52_37) .ret) (endE (fun b : Bool => b = true ↔ PEnds w) T.b (fun _ => [rV 0 29 (cwC w) (cwC w)]) [.tmp 2]))) ⟨t, H, c⟩ := by
    intro z3 pre t H c e0 hW
    simp only [wP, T.c] at e0
    simp only [RUX, Nat.reduceAdd, reduceIte, Nat.reduceEqDiff, Nat.reduceLT, Nat.reduceLeDiff, reduceCtorEq, eq_self, rV, FIX, forall_const, endE_n, endE_r, CHT, disj, Nat.reduceBEq, beq_self_eq_true, APT, APX, forall_eq, ALT, KI, UCr_3.d, e0, hW, en_len]
    refine callP (v := 0) (w := w) Ca rfl rfl rfl rfl hW ⟨rfl, ?_⟩
    cases ba with
    | false =>
      simp only [RUX, Nat.reduceAdd, reduceIte, Nat.reduceEqDiff, Nat.reduceLT, Nat.reduceLeDiff, reduceCtorEq, eq_self, rV, FIX, forall_const, endE_n, endE_r, CHT, disj, Nat.reduceBEq, beq_self_eq_true, APT, APX, forall_eq, ALT, KI, UCr_3.d, e0, hW, en_len]
      refine t31 z3 (pre fun e => by cases hba.2 e) _ _ _ ?_ ?_
      · exact e0
      · exact hW
    | true =>
      by_cases b1 : w.reader = 3
      · have k1 := eqn b1
        by_cases b3 : (w.queue.length : Int) > 0
        · simp only [RUX, Nat.reduceAdd, reduceIte, Nat.reduceEqDiff, Nat.reduceLT, Nat.reduceLeDiff, reduceCtorEq, eq_self, rV, FIX, forall_const, endE_n, endE_r, CHT, disj, Nat.reduceBEq, beq_self_eq_true, APT, APX, forall_eq, ALT, KI, UCr_3.d, e0, hW, en_len, k1, b3]
          refine ES.mk false (no fun g => by have := (g.an z3 (hba.1 rfl)).2; omega) ?_
          simp only [RUX, Nat.reduceAdd, reduceIte, Nat.reduceEqDiff, Nat.reduceLT, Nat.reduceLeDiff, reduceCtorEq, eq_self, rV, FIX, forall_const, endE_n, endE_r, CHT, disj, Nat.reduceBEq, beq_self_eq_true, APT, APX, forall_eq, ALT, KI, UCr_3.d, e0, hW, en_len, k1, b3]
        · simp only [RUX, Nat.reduceAdd, reduceIte, Nat.reduceEqDiff, Nat.reduceLT, Nat.reduceLeDiff, reduceCtorEq, eq_self, rV, FIX, forall_const, endE_n, endE_r, CHT, disj, Nat.reduceBEq, beq_self_eq_true, APT, APX, forall_eq, ALT, KI, UCr_3.d, e0, hW, en_len, k1, b3]
          refine t31 z3 (pre fun _ => ⟨b1, by omega⟩) _ _ _ ?_ ?_
          · exact e0
          · exact hW
      · have k1 := neqn b1
        simp only [RUX, Nat.reduceAdd, reduceIte, Nat.reduceEqDiff, Nat.reduceLT, Nat.reduceLeDiff, reduceCtorEq, eq_self, rV, FIX, forall_const, endE_n, endE_r, CHT, disj, Nat.reduceBEq, beq_self_eq_true, APT, APX, forall_eq, ALT, KI, UCr_3.d, e0, hW, en_len, k1]
        refine ES.mk false (no fun g => b1 (g.an z3 (hba.1 rfl)).1) ?_
        simp only [RUX, Nat.reduceAdd, reduceIte, Nat.reduceEqDiff, Nat.reduceLT, Nat.reduceLeDiff, reduceCtorEq, eq_self, rV, FIX, forall_const, endE_n, endE_r, CHT, disj, Nat.reduceBEq, beq_self_eq_true, APT, APX, forall_eq, ALT, KI, UCr_3.d, e0, hW, en_len, k1]
  have t15 : ((sh w 3 = 1 → w.user = 1) → (sh w 3 = 0 → 2 ≤ w.reader → w.next = w.jobs) → (sh w 3 = 0 → Any w → w.reader = 3 ∧ w.queue.length = 0) → (sh w 3 = 0 → (w.keeper = 4 ∨ w.keeper = 5) → w.closer = 1 ∧ w.results.length = 0) → (sh w 3 = 0 → w.user = 1 → w.keeper = 5 ∧ w.out.length = 0) → PEnds w) → ∀ (t : Nat → T) (H : HMap) (c : Nat), t 0 = wP 1000 0 → H 1000 = some (cwB 0 w) → wpa Try.prog X c52_15 (thenW Try.prog X (.seq c52_36 (.seq (.reg r52_37) .ret)) (endE (fun b : Bool => b = true ↔ PEnds w) T.b (fun _ => [rV 0 29 (cwC w) (cwC w)]) [.tmp 2])) ⟨t, H, c⟩ := by
    intro pre t H c e0 hW
    simp only [wP, T.c] at e0
    simp only [RUX, Nat.reduceAdd, reduceIte, Nat.reduceEqDiff, Nat.reduceLT, Nat.reduceLeDiff, reduceCtorEq, eq_self, rV, FIX, forall_const, endE_n, endE_r, CHT, disj, Nat.reduceBEq, beq_self_eq_true, APT, APX, forall_eq, ALT, KI, UCr_4.d, e0, hW, en_len]
    refine callP (v := 0) (w := w) Cs rfl rfl rfl rfl hW ⟨rfl, ?_⟩
    cases bs with
    | true =>
      have z3 := hbs.1 rfl
      simp only [RUX, Nat.reduceAdd, reduceIte, Nat.reduceEqDiff, Nat.reduceLT, Nat.reduceLeDiff, reduceCtorEq, eq_self, rV, FIX, forall_const, endE_n, endE_r, CHT, disj, Nat.reduceBEq, beq_self_eq_true, APT, APX, forall_eq, ALT, KI, UCr_4.d, e0, hW, en_len]
      by_cases b1 : w.user = 1
      · have k1 := eqb b1
        simp only [RUX, Nat.reduceAdd, reduceIte, Nat.reduceEqDiff, Nat.reduceLT, Nat.reduceLeDiff, reduceCtorEq, eq_self, rV, FIX, forall_const, endE_n, endE_r, CHT, disj, Nat.reduceBEq, beq_self_eq_true, APT, APX, forall_eq, ALT, KI, UCr_4.d, e0, hW, en_len, k1]
        refine ES.mk true (yes (pre (fun _ => b1) (fun e => by omega) (fun e => by omega) (fun e => by omega) (fun e => by omega))) ?_
        simp only [RUX, Nat.reduceAdd, reduceIte, Nat.reduceEqDiff, Nat.reduceLT, Nat.reduceLeDiff, reduceCtorEq, eq_self, rV, FIX, forall_const, endE_n, endE_r, CHT, disj, Nat.reduceBEq, beq_self_eq_true, APT, APX, forall_eq, ALT, KI, UCr_4.d, e0, hW, en_len, k1]
      · have k1 := neqb b1
        simp only [RUX, Nat.reduceAdd, reduceIte, Nat.reduceEqDiff, Nat.reduceLT, Nat.reduceLeDiff, reduceCtorEq, eq_self, rV, FIX, forall_const, endE_n, endE_r, CHT, disj, Nat.reduceBEq, beq_self_eq_true, APT, APX, forall_eq, ALT, KI, UCr_4.d, e0, hW, en_len, k1]
        refine ES.mk false (no fun g => b1 (g.us z3)) ?_
        simp only [RUX, Nat.reduceAdd, reduceIte, Nat.reduceEqDiff, Nat.reduceLT, Nat.reduceLeDiff, reduceCtorEq, eq_self, rV, FIX, forall_const, endE_n, endE_r, CHT, disj, Nat.reduceBEq, beq_self_eq_true, APT, APX, forall_eq, ALT, KI, UCr_4.d, e0, hW, en_len, k1]
    | false =>
      have z3 : sh w 3 = 0 := by
        by_cases e : sh w 3 = 1
        · cases hbs.2 e
        · omega
      by_cases c1 : w.reader = 2
      · have k1 := eqb c1
        by_cases b2 : w.next = w.jobs
        · have k2 := eqn b2
          simp only [RUX, Nat.reduceAdd, reduceIte, Nat.reduceEqDiff, Nat.reduceLT, Nat.reduceLeDiff, reduceCtorEq, eq_self, rV, FIX, forall_const, endE_n, endE_r, CHT, disj, Nat.reduceBEq, beq_self_eq_true, APT, APX, forall_eq, ALT, KI, UCr_4.d, e0, hW, en_len, k1, k2]
          refine t33 z3 (fun a d e => pre (fun e => by omega) (fun _ _ => b2) (fun _ => a) (fun _ => d) (fun _ => e)) _ _ _ ?_ ?_
          · exact e0
          · exact hW
        · have k2 := neqn b2
          simp only [RUX, Nat.reduceAdd, reduceIte, Nat.reduceEqDiff, Nat.reduceLT, Nat.reduceLeDiff, reduceCtorEq, eq_self, rV, FIX, forall_const, endE_n, endE_r, CHT, disj, Nat.reduceBEq, beq_self_eq_true, APT, APX, forall_eq, ALT, KI, UCr_4.d, e0, hW, en_len, k1, k2]
          refine ES.mk false (no fun g => b2 (g.rc z3 (by omega))) ?_
          simp only [RUX, Nat.reduceAdd, reduceIte, Nat.reduceEqDiff, Nat.reduceLT, Nat.reduceLeDiff, reduceCtorEq, eq_self, rV, FIX, forall_const, endE_n, endE_r, CHT, disj, Nat.reduceBEq, beq_self_eq_true, APT, APX, forall_eq, ALT, KI, UCr_4.d, e0, hW, en_len, k1, k2]
      by_cases c2 : w.reader = 3
      · have k1 := neqb c1
        have k3 := eqb c2
        by_cases b2 : w.next = w.jobs
        · have k2 := eqn b2
          simp only [RUX, Nat.reduceAdd, reduceIte, Nat.reduceEqDiff, Nat.reduceLT, Nat.reduceLeDiff, reduceCtorEq, eq_self, rV, FIX, forall_const, endE_n, endE_r, CHT, disj, Nat.reduceBEq, beq_self_eq_true, APT, APX, forall_eq, ALT, KI, UCr_4.d, e0, hW, en_len, k1, k2, k3]
          refine t33 z3 (fun a d e => pre (fun e => by omega) (fun _ _ => b2) (fun _ => a) (fun _ => d) (fun _ => e)) _ _ _ ?_ ?_
          · exact e0
          · exact hW
        · have k2 := neqn b2
          simp only [RUX, Nat.reduceAdd, reduceIte, Nat.reduceEqDiff, Nat.reduceLT, Nat.reduceLeDiff, reduceCtorEq, eq_self, rV, FIX, forall_const, endE_n, endE_r, CHT, disj, Nat.reduceBEq, beq_self_eq_true, APT, APX, forall_eq, ALT, KI, UCr_4.d, e0, hW, en_len, k1, k2, k3]
          refine ES.mk false (no fun g => b2 (g.rc z3 (by omega))) ?_
          simp only [RUX, Nat.reduceAdd, reduceIte, Nat.reduceEqDiff, Nat.reduceLT, Nat.reduceLeDiff, reduceCtorEq, eq_self, rV, FIX, forall_const, endE_n, endE_r, CHT, disj, Nat.reduceBEq, beq_self_eq_true, APT, APX, forall_eq, ALT, KI, UCr_4.d, e0, hW, en_len, k1, k2, k3]
      have k1 := neqb c1
      have k3 := neqb c2
      simp only [RUX, Nat.reduceAdd, reduceIte, Nat.reduceEqDiff, Nat.reduceLT, Nat.reduceLeDiff, reduceCtorEq, eq_self, rV, FIX, forall_const, endE_n, endE_r, CHT, disj, Nat.reduceBEq, beq_self_eq_true, APT, APX, forall_eq, ALT, KI, UCr_4.d, e0, hW, en_len, k1, k3]
      refine t33 z3 (fun a d e => pre (fun e => by omega) (fun _ g => by omega) (fun _ => a) (fun _ => d) (fun _ => e)) _ _ _ ?_ ?_
      · exact e0
      · exact hW
  simp only [RUX, Nat.reduceAdd, reduceIte, Nat.reduceEqDiff, Nat.reduceLT, Nat.reduceLeDiff, reduceCtorEq, eq_self, rV, FIX, forall_const, endE_n, endE_r, CHT, disj, Nat.reduceBEq, beq_self_eq_true, APT, APX, forall_eq, ALT, KI, UCr_5.d, s0, s1, s2, eI]
  refine callC (bit_ok (w.reader == 3)) rfl rfl rfl rfl ?_
  by_cases c0 : sh w 0 = 1 ↔ w.reader = 3
  rotate_left
  · have k1 := bitn y0 c0
    simp only [RUX, Nat.reduceAdd, reduceIte, Nat.reduceEqDiff, Nat.reduceLT, Nat.reduceLeDiff, reduceCtorEq, eq_self, rV, FIX, forall_const, endE_n, endE_r, CHT, disj, Nat.reduceBEq, beq_self_eq_true, APT, APX, forall_eq, ALT, KI, UCr_5.d, s0, s1, s2, eI, k1]
    refine ES.mk false (no fun g => c0 g.rd) ?_
    simp only [RUX, Nat.reduceAdd, reduceIte, Nat.reduceEqDiff, Nat.reduceLT, Nat.reduceLeDiff, reduceCtorEq, eq_self, rV, FIX, forall_const, endE_n, endE_r, CHT, disj, Nat.reduceBEq, beq_self_eq_true, APT, APX, forall_eq, ALT, KI, UCr_5.d, s0, s1, s2, eI, k1]
  have f0 := bitt y0 c0
  simp only [RUX, Nat.reduceAdd, reduceIte, Nat.reduceEqDiff, Nat.reduceLT, Nat.reduceLeDiff, reduceCtorEq, eq_self, rV, FIX, forall_const, endE_n, endE_r, CHT, disj, Nat.reduceBEq, beq_self_eq_true, APT, APX, forall_eq, ALT, KI, UCr_5.d, f0, s0, s1, s2, eI]
  refine callC (bit_ok (w.closer == 1)) rfl rfl rfl rfl ?_
  by_cases c1 : sh w 1 = 1 ↔ w.closer = 1
  rotate_left
  · have k1 := bitn y1 c1
    simp only [RUX, Nat.reduceAdd, reduceIte, Nat.reduceEqDiff, Nat.reduceLT, Nat.reduceLeDiff, reduceCtorEq, eq_self, rV, FIX, forall_const, endE_n, endE_r, CHT, disj, Nat.reduceBEq, beq_self_eq_true, APT, APX, forall_eq, ALT, KI, UCr_5.d, f0, s0, s1, s2, eI, k1]
    refine ES.mk false (no fun g => c1 g.cl) ?_
    simp only [RUX, Nat.reduceAdd, reduceIte, Nat.reduceEqDiff, Nat.reduceLT, Nat.reduceLeDiff, reduceCtorEq, eq_self, rV, FIX, forall_const, endE_n, endE_r, CHT, disj, Nat.reduceBEq, beq_self_eq_true, APT, APX, forall_eq, ALT, KI, UCr_5.d, f0, s0, s1, s2, eI, k1]
  have f1 := bitt y1 c1
  simp only [RUX, Nat.reduceAdd, reduceIte, Nat.reduceEqDiff, Nat.reduceLT, Nat.reduceLeDiff, reduceCtorEq, eq_self, rV, FIX, forall_const, endE_n, endE_r, CHT, disj, Nat.reduceBEq, beq_self_eq_true, APT, APX, forall_eq, ALT, KI, UCr_5.d, f1, f0, s0, s1, s2, eI]
  refine callC (bit_ok (w.keeper == 5)) rfl rfl rfl rfl ?_
  by_cases c2 : sh w 2 = 1 ↔ w.keeper = 5
  rotate_left
  · have k1 := bitn y2 c2
    simp only [RUX, Nat.reduceAdd, reduceIte, Nat.reduceEqDiff, Nat.reduceLT, Nat.reduceLeDiff, reduceCtorEq, eq_self, rV, FIX, forall_const, endE_n, endE_r, CHT, disj, Nat.reduceBEq, beq_self_eq_true, APT, APX, forall_eq, ALT, KI, UCr_5.d, f1, f0, s0, s1, s2, eI, k1]
    refine ES.mk false (no fun g => c2 g.kp) ?_
    simp only [RUX, Nat.reduceAdd, reduceIte, Nat.reduceEqDiff, Nat.reduceLT, Nat.reduceLeDiff, reduceCtorEq, eq_self, rV, FIX, forall_const, endE_n, endE_r, CHT, disj, Nat.reduceBEq, beq_self_eq_true, APT, APX, forall_eq, ALT, KI, UCr_5.d, f1, f0, s0, s1, s2, eI, k1]
  have f2 := bitt y2 c2
  simp only [RUX, Nat.reduceAdd, reduceIte, Nat.reduceEqDiff, Nat.reduceLT, Nat.reduceLeDiff, reduceCtorEq, eq_self, rV, FIX, forall_const, endE_n, endE_r, CHT, disj, Nat.reduceBEq, beq_self_eq_true, APT, APX, forall_eq, ALT, KI, UCr_5.d, f2, f1, f0, s0, s1, s2, eI]
  by_cases b1 : w.closer = 1
  · have k1 := eqb b1
    simp only [RUX, Nat.reduceAdd, reduceIte, Nat.reduceEqDiff, Nat.reduceLT, Nat.reduceLeDiff, reduceCtorEq, eq_self, rV, FIX, forall_const, endE_n, endE_r, CHT, disj, Nat.reduceBEq, beq_self_eq_true, APT, APX, forall_eq, ALT, KI, UCr_5.d, f2, f1, f0, s0, s1, s2, eI, k1]
    refine callP (v := 0) (w := w) Cl rfl rfl rfl rfl rfl ⟨rfl, ?_⟩
    cases bl with
    | true =>
      simp only [RUX, Nat.reduceAdd, reduceIte, Nat.reduceEqDiff, Nat.reduceLT, Nat.reduceLeDiff, reduceCtorEq, eq_self, rV, FIX, forall_const, endE_n, endE_r, CHT, disj, Nat.reduceBEq, beq_self_eq_true, APT, APX, forall_eq, ALT, KI, UCr_5.d, f2, f1, f0, s0, s1, s2, eI, k1]
      refine t15 (fun a b c d e => ⟨c0, c1, c2, fun _ => hbl.1 rfl, a, b, c, d, e⟩) _ _ _ ?_ ?_
      · rfl
      · rfl
    | false =>
      simp only [RUX, Nat.reduceAdd, reduceIte, Nat.reduceEqDiff, Nat.reduceLT, Nat.reduceLeDiff, reduceCtorEq, eq_self, rV, FIX, forall_const, endE_n, endE_r, CHT, disj, Nat.reduceBEq, beq_self_eq_true, APT, APX, forall_eq, ALT, KI, UCr_5.d, f2, f1, f0, s0, s1, s2, eI, k1]
      refine ES.mk false (no fun g => by cases hbl.2 (g.al b1)) ?_
      simp only [RUX, Nat.reduceAdd, reduceIte, Nat.reduceEqDiff, Nat.reduceLT, Nat.reduceLeDiff, reduceCtorEq, eq_self, rV, FIX, forall_const, endE_n, endE_r, CHT, disj, Nat.reduceBEq, beq_self_eq_true, APT, APX, forall_eq, ALT, KI, UCr_5.d, f2, f1, f0, s0, s1, s2, eI, k1]
  · have k1 := neqb b1
    simp only [RUX, Nat.reduceAdd, reduceIte, Nat.reduceEqDiff, Nat.reduceLT, Nat.reduceLeDiff, reduceCtorEq, eq_self, rV, FIX, forall_const, endE_n, endE_r, CHT, disj, Nat.reduceBEq, beq_self_eq_true, APT, APX, forall_eq, ALT, KI, UCr_5.d, f2, f1, f0, s0, s1, s2, eI, k1]
    refine t15 (fun a b c d e => ⟨c0, c1, c2, fun e => absurd e b1, a, b, c, d, e⟩) _ _ _ ?_ ?_
    · rfl
    · rfl
end Go.V
set_option linter.unusedSimpArgs false
namespace Go.V
open Go.Proofs
theorem b01 (x y : Int) (h : 0 ≤ x ∧ x ≤ 1) (hy : y = 0) : (if (x == y) = true then (1 : Int) else 0) = 1 - x := by
  subst hy
  rcases (by omega : x = 0 ∨ x = 1) with e | e <;> subst e <;> rfl
theorem bit_ge (x : Int) : (if decide (0 ≤ x) = true then (1 : Int) else 0) = if 0 ≤ x then 1 else 0 := by simp only [decide_eq_true_eq]
theorem hdC_at {r : Int} (h : 0 ≤ r ∧ r ≤ 3) : [iC 1, iC 9, iC 8, iC 0][r.toNat * 1]? = some (iC (hdL r)) := by
  rcases (by omega : r = 0 ∨ r = 1 ∨ r = 2 ∨ r = 3) with rfl | rfl | rfl | rfl <;> rfl
theorem kpC_at {r : Int} (h : 0 ≤ r ∧ r ≤ 5) : [iC 2, iC 3, iC 2, iC 4, iC 1, iC 0][r.toNat * 1]? = some (iC (kpL r)) := by
  rcases (by omega : r = 0 ∨ r = 1 ∨ r = 2 ∨ r = 3 ∨ r = 4 ∨ r = 5) with rfl | rfl | rfl | rfl | rfl | rfl <;> rfl
theorem n4 {r : Int} (h : 0 ≤ r ∧ r ≤ 3) : r.toNat < 4 := by omega
theorem n6 {r : Int} (h : 0 ≤ r ∧ r ≤ 5) : r.toNat < 6 := by omega
def sum0 (w : CW) : Int := 11 * (w.jobs - w.next) + 9 * w.queue.length + 6 * w.results.length + w.out.length
/- (*loop.example/teagle/impl.CrewWorld).left -/
def r54_0 : List AOper := [ao 0 2 (.mv (.k (.i 0)))]
def r54_1 : List AOper := [ao 0 8 (.mv (.t 0)),
  ao 1 9 (.nck (.t 8)),
  ao 2 10 (.fa 0 (.t 9)),
  ao 3 11 (.ld 1 false (.t 10)),
  au 4 12 (ru 4) (.mv (.t 0)),
  au 5 13 (ru 4) (.nck (.t 12)),
  au 6 14 (ru 4) (.fa 3 (.t 13)),
  au 7 15 (ru 4) (.ld 1 false (.t 14)),
  ao 8 16 (.bin .sub (.t 11) (.t 15)),
  ao 9 17 (.bin .mul (.k (.i 11)) (.t 16)),
  au 10 18 (ru 10) (.mv (.t 0)),
  au 11 19 (ru 10) (.nck (.t 18)),
  au 12 20 (ru 10) (.fa 5 (.t 19)),
  au 13 21 (ru 10) (.ld 1 false (.t 20)),
  au 14 22 (ru 10) (.len (.t 21)),
  au 15 23 (ru 10) (.bin .mul (.k (.i 9)) (.t 22)),
  ao 16 24 (.bin .add (.t 17) (.t 23)),
  au 17 25 (ru 17) (.mv (.t 0)),
  au 18 26 (ru 17) (.nck (.t 25)),
  au 19 27 (ru 17) (.fa 8 (.t 26)),
  au 20 28 (ru 17) (.ld 1 false (.t 27)),
  au 21 29 (ru 17) (.len (.t 28)),
  au 22 30 (ru 17) (.bin .mul (.k (.i 6)) (.t 29)),
  ao 23 31 (.bin .add (.t 24) (.t 30)),
  au 24 32 (ru 24) (.mv (.t 0)),
  au 25 33 (ru 24) (.nck (.t 32)),
  au 26 34 (ru 24) (.fa 12 (.t 33)),
  au 27 35 (ru 24) (.ld 1 false (.t 34)),
  au 28 36 (ru 24) (.len (.t 35)),
  ao 29 37 (.bin .add (.t 31) (.t 36)),
  ao 30 3 (.mv (.t 37))]
def r54_2 : List AOper := [ao 0 38 (.mv (.t 0)),
  ao 1 39 (.nck (.t 38)),
  ao 2 40 (.fa 4 (.t 39)),
  ao 3 41 (.ld 1 false (.t 40))]
def r54_3 : List AOper := [ao 0 43 (.bin .eql (.t 41) (.k (.i 0))),
  ao 1 42 (.mv (.t 43))]
def r54_4 : List AOper := [ao 0 44 (.mv (.t 3)),
  ao 1 45 (.bin .add (.t 44) (.k (.i 2))),
  ao 2 3 (.mv (.t 45))]
def r54_5 : List AOper := [ao 0 47 (.bin .eql (.t 41) (.k (.i 1))),
  ao 1 46 (.mv (.t 47))]
def r54_6 : List AOper := [ao 0 48 (.mv (.t 3)),
  ao 1 49 (.bin .add (.t 48) (.k (.i 12))),
  ao 2 3 (.mv (.t 49))]
def r54_7 : List AOper := [ao 0 51 (.bin .eql (.t 41) (.k (.i 2))),
  ao 1 50 (.mv (.t 51))]
def r54_8 : List AOper := [ao 0 52 (.mv (.t 3)),
  ao 1 53 (.bin .add (.t 52) (.k (.i 1))),
  ao 2 3 (.mv (.t 53))]
def c54_9 : ACode := .cond (.t 50) (.reg r54_8) .skip
def c54_10 : ACode := .seq (.reg r54_7) c54_9
def c54_11 : ACode := .cond (.t 46) (.reg r54_6) c54_10
def c54_12 : ACode := .seq (.reg r54_5) c54_11
def c54_13 : ACode := .cond (.t 42) (.reg r54_4) c54_12
def c54_14 : ACode := .seq (.reg r54_3) c54_13
def c54_15 : ACode := .block 0 c54_14
def c54_16 : ACode := .seq (.reg r54_2) c54_15
def r54_17 : List AOper := [ao 0 54 (.mv (.t 0)),
  ao 1 55 (.nck (.t 54)),
  ao 2 56 (.fa 6 (.t 55)),
  ao 3 57 (.ld 1 false (.t 56)),
  ao 4 58 (.len (.t 57)),
  ao 5 59 (.mv (.k (.i 0)))]
def r54_18 : List AOper := [ao 0 60 (.bin .lss (.t 59) (.t 58))]
def c54_19 : ACode := .cond (.t 60) .skip (.exit 1)
def r54_20 : List AOper := [ao 0 61 (.ia 2 (.t 57) (.t 59)),
  ao 1 62 (.ld 2 true (.t 61)),
  ao 2 5 (.alloc 70 [(.v (.s (.int .i64 0))), (.v (.s (.int .i64 0)))]),
  an 3 (.st 2 (.t 5) (.t 62))]
def r54_21 : List AOper := [ao 0 63 (.mv (.t 3)),
  ao 1 64 (.build [(.v (.s (.int .i64 0))), (.v (.s (.int .i64 0))), (.v (.s (.int .i64 0))), (.v (.s (.int .i64 0)))] [(0, 1, (.k (.i 1))), (1, 1, (.k (.i 9))), (2, 1, (.k (.i 8))), (3, 1, (.k (.i 0)))]),
  ao 2 65 (.fa 0 (.t 5)),
  ao 3 66 (.ld 1 false (.t 65)),
  ao 4 67 (.ixA 4 1 false (.t 64) (.t 66)),
  ao 5 68 (.bin .add (.t 63) (.t 67)),
  ao 6 3 (.mv (.t 68))]
def c54_22 : ACode := .seq (.reg r54_20) (.reg r54_21)
def c54_23 : ACode := .block 2 c54_22
def r54_24 : List AOper := [ao 0 69 (.bin .add (.t 59) (.k (.i 1))),
  ao 1 59 (.mv (.t 69))]
def c54_25 : ACode := .seq (.reg r54_18) (.seq c54_19 (.seq c54_23 (.reg r54_24)))
def c54_26 : ACode := .loop c54_25
def c54_27 : ACode := .block 1 c54_26
def c54_28 : ACode := .seq (.reg r54_17) c54_27
def r54_29 : List AOper := [ao 0 70 (.mv (.t 0)),
  ao 1 71 (.nck (.t 70)),
  ao 2 72 (.fa 10 (.t 71)),
  ao 3 73 (.ld 1 false (.t 72)),
  ao 4 74 (.len (.t 73)),
  ao 5 75 (.mv (.k (.i 0)))]
def r54_30 : List AOper := [ao 0 76 (.bin .lss (.t 75) (.t 74))]
def c54_31 : ACode := .cond (.t 76) .skip (.exit 3)
def r54_32 : List AOper := [ao 0 77 (.ia 1 (.t 73) (.t 75)),
  ao 1 78 (.ld 1 false (.t 77)),
  ao 2 7 (.mv (.t 78))]
def r54_33 : List AOper := [ao 0 79 (.mv (.t 3)),
  ao 1 80 (.mv (.t 7)),
  ao 2 81 (.bin .geq (.t 80) (.k (.i 0))),
  ao 3 82 (.call (.k (.c (.fn 90 []))) [(.t 81)]),
  ao 4 83 (.bin .mul (.k (.i 4)) (.t 82)),
  ao 5 84 (.bin .add (.t 79) (.t 83)),
  ao 6 3 (.mv (.t 84))]
def c54_34 : ACode := .seq (.reg r54_32) (.reg r54_33)
def c54_35 : ACode := .block 4 c54_34
def r54_36 : List AOper := [ao 0 85 (.bin .add (.t 75) (.k (.i 1))),
  ao 1 75 (.mv (.t 85))]
def c54_37 : ACode := .seq (.reg r54_30) (.seq c54_31 (.seq c54_35 (.reg r54_36)))
def c54_38 : ACode := .loop c54_37
def c54_39 : ACode := .block 3 c54_38
def c54_40 : ACode := .seq (.reg r54_29) c54_39
def r54_41 : List AOper := [ao 0 86 (.mv (.t 3)),
  au 1 87 [0] (.mv (.t 0)),
  au 2 88 [0] (.nck (.t 87)),
  au 3 89 [0] (.fa 7 (.t 88)),
  au 4 90 [0] (.ld 1 false (.t 89)),
  au 5 91 [0] (.bin .eql (.t 90) (.k (.i 0))),
  au 6 92 [0] (.call (.k (.c (.fn 90 []))) [(.t 91)]),
  ao 7 93 (.bin .add (.t 86) (.t 92)),
  au 8 94 (ru 8) (.build [(.v (.s (.int .i64 0))), (.v (.s (.int .i64 0))), (.v (.s (.int .i64 0))), (.v (.s (.int .i64 0))), (.v (.s (.int .i64 0))), (.v (.s (.int .i64 0)))] [(0, 1, (.k (.i 2))), (1, 1, (.k (.i 3))), (2, 1, (.k (.i 2))), (3, 1, (.k (.i 4))), (4, 1, (.k (.i 1))), (5, 1, (.k (.i 0)))]),
  au 9 95 (ru 9) (.mv (.t 0)),
  au 10 96 (ru 9) (.nck (.t 95)),
  au 11 97 (ru 9) (.fa 9 (.t 96)),
  au 12 98 (ru 9) (.ld 1 false (.t 97)),
  au 13 99 (ru 8) (.ixA 6 1 false (.t 94) (.t 98)),
  ao 14 100 (.bin .add (.t 93) (.t 99)),
  au 15 101 (ru 15) (.mv (.t 0)),
  au 16 102 (ru 15) (.nck (.t 101)),
  au 17 103 (ru 15) (.fa 13 (.t 102)),
  au 18 104 (ru 15) (.ld 1 false (.t 103)),
  au 19 105 (ru 15) (.bin .eql (.t 104) (.k (.i 0))),
  au 20 106 [0, 7, 8, 9, 10, 11, 12, 13, 14] (.call (.k (.c (.fn 90 []))) [(.t 105)]),
  ao 21 107 (.bin .add (.t 100) (.t 106)),
  ao 22 2 (.mv (.t 107))]
def c54 : ACode := .seq (.reg r54_0) (.seq (.reg r54_1) (.seq c54_16 (.seq c54_28 (.seq c54_40 (.seq (.reg r54_41) .ret)))))
def s54 : List ARes := [.tmp 2]
theorem ok54 : okF Try.prog 54 108 c54 s54 := ⟨Try.f54, Try.func54, Try.ntmps54, by kernel_rfl, by kernel_rfl, by kernel_rfl⟩
def inv54a (w : CW) (i : Nat) (σ : St) : Prop := σ.t 0 = wP 1000 0 ∧ σ.H 1000 = some (cwB 0 w) ∧ σ.t 3 = .i (sum0 w + rdL w.reader + sumL (w.hands.take i)) ∧ σ.t 57 = tL (en eH w.hands) ∧ σ.t 58 = .i w.hands.length ∧ σ.t 59 = .i i
def inv54b (w : CW) (i : Nat) (σ : St) : Prop := σ.t 0 = wP 1000 0 ∧ σ.H 1000 = some (cwB 0 w) ∧ σ.t 3 = .i (sum0 w + rdL w.reader + sumL w.hands + 4 * (rJobs (w.ring.take i)).length) ∧ σ.t 73 = tL (en eI w.ring) ∧ σ.t 74 = .i w.ring.length ∧ σ.t 75 = .i i
def UCs_1 := Bx.mk <|
  aN (uA c54.eq_1) <| aN (uR r54_0.eq_1) <| aN (uR r54_1.eq_1) <| aN (uA c54_16.eq_1) <| aN (uR r54_2.eq_1) <| aN (uA c54_15.eq_1) <| aN (uA c54_14.eq_1) <| aN (uR r54_3.eq_1) <| aN (uA c54_13.eq_1) <| aN (uR r54_4.eq_1) <| aN (uA c54_12.eq_1) <| aN (uR r54_5.eq_1) <| aN (uA c54_11.eq_1) <| aN (uR r54_6.eq_1) <| aN (uA c54_10.eq_1) <| aN (uR r54_7.eq_1) <| aN (uA c54_9.eq_1) <| aN (uR r54_8.eq_1) <| aN (uA c54_28.eq_1) <| aN (uR r54_17.eq_1) <| aN (uA c54_27.eq_1) <| aN (uA c54_26.eq_1) <| aN (uR r54_41.eq_1) <| s54.eq_1
def UCs_2 := Bx.mk <|
  aN (uA c54.eq_1) <| aN (uR r54_0.eq_1) <| aN (uR r54_1.eq_1) <| aN (uA c54_16.eq_1) <| aN (uR r54_2.eq_1) <| aN (uA c54_15.eq_1) <| aN (uA c54_14.eq_1) <| aN (uR r54_3.eq_1) <| aN (uA c54_13.eq_1) <| aN (uR r54_4.eq_1) <| aN (uA c54_12.eq_1) <| aN (uR r54_5.eq_1) <| aN (uA c54_11.eq_1) <| aN (uR r54_6.eq_1) <| aN (uA c54_10.eq_1) <| aN (uR r54_7.eq_1) <| aN (uA c54_9.eq_1) <| aN (uR r54_8.eq_1) <| aN (uA c54_40.eq_1) <| aN (uR r54_29.eq_1) <| aN (uA c54_39.eq_1) <| aN (uA c54_38.eq_1) <| aN (uR r54_41.eq_1) <| s54.eq_1
def UCs_3 := Bx.mk <|
  aN (uA c54_25.eq_1) <| aN (uR r54_18.eq_1) <| aN (uA c54_19.eq_1) <| aN (uA c54_23.eq_1) <| aN (uA c54_22.eq_1) <| aN (uR r54_20.eq_1) <| aN (uR r54_21.eq_1) <| aN (uR r54_24.eq_1) <| aN (uA c54.eq_1) <| aN (uR r54_0.eq_1) <| aN (uR r54_1.eq_1) <| aN (uA c54_16.eq_1) <| aN (uR r54_2.eq_1) <| aN (uA c54_15.eq_1) <| aN (uA c54_14.eq_1) <| aN (uR r54_3.eq_1) <| aN (uA c54_13.eq_1) <| aN (uR r54_4.eq_1) <| aN (uA c54_12.eq_1) <| aN (uR r54_5.eq_1) <| aN (uA c54_11.eq_1) <| aN (uR r54_6.eq_1) <| aN (uA c54_10.eq_1) <| aN (uR r54_7.eq_1) <| aN (uA c54_9.eq_1) <| aN (uR r54_8.eq_1) <| aN (uA c54_28.eq_1) <| aN (uR r54_17.eq_1) <| aN (uA c54_27.eq_1) <| aN (uA c54_26.eq_1) <| aN (uA c54_40.eq_1) <| aN (uR r54_29.eq_1) <| aN (uA c54_39.eq_1) <| aN (uA c54_38.eq_1) <| aN (uR r54_41.eq_1) <| s54.eq_1
def UCs_4 := Bx.mk <|
  aN (uA c54_25.eq_1) <| aN (uR r54_18.eq_1) <| aN (uA c54_19.eq_1) <| aN (uA c54_23.eq_1) <| aN (uA c54_22.eq_1) <| aN (uR r54_20.eq_1) <| aN (uR r54_21.eq_1) <| aN (uR r54_24.eq_1) <| aN (uA c54.eq_1) <| aN (uR r54_0.eq_1) <| aN (uR r54_1.eq_1) <| aN (uA c54_16.eq_1) <| aN (uR r54_2.eq_1) <| aN (uA c54_15.eq_1) <| aN (uA c54_14.eq_1) <| aN (uR r54_3.eq_1) <| aN (uA c54_13.eq_1) <| aN (uR r54_4.eq_1) <| aN (uA c54_12.eq_1) <| aN (uR r54_5.eq_1) <| aN (uA c54_11.eq_1) <| aN (uR r54_6.eq_1) <| aN (uA c54_10.eq_1) <| aN (uR r54_7.eq_1) <| aN (uA c54_9.eq_1) <| aN (uR r54_8.eq_1) <| aN (uA c54_28.eq_1) <| aN (uR r54_17.eq_1) <| aN (uA c54_27.eq_1) <| aN (uA c54_26.eq_1) <| aN (uA c54_40.eq_1) <| aN (uR r54_29.eq_1) <| aN (uA c54_39.eq_1) <| aN (uA c54_38.eq_1) <| s54.eq_1
def UCs_5 := Bx.mk <|
  aN (uA c54_37.eq_1) <| aN (uR r54_30.eq_1) <| aN (uA c54_31.eq_1) <| aN (uA c54_35.eq_1) <| aN (uA c54_34.eq_1) <| aN (uR r54_32.eq_1) <| aN (uR r54_33.eq_1) <| aN (uR r54_36.eq_1) <| aN (uA c54.eq_1) <| aN (uR r54_0.eq_1) <| aN (uR r54_1.eq_1) <| aN (uA c54_16.eq_1) <| aN (uR r54_2.eq_1) <| aN (uA c54_15.eq_1) <| aN (uA c54_14.eq_1) <| aN (uR r54_3.eq_1) <| aN (uA c54_13.eq_1) <| aN (uR r54_4.eq_1) <| aN (uA c54_12.eq_1) <| aN (uR r54_5.eq_1) <| aN (uA c54_11.eq_1) <| aN (uR r54_6.eq_1) <| aN (uA c54_10.eq_1) <| aN (uR r54_7.eq_1) <| aN (uA c54_9.eq_1) <| aN (uR r54_8.eq_1) <| aN (uA c54_28.eq_1) <| aN (uR r54_17.eq_1) <| aN (uA c54_27.eq_1) <| aN (uA c54_26.eq_1) <| aN (uA c54_40.eq_1) <| aN (uR r54_29.eq_1) <| aN (uA c54_39.eq_1) <| aN (uA c54_38.eq_1) <| aN (uR r54_41.eq_1) <| s54.eq_1
set_option maxRecDepth 4000 in
set_option maxHeartbeats 1000000 in
theorem pleft_ok {w : CW} (h : Form w) : WC 54 [] w (fun x : Int => x = left w) T.i := by
  have hr := h.lr
  have hh := h.lh
  have hn := h.st.n
  have hk := h.st.k
  have hj := h.st.j
  have hx := h.next
  have hq := h.lq
  have he := h.le
  have ho := h.lo
  have hcl := h.cl
  have hus := h.us
  have hrd := h.rd
  have b1 := rdL_bd w.reader
  have b2 := kpL_bd w.keeper
  have b3 : 0 ≤ sum0 w ∧ sum0 w ≤ 800 := by unfold sum0; omega
  have w1 : IntKind.i64.wrap (w.jobs - w.next) = w.jobs - w.next := wrap64 ⟨by omega, by omega⟩
  have w2 : IntKind.i64.wrap (11 * (w.jobs - w.next)) = 11 * (w.jobs - w.next) := wrap64 ⟨by omega, by omega⟩
  have w3 : IntKind.i64.wrap (9 * (w.queue.length : Int)) = 9 * (w.queue.length : Int) := wrap64 ⟨by omega, by omega⟩
  have w4 : IntKind.i64.wrap (6 * (w.results.length : Int)) = 6 * (w.results.length : Int) := wrap64 ⟨by omega, by omega⟩
  have w5 : IntKind.i64.wrap (11 * (w.jobs - w.next) + 9 * (w.queue.length : Int)) = 11 * (w.jobs - w.next) + 9 * (w.queue.length : Int) := wrap64 ⟨by omega, by omega⟩
  have w6 : IntKind.i64.wrap (11 * (w.jobs - w.next) + 9 * (w.queue.length : Int) + 6 * (w.results.length : Int)) = 11 * (w.jobs - w.next) + 9 * (w.queue.length : Int) + 6 * (w.results.length : Int) := wrap64 ⟨by omega, by omega⟩
  have w7 : IntKind.i64.wrap (11 * (w.jobs - w.next) + 9 * (w.queue.length : Int) + 6 * (w.results.length : Int) + (w.out.length : Int)) = sum0 w := wrap64 (x := sum0 w) ⟨by omega, by omega⟩
  have u0 : IntKind.i64.wrap (sum0 w + 2) = sum0 w + 2 := wrap64 ⟨by omega, by omega⟩
  have u1 : IntKind.i64.wrap (sum0 w + 12) = sum0 w + 12 := wrap64 ⟨by omega, by omega⟩
  have u2 : IntKind.i64.wrap (sum0 w + 1) = sum0 w + 1 := wrap64 ⟨by omega, by omega⟩
  refine WC.intro ok54 rfl (fun _ => rfl) fun X => ?_
  have main : ∀ (t : Nat → T) (H : HMap) (c : Nat), t 0 = wP 1000 0 → H 1000 = some (cwB 0 w) → t 3 = .i (sum0 w + rdL w.reader) → wpa Try.prog X c54_28 (thenW Try.prog X (.seq c54_40 (.seq (.reg r54_41) .ret)) (endE (fun x : Int => x = left w) T.i (fun _ => [rV 0 29 (cwC w) (cwC w)]) [.tmp 2])) ⟨t, H, c⟩ := by
    intro t H c e0 hW e3
    simp only [wP, T.c, T.i] at e0 e3
    simp only [RUX, Nat.reduceAdd, reduceIte, Nat.reduceEqDiff, Nat.reduceLT, Nat.reduceLeDiff, reduceCtorEq, eq_self, rV, FIX, forall_const, endE_n, endE_r, CHT, disj, Nat.reduceBEq, beq_self_eq_true, APT, APX, forall_eq, ALT, KI, UCs_1.d, e0, hW, e3, en_len]
    refine AW.upto w.hands.length (inv54a w) ⟨e0, hW, ?_, rfl, rfl, rfl⟩ fun i t H c hi h' => ?_
    · show t 3 = _
      rw [e3, List.take_zero]
      simp only [sumL, List.map_nil, List.sum_nil, Int.add_zero, T.i]
    clear e0 hW e3
    obtain ⟨e0, hW, e3, e57, e58, e59⟩ := h'
    simp only [wP, T.c, T.i] at e0 hW e3 e57 e58 e59
    have b4 := sumL_bd (w.hands.take i)
    have b5 := take_le w.hands i
    by_cases k1 : (i : Int) < w.hands.length
    · obtain ⟨x, hx⟩ : ∃ x, w.hands[i]? = some x := ⟨_, List.getElem?_eq_getElem (by omega)⟩
      have ex := en_at eH hx
      have gz : (0 : Int) ≤ i := by omega
      have gw := w1_ok (i := i) (by omega)
      have hs := (h.hand x (List.mem_of_getElem? hx)).state
      have b6 := hdL_bd x.state
      have v1 : IntKind.i64.wrap (sum0 w + rdL w.reader + sumL (w.hands.take i) + hdL x.state) = sum0 w + rdL w.reader + sumL (w.hands.take i) + hdL x.state := wrap64 ⟨by omega, by omega⟩
      have hq0 : x.state = 0 ∨ x.state = 1 ∨ x.state = 2 ∨ x.state = 3 := by omega
      simp only [RUX, Nat.reduceAdd, reduceIte, Nat.reduceEqDiff, Nat.reduceLT, Nat.reduceLeDiff, reduceCtorEq, eq_self, rV, FIX, forall_const, endE_n, endE_r, CHT, disj, Nat.reduceBEq, beq_self_eq_true, APT, APX, forall_eq, ALT, KI, UCs_3.d, e0, hW, e3, e57, e58, e59, en_len, k1, ex, gz, gw, eH, hs.1, n4 hs, hdC_at hs, v1]
      exact ⟨by omega, e0, hW, by show _ = T.i _; rw [sumL_take hx, ← Int.add_assoc]; rfl, e57, e58, rfl⟩
    have hi2 : i = w.hands.length := by omega
    subst hi2
    rw [List.take_length] at e3 b4
    simp only [RUX, Nat.reduceAdd, reduceIte, Nat.reduceEqDiff, Nat.reduceLT, Nat.reduceLeDiff, reduceCtorEq, eq_self, rV, FIX, forall_const, endE_n, endE_r, CHT, disj, Nat.reduceBEq, beq_self_eq_true, APT, APX, forall_eq, ALT, KI, UCs_4.d, e0, hW, e3, e57, e58, e59, en_len, k1]
    refine AW.upto w.ring.length (inv54b w) ⟨e0, hW, ?_, rfl, rfl, rfl⟩ fun i t H c hi h' => ?_
    · show t 3 = _
      rw [e3]; simp [rJobs]
    clear e0 hW e3 e57 e58 e59 k1
    obtain ⟨e0, hW, e3, e73, e74, e75⟩ := h'
    simp only [wP, T.c, T.i] at e0 hW e3 e73 e74 e75
    have b6 := rJobs_len (w.ring.take i)
    have b7 := take_le w.ring i
    by_cases k1 : (i : Int) < w.ring.length
    · obtain ⟨x, hx⟩ : ∃ x, w.ring[i]? = some x := ⟨_, List.getElem?_eq_getElem (by omega)⟩
      have ex := en_at eI hx
      have gz : (0 : Int) ≤ i := by omega
      have gw := w1_ok (i := i) (by omega)
      have ht := rJobs_take hx
      obtain ⟨q, hq, hq4, hl⟩ : ∃ q : Int, (if 0 ≤ x then (1 : Int) else 0) = q ∧ (0 ≤ q ∧ q ≤ 1) ∧ 4 * ((rJobs (w.ring.take (i + 1))).length : Int) = 4 * ((rJobs (w.ring.take i)).length : Int) + 4 * q := by
        by_cases c1 : 0 ≤ x
        · rw [if_pos c1] at ht ⊢
          exact ⟨1, rfl, by omega, by rw [ht, List.length_append, List.length_singleton]; omega⟩
        · rw [if_neg c1] at ht ⊢
          exact ⟨0, rfl, by omega, by rw [ht]; omega⟩
      have v1 : IntKind.i64.wrap (4 * q) = 4 * q := wrap64 ⟨by omega, by omega⟩
      have v2 : IntKind.i64.wrap (sum0 w + rdL w.reader + sumL w.hands + 4 * ((rJobs (w.ring.take i)).length : Int) + 4 * q) = sum0 w + rdL w.reader + sumL w.hands + 4 * ((rJobs (w.ring.take (i + 1))).length : Int) := by rw [wrap64 ⟨by omega, by omega⟩]; omega
      simp only [RUX, Nat.reduceAdd, reduceIte, Nat.reduceEqDiff, Nat.reduceLT, Nat.reduceLeDiff, reduceCtorEq, eq_self, rV, FIX, forall_const, endE_n, endE_r, CHT, disj, Nat.reduceBEq, beq_self_eq_true, APT, APX, forall_eq, ALT, KI, UCs_5.d, e0, hW, e3, e73, e74, e75, en_len, k1, ex, gz, gw, eI, ge_iff_le]
      refine callC (bit_ok (decide (0 ≤ x))) rfl rfl rfl rfl ?_
      simp only [RUX, Nat.reduceAdd, reduceIte, Nat.reduceEqDiff, Nat.reduceLT, Nat.reduceLeDiff, reduceCtorEq, eq_self, rV, FIX, forall_const, endE_n, endE_r, CHT, disj, Nat.reduceBEq, beq_self_eq_true, APT, APX, forall_eq, ALT, KI, UCs_5.d, e0, hW, e3, e73, e74, e75, en_len, k1, ex, gz, gw, eI, ge_iff_le, bit_ge, hq, v1, v2]
      exact ⟨by omega, e0, hW, rfl, e73, e74, rfl⟩
    have hi2 : i = w.ring.length := by omega
    subst hi2
    rw [List.take_length] at e3
    have b8 := rJobs_len w.ring
    have f1 := b01 w.closer 0 hcl rfl
    have f2 := b01 w.user 0 hus rfl
    have v1 : IntKind.i64.wrap (sum0 w + rdL w.reader + sumL w.hands + 4 * ((rJobs w.ring).length : Int) + (1 - w.closer)) = sum0 w + rdL w.reader + sumL w.hands + 4 * ((rJobs w.ring).length : Int) + (1 - w.closer) := wrap64 ⟨by omega, by omega⟩
    have v2 : IntKind.i64.wrap (sum0 w + rdL w.reader + sumL w.hands + 4 * ((rJobs w.ring).length : Int) + (1 - w.closer) + kpL w.keeper) = sum0 w + rdL w.reader + sumL w.hands + 4 * ((rJobs w.ring).length : Int) + (1 - w.closer) + kpL w.keeper := wrap64 ⟨by omega, by omega⟩
    have v3 : IntKind.i64.wrap (sum0 w + rdL w.reader + sumL w.hands + 4 * ((rJobs w.ring).length : Int) + (1 - w.closer) + kpL w.keeper + (1 - w.user)) = left w := by
      rw [wrap64 ⟨by omega, by omega⟩]
      unfold left base sum0
      omega
    simp only [RUX, Nat.reduceAdd, reduceIte, Nat.reduceEqDiff, Nat.reduceLT, Nat.reduceLeDiff, reduceCtorEq, eq_self, rV, FIX, forall_const, endE_n, endE_r, CHT, disj, Nat.reduceBEq, beq_self_eq_true, APT, APX, forall_eq, ALT, KI, UCs_5.d, e0, hW, e3, e73, e74, e75, en_len, k1]
    refine callC (bit_ok (w.closer == 0)) rfl rfl rfl rfl ?_
    simp only [RUX, Nat.reduceAdd, reduceIte, Nat.reduceEqDiff, Nat.reduceLT, Nat.reduceLeDiff, reduceCtorEq, eq_self, rV, FIX, forall_const, endE_n, endE_r, CHT, disj, Nat.reduceBEq, beq_self_eq_true, APT, APX, forall_eq, ALT, KI, UCs_5.d, e0, hW, e3, e73, e74, e75, en_len, k1, f1, v1, kpC_at h.kp, n6 h.kp, h.kp.1, v2]
    refine callC (bit_ok (w.user == 0)) rfl rfl rfl rfl ?_
    simp only [RUX, Nat.reduceAdd, reduceIte, Nat.reduceEqDiff, Nat.reduceLT, Nat.reduceLeDiff, reduceCtorEq, eq_self, rV, FIX, forall_const, endE_n, endE_r, CHT, disj, Nat.reduceBEq, beq_self_eq_true, APT, APX, forall_eq, ALT, KI, UCs_5.d, e0, hW, e3, e73, e74, e75, en_len, k1, f1, f2, v1, kpC_at h.kp, n6 h.kp, h.kp.1, v2, v3]
    exact ES.mk _ rfl (by simp only [RUX, Nat.reduceAdd, reduceIte, Nat.reduceEqDiff, Nat.reduceLT, Nat.reduceLeDiff, reduceCtorEq, eq_self, rV, FIX, forall_const, endE_n, endE_r, CHT, disj, Nat.reduceBEq, beq_self_eq_true, APT, APX, forall_eq, ALT, KI, UCs_5.d, e0, hW, e3, e73, e74, e75, en_len, k1, f1, f2, v1, kpC_at h.kp, n6 h.kp, h.kp.1, v2, v3])
  by_cases c0 : w.reader = 0
  · have k0 := eqb c0
    simp only [RUX, Nat.reduceAdd, reduceIte, Nat.reduceEqDiff, Nat.reduceLT, Nat.reduceLeDiff, reduceCtorEq, eq_self, rV, FIX, forall_const, endE_n, endE_r, CHT, disj, Nat.reduceBEq, beq_self_eq_true, APT, APX, forall_eq, ALT, KI, UCs_2.d, en_len, k0, w1, w2, w3, w4, w5, w6, w7, u0, u1, u2]
    refine main _ _ _ ?_ ?_ ?_
    · rfl
    · rfl
    · rw [c0]; rfl
  have k0 := neqb c0
  by_cases c1 : w.reader = 1
  · have k1 := eqb c1
    simp only [RUX, Nat.reduceAdd, reduceIte, Nat.reduceEqDiff, Nat.reduceLT, Nat.reduceLeDiff, reduceCtorEq, eq_self, rV, FIX, forall_const, endE_n, endE_r, CHT, disj, Nat.reduceBEq, beq_self_eq_true, APT, APX, forall_eq, ALT, KI, UCs_2.d, en_len, k0, k1, w1, w2, w3, w4, w5, w6, w7, u0, u1, u2]
    refine main _ _ _ ?_ ?_ ?_
    · rfl
    · rfl
    · rw [c1]; rfl
  have k1 := neqb c1
  by_cases c2 : w.reader = 2
  · have k2 := eqb c2
    simp only [RUX, Nat.reduceAdd, reduceIte, Nat.reduceEqDiff, Nat.reduceLT, Nat.reduceLeDiff, reduceCtorEq, eq_self, rV, FIX, forall_const, endE_n, endE_r, CHT, disj, Nat.reduceBEq, beq_self_eq_true, APT, APX, forall_eq, ALT, KI, UCs_2.d, en_len, k0, k1, k2, w1, w2, w3, w4, w5, w6, w7, u0, u1, u2]
    refine main _ _ _ ?_ ?_ ?_
    · rfl
    · rfl
    · rw [c2]; rfl
  have k2 := neqb c2
  have c3 : w.reader = 3 := by omega
  simp only [RUX, Nat.reduceAdd, reduceIte, Nat.reduceEqDiff, Nat.reduceLT, Nat.reduceLeDiff, reduceCtorEq, eq_self, rV, FIX, forall_const, endE_n, endE_r, CHT, disj, Nat.reduceBEq, beq_self_eq_true, APT, APX, forall_eq, ALT, KI, UCs_2.d, en_len, k0, k1, k2, w1, w2, w3, w4, w5, w6, w7, u0, u1, u2]
  refine main _ _ _ ?_ ?_ ?_
  · rfl
  · rfl
  · rw [c3]
    show _ = T.i (sum0 w + 0)
    rw [Int.add_zero]; rfl
end Go.V
set_option linter.unusedSimpArgs false
namespace Go.V
open Go.Proofs
/- (*loop.example/teagle/impl.CrewWorld).isOk -/
def r23_0 : List AOper := [ao 0 2 (.mv (.k (.b false)))]
def r23_1 : List AOper := [ao 0 3 (.mv (.t 0)),
  ao 1 4 (.call (.k (.c (.fn 50 []))) [(.t 3)]),
  ao 2 5 (.un .not (.t 4)),
  ao 3 6 (.mv (.t 5)),
  ag 4 7 6 false [] (.mv (.t 0)),
  ag 5 8 6 false [] (.call (.k (.c (.fn 51 []))) [(.t 7)]),
  ag 6 9 6 false [] (.un .not (.t 8)),
  ao 7 10 (.pick (.t 6) (.k (.b true)) (.t 9)),
  ao 8 11 (.mv (.t 10)),
  ag 9 12 11 false [] (.mv (.t 0)),
  ag 10 13 11 false [] (.call (.k (.c (.fn 52 []))) [(.t 12)]),
  ag 11 14 11 false [] (.un .not (.t 13)),
  ao 12 15 (.pick (.t 11) (.k (.b true)) (.t 14))]
def r23_2 : List AOper := [ao 0 2 (.mv (.k (.b false)))]
def c23_3 : ACode := .seq (.reg r23_2) .ret
def c23_4 : ACode := .cond (.t 15) c23_3 .skip
def c23_5 : ACode := .seq (.reg r23_1) c23_4
def r23_6 : List AOper := [ao 0 16 (.mv (.t 0)),
  ao 1 17 (.nck (.t 16)),
  ao 2 18 (.fa 9 (.t 17)),
  ao 3 19 (.ld 1 false (.t 18)),
  ao 4 20 (.bin .eql (.t 19) (.k (.i 0))),
  ao 5 21 (.mv (.t 20)),
  ag 6 22 21 true [] (.mv (.t 0)),
  ag 7 23 21 true [] (.call (.k (.c (.fn 53 []))) [(.t 22)]),
  ao 8 24 (.pick (.t 21) (.t 23) (.k (.b false))),
  ao 9 25 (.mv (.t 24)),
  ag 10 26 25 false [] (.mv (.t 0)),
  ag 11 27 25 false [] (.nck (.t 26)),
  ag 12 28 25 false [] (.fa 9 (.t 27)),
  ag 13 29 25 false [] (.ld 1 false (.t 28)),
  ag 14 30 25 false [] (.bin .eql (.t 29) (.k (.i 2))),
  ag 15 31 25 false [] (.mv (.t 30)),
  ag 16 32 31 true [] (.mv (.t 0)),
  ag 17 33 31 true [] (.call (.k (.c (.fn 53 []))) [(.t 32)]),
  ag 18 34 31 true [] (.un .not (.t 33)),
  ag 19 35 25 false [] (.pick (.t 31) (.t 34) (.k (.b false))),
  ao 20 36 (.pick (.t 25) (.k (.b true)) (.t 35))]
def r23_7 : List AOper := [ao 0 2 (.mv (.k (.b false)))]
def c23_8 : ACode := .seq (.reg r23_7) .ret
def c23_9 : ACode := .cond (.t 36) c23_8 .skip
def c23_10 : ACode := .seq (.reg r23_6) c23_9
def r23_11 : List AOper := [ao 0 37 (.mv (.t 0)),
  ao 1 38 (.nck (.t 37)),
  ao 2 39 (.fa 17 (.t 38)),
  ao 3 40 (.ld 1 false (.t 39)),
  au 4 41 (ru 4) (.mv (.t 0)),
  au 5 42 (ru 4) (.call (.k (.c (.fn 54 []))) [(.t 41)]),
  ao 6 43 (.bin .add (.t 40) (.t 42)),
  au 7 44 (ru 7) (.mv (.t 0)),
  au 8 45 (ru 7) (.nck (.t 44)),
  au 9 46 (ru 7) (.fa 0 (.t 45)),
  au 10 47 (ru 7) (.ld 1 false (.t 46)),
  au 11 48 (ru 7) (.bin .mul (.k (.i 11)) (.t 47)),
  au 12 49 (ru 12) (.mv (.t 0)),
  au 13 50 (ru 12) (.nck (.t 49)),
  au 14 51 (ru 12) (.fa 1 (.t 50)),
  au 15 52 (ru 12) (.ld 1 false (.t 51)),
  au 16 53 (ru 7) (.bin .add (.t 48) (.t 52)),
  au 17 54 (ru 7) (.bin .add (.t 53) (.k (.i 7))),
  ao 18 55 (.bin .leq (.t 43) (.t 54)),
  ao 19 2 (.mv (.t 55))]
def c23 : ACode := .seq (.reg r23_0) (.seq c23_5 (.seq c23_10 (.seq (.reg r23_11) .ret)))
def s23 : List ARes := [.tmp 2]
theorem ok23 : okF Try.prog 23 56 c23 s23 := ⟨Try.f23, Try.func23, Try.ntmps23, by kernel_rfl, by kernel_rfl, by kernel_rfl⟩
def UCt_1 := Bx.mk <|
  aN (uA c23.eq_1) <| aN (uR r23_0.eq_1) <| aN (uA c23_5.eq_1) <| aN (uR r23_1.eq_1) <| aN (uA c23_4.eq_1) <| aN (uA c23_3.eq_1) <| aN (uR r23_2.eq_1) <| aN (uA c23_10.eq_1) <| aN (uR r23_6.eq_1) <| aN (uA c23_9.eq_1) <| aN (uA c23_8.eq_1) <| aN (uR r23_7.eq_1) <| aN (uR r23_11.eq_1) <| s23.eq_1
def UCt_2 := Bx.mk <|
  aN (uA c23.eq_1) <| aN (uR r23_0.eq_1) <| aN (uA c23_5.eq_1) <| aN (uR r23_1.eq_1) <| aN (uA c23_4.eq_1) <| aN (uA c23_3.eq_1) <| aN (uR r23_2.eq_1) <| aN (uA c23_10.eq_1) <| aN (uR r23_6.eq_1) <| aN (uA c23_9.eq_1) <| aN (uA c23_8.eq_1) <| aN (uR r23_7.eq_1) <| s23.eq_1
set_option maxHeartbeats 1000000 in
theorem isOk_ok (w : CW) (hgl : w.got.length ≤ 2000000) : YW 23 w (WOk w) := by
  obtain ⟨b1, h1, C1⟩ := sizes_ok w
  refine WC.intro ok23 rfl (fun _ => rfl) fun X => ?_
  simp only [RUX, Nat.reduceAdd, reduceIte, Nat.reduceEqDiff, Nat.reduceLT, Nat.reduceLeDiff, reduceCtorEq, eq_self, rV, FIX, forall_const, endE_n, endE_r, CHT, disj, Nat.reduceBEq, beq_self_eq_true, APT, APX, forall_eq, ALT, KI, UCt_1.d]
  refine callP (v := 0) (w := w) C1 rfl rfl rfl rfl rfl ⟨rfl, ?_⟩
  cases b1 with
  | false =>
    simp only [RUX, Nat.reduceAdd, reduceIte, Nat.reduceEqDiff, Nat.reduceLT, Nat.reduceLeDiff, reduceCtorEq, eq_self, rV, FIX, forall_const, endE_n, endE_r, CHT, disj, Nat.reduceBEq, beq_self_eq_true, APT, APX, forall_eq, ALT, KI, UCt_1.d]
    refine ES.mk false (no fun g => by cases h1.2 g.form.p) ?_
    simp only [RUX, Nat.reduceAdd, reduceIte, Nat.reduceEqDiff, Nat.reduceLT, Nat.reduceLeDiff, reduceCtorEq, eq_self, rV, FIX, forall_const, endE_n, endE_r, CHT, disj, Nat.reduceBEq, beq_self_eq_true, APT, APX, forall_eq, ALT, KI, UCt_1.d]
  | true =>
  have hp := h1.1 rfl
  obtain ⟨b2, h2, C2⟩ := jobsOk_ok hp hgl
  simp only [RUX, Nat.reduceAdd, reduceIte, Nat.reduceEqDiff, Nat.reduceLT, Nat.reduceLeDiff, reduceCtorEq, eq_self, rV, FIX, forall_const, endE_n, endE_r, CHT, disj, Nat.reduceBEq, beq_self_eq_true, APT, APX, forall_eq, ALT, KI, UCt_1.d]
  refine callP (v := 0) (w := w) C2 rfl rfl rfl rfl rfl ⟨rfl, ?_⟩
  cases b2 with
  | false =>
    simp only [RUX, Nat.reduceAdd, reduceIte, Nat.reduceEqDiff, Nat.reduceLT, Nat.reduceLeDiff, reduceCtorEq, eq_self, rV, FIX, forall_const, endE_n, endE_r, CHT, disj, Nat.reduceBEq, beq_self_eq_true, APT, APX, forall_eq, ALT, KI, UCt_1.d]
    refine ES.mk false (no fun g => by cases h2.2 g.jobs) ?_
    simp only [RUX, Nat.reduceAdd, reduceIte, Nat.reduceEqDiff, Nat.reduceLT, Nat.reduceLeDiff, reduceCtorEq, eq_self, rV, FIX, forall_const, endE_n, endE_r, CHT, disj, Nat.reduceBEq, beq_self_eq_true, APT, APX, forall_eq, ALT, KI, UCt_1.d]
  | true =>
  have hj := h2.1 rfl
  have h : Form w := hp.f (by have := hj.due; have := hp.due; have := hp.next; omega)
  obtain ⟨b3, h3, C3⟩ := endsOk_ok h
  simp only [RUX, Nat.reduceAdd, reduceIte, Nat.reduceEqDiff, Nat.reduceLT, Nat.reduceLeDiff, reduceCtorEq, eq_self, rV, FIX, forall_const, endE_n, endE_r, CHT, disj, Nat.reduceBEq, beq_self_eq_true, APT, APX, forall_eq, ALT, KI, UCt_1.d]
  refine callP (v := 0) (w := w) C3 rfl rfl rfl rfl rfl ⟨rfl, ?_⟩
  cases b3 with
  | false =>
    simp only [RUX, Nat.reduceAdd, reduceIte, Nat.reduceEqDiff, Nat.reduceLT, Nat.reduceLeDiff, reduceCtorEq, eq_self, rV, FIX, forall_const, endE_n, endE_r, CHT, disj, Nat.reduceBEq, beq_self_eq_true, APT, APX, forall_eq, ALT, KI, UCt_1.d]
    refine ES.mk false (no fun g => by cases h3.2 (ends_iff.1 g.ends).1) ?_
    simp only [RUX, Nat.reduceAdd, reduceIte, Nat.reduceEqDiff, Nat.reduceLT, Nat.reduceLeDiff, reduceCtorEq, eq_self, rV, FIX, forall_const, endE_n, endE_r, CHT, disj, Nat.reduceBEq, beq_self_eq_true, APT, APX, forall_eq, ALT, KI, UCt_1.d]
  | true =>
  have he := h3.1 rfl
  obtain ⟨bd, hbd, Cd⟩ := hasDue_ok h
  have hjb := h.st.j
  have hk := h.st.k
  have ho := h.ops0
  have ho2 := h.ops1
  have hl := left_bd h
  have w1 : IntKind.i64.wrap (w.ops + left w) = w.ops + left w := wrap64 ⟨by omega, by omega⟩
  have w2 : IntKind.i64.wrap (11 * w.jobs) = 11 * w.jobs := wrap64 ⟨by omega, by omega⟩
  have w3 : IntKind.i64.wrap (11 * w.jobs + w.workers) = 11 * w.jobs + w.workers := wrap64 ⟨by omega, by omega⟩
  have w4 : IntKind.i64.wrap (11 * w.jobs + w.workers + 7) = 11 * w.jobs + w.workers + 7 := wrap64 ⟨by omega, by omega⟩
  obtain ⟨lf, rfl, Cf⟩ := pleft_ok h
  have fin : ((w.keeper = 0 → ¬ Due w) ∧ (w.keeper = 2 → Due w)) → ∀ (t : Nat → T) (H : HMap) (c : Nat), t 0 = wP 1000 0 → H 1000 = some (cwB 0 w) → DRun Try.prog r23_11 [] (Kont (thenW Try.prog X .ret (endE (fun b : Bool => b = true ↔ WOk w) T.b (fun _ => [rV 0 29 (cwC w) (cwC w)]) [.tmp 2])) r23_11) ⟨t, H, c⟩ := by
    intro pr t H c e0 hW
    simp only [wP, T.c] at e0
    simp only [RUX, Nat.reduceAdd, reduceIte, Nat.reduceEqDiff, Nat.reduceLT, Nat.reduceLeDiff, reduceCtorEq, eq_self, rV, FIX, forall_const, endE_n, endE_r, CHT, disj, Nat.reduceBEq, beq_self_eq_true, APT, APX, forall_eq, ALT, KI, UCt_1.d, e0, hW]
    refine callP (v := 0) (w := w) Cf rfl rfl rfl rfl hW ⟨rfl, ?_⟩
    by_cases k1 : w.ops + left w ≤ 11 * w.jobs + w.workers + 7
    · simp only [RUX, Nat.reduceAdd, reduceIte, Nat.reduceEqDiff, Nat.reduceLT, Nat.reduceLeDiff, reduceCtorEq, eq_self, rV, FIX, forall_const, endE_n, endE_r, CHT, disj, Nat.reduceBEq, beq_self_eq_true, APT, APX, forall_eq, ALT, KI, UCt_1.d, e0, hW, w1, w2, w3, w4, k1]
      refine ES.mk true (yes ⟨h, hj, ends_iff.2 ⟨he, pr⟩, k1⟩) ?_
      simp only [RUX, Nat.reduceAdd, reduceIte, Nat.reduceEqDiff, Nat.reduceLT, Nat.reduceLeDiff, reduceCtorEq, eq_self, rV, FIX, forall_const, endE_n, endE_r, CHT, disj, Nat.reduceBEq, beq_self_eq_true, APT, APX, forall_eq, ALT, KI, UCt_1.d, e0, hW, w1, w2, w3, w4, k1]
    · simp only [RUX, Nat.reduceAdd, reduceIte, Nat.reduceEqDiff, Nat.reduceLT, Nat.reduceLeDiff, reduceCtorEq, eq_self, rV, FIX, forall_const, endE_n, endE_r, CHT, disj, Nat.reduceBEq, beq_self_eq_true, APT, APX, forall_eq, ALT, KI, UCt_1.d, e0, hW, w1, w2, w3, w4, k1]
      refine ES.mk false (no fun g => k1 g.ops) ?_
      simp only [RUX, Nat.reduceAdd, reduceIte, Nat.reduceEqDiff, Nat.reduceLT, Nat.reduceLeDiff, reduceCtorEq, eq_self, rV, FIX, forall_const, endE_n, endE_r, CHT, disj, Nat.reduceBEq, beq_self_eq_true, APT, APX, forall_eq, ALT, KI, UCt_1.d, e0, hW, w1, w2, w3, w4, k1]
  by_cases c1 : w.keeper = 0
  · have k1 := eqb c1
    simp only [RUX, Nat.reduceAdd, reduceIte, Nat.reduceEqDiff, Nat.reduceLT, Nat.reduceLeDiff, reduceCtorEq, eq_self, rV, FIX, forall_const, endE_n, endE_r, CHT, disj, Nat.reduceBEq, beq_self_eq_true, APT, APX, forall_eq, ALT, KI, UCt_2.d, k1]
    refine callP (v := 0) (w := w) Cd rfl rfl rfl rfl rfl ⟨rfl, ?_⟩
    cases bd with
    | true =>
      simp only [RUX, Nat.reduceAdd, reduceIte, Nat.reduceEqDiff, Nat.reduceLT, Nat.reduceLeDiff, reduceCtorEq, eq_self, rV, FIX, forall_const, endE_n, endE_r, CHT, disj, Nat.reduceBEq, beq_self_eq_true, APT, APX, forall_eq, ALT, KI, UCt_2.d, k1]
      refine ES.mk false (no fun g => (ends_iff.1 g.ends).2.1 c1 (hbd.1 rfl)) ?_
      simp only [RUX, Nat.reduceAdd, reduceIte, Nat.reduceEqDiff, Nat.reduceLT, Nat.reduceLeDiff, reduceCtorEq, eq_self, rV, FIX, forall_const, endE_n, endE_r, CHT, disj, Nat.reduceBEq, beq_self_eq_true, APT, APX, forall_eq, ALT, KI, UCt_2.d, k1]
    | false =>
      have k2 : (w.keeper == 2) = false := neqb (by omega)
      simp only [RUX, Nat.reduceAdd, reduceIte, Nat.reduceEqDiff, Nat.reduceLT, Nat.reduceLeDiff, reduceCtorEq, eq_self, rV, FIX, forall_const, endE_n, endE_r, CHT, disj, Nat.reduceBEq, beq_self_eq_true, APT, APX, forall_eq, ALT, KI, UCt_2.d, k1, k2]
      refine fin ⟨fun _ g => (by cases hbd.2 g), fun e => by omega⟩ _ _ _ ?_ ?_
      · rfl
      · rfl
  have k1 := neqb c1
  by_cases c2 : w.keeper = 2
  · have k2 := eqb c2
    simp only [RUX, Nat.reduceAdd, reduceIte, Nat.reduceEqDiff, Nat.reduceLT, Nat.reduceLeDiff, reduceCtorEq, eq_self, rV, FIX, forall_const, endE_n, endE_r, CHT, disj, Nat.reduceBEq, beq_self_eq_true, APT, APX, forall_eq, ALT, KI, UCt_2.d, k1, k2]
    refine callP (v := 0) (w := w) Cd rfl rfl rfl rfl rfl ⟨rfl, ?_⟩
    cases bd with
    | false =>
      simp only [RUX, Nat.reduceAdd, reduceIte, Nat.reduceEqDiff, Nat.reduceLT, Nat.reduceLeDiff, reduceCtorEq, eq_self, rV, FIX, forall_const, endE_n, endE_r, CHT, disj, Nat.reduceBEq, beq_self_eq_true, APT, APX, forall_eq, ALT, KI, UCt_2.d, k1, k2]
      refine ES.mk false (no fun g => by cases hbd.2 ((ends_iff.1 g.ends).2.2 c2)) ?_
      simp only [RUX, Nat.reduceAdd, reduceIte, Nat.reduceEqDiff, Nat.reduceLT, Nat.reduceLeDiff, reduceCtorEq, eq_self, rV, FIX, forall_const, endE_n, endE_r, CHT, disj, Nat.reduceBEq, beq_self_eq_true, APT, APX, forall_eq, ALT, KI, UCt_2.d, k1, k2]
    | true =>
      simp only [RUX, Nat.reduceAdd, reduceIte, Nat.reduceEqDiff, Nat.reduceLT, Nat.reduceLeDiff, reduceCtorEq, eq_self, rV, FIX, forall_const, endE_n, endE_r, CHT, disj, Nat.reduceBEq, beq_self_eq_true, APT, APX, forall_eq, ALT, KI, UCt_2.d, k1, k2]
      refine fin ⟨fun e => by omega, fun _ => hbd.1 rfl⟩ _ _ _ ?_ ?_
      · rfl
      · rfl
  have k2 := neqb c2
  simp only [RUX, Nat.reduceAdd, reduceIte, Nat.reduceEqDiff, Nat.reduceLT, Nat.reduceLeDiff, reduceCtorEq, eq_self, rV, FIX, forall_const, endE_n, endE_r, CHT, disj, Nat.reduceBEq, beq_self_eq_true, APT, APX, forall_eq, ALT, KI, UCt_2.d, k1, k2]
  refine fin ⟨fun e => absurd e c1, fun e => absurd e c2⟩ _ _ _ ?_ ?_
  · rfl
  · rfl
end Go.V

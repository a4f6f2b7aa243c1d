/- Part 13 of the proof. -/
import Derived.Test.YtlagjjpbknpdkaaGreatDoorLc12
set_option linter.all false
set_option linter.unusedVariables false
set_option linter.unusedSimpArgs false
set_option linter.unusedSectionVars false
section
set_option maxRecDepth 100000
namespace Go.Av.Fx
open Go Go.Av Go.Proofs
@[go_sem] def ot (n : Nat) : Operand := .tmp n
@[go_sem] def oK (n : Int) : Operand := .const (.int .i64 n)
@[go_sem] def oN (d : Nat) (o : Op) : MO := ⟨none, some d, o⟩
@[go_sem] def oG (g d : Nat) (o : Op) : MO := ⟨some (g, true), some d, o⟩
@[go_sem] def oH (g d : Nat) (o : Op) : MO := ⟨some (g, false), some d, o⟩
@[go_sem] def oM (x : Nat) : Op := .move (.tmp x)
@[go_sem] def oA (x : Nat) : Op := .assign (.tmp x)
@[go_sem] def oL (t x : Nat) : Op := .load t (.tmp x)
@[go_sem] def oB (k : BinOp) (t x y u : Nat) : Op := .binOp k t (.tmp x) (.tmp y) u
@[go_sem] def oI (k : BinOp) (t x : Nat) (y : Int) (u : Nat) : Op := .binOp k t (.tmp x) (.const (.int .i64 y)) u
@[go_sem] def oP (x y : Nat) (b : Bool) : Op := .pick (.tmp x) (.tmp y) (.const (.bool b))
@[go_sem] def oF (t x i : Nat) : Op := .fieldAddr t (.tmp x) i
@[go_sem] def oE (x i : Nat) : Op := .extract (.tmp x) i
@[go_sem] def oX (t x y : Nat) : Op := .indexAddr t (.tmp x) (.tmp y)
@[go_sem] def oS (t x y : Nat) : Op := .store t (.tmp x) (.tmp y)
@[go_sem] def oC (f : Nat) (a : Array Operand) (t : Array TypeId) : Op := .call { callee := .value (.func f), args := a, argTypes := t }
@[go_sem] def oD (f : Builtin) (a : Array Operand) (t : Array TypeId) : Op := .call { callee := .builtin f, args := a, argTypes := t }
attribute [go_sem] List.length_cons List.length_nil List.toList_toArray List.getElem?_cons_zero List.getElem?_cons_succ Nat.zero_add Nat.le_refl
attribute [go_sem] List.all_cons List.all_nil Bool.and_self splice List.set_cons_zero List.set_cons_succ and_self true_and Nat.mul_one
attribute [go_sem] Int.toNat_natCast
def kA : MC → List (List Nat × Nat × List Bool)
  | .region k _ => [(k, 0, [])]
  | .draw k m h _ => [(k, m, h)]
  | .seq a b => kA a ++ kA b
  | .cond _ a b => kA a ++ kA b
  | .block _ a => kA a
  | .loop a => kA a
  | .rangeFunc _ _ a b => kA a ++ kA b
  | _ => []
def kB (c : MC) (n : Nat) : List Nat := ((kA c).getD n ([], 0, [])).1
def kC (c : MC) (n : Nat) : Nat × List Bool := ((kA c).getD n ([], 0, [])).2
abbrev tM (N : Nat) (c : MC) : Code → Option MC := toMC N (kB c) (kC c)
abbrev tN (N : Nat) (l : List Nat) (c : MC) : Code → Option MC := toMC N (fun n => kB c (l.idxOf n)) (fun n => kC c (l.idxOf n))
@[go_sem] def r3_0 : List MO := [oN 1 (.box 25 (ot 0)), oN 2 (.assign (.const (.bool false)))]
@[go_sem] def r3_1 : List MO := [oN 8 (oL 25 1), oN 9 (oC 19 #[ot 8] #[25]), oN 10 (.unOp .not 4 (ot 9))]
@[go_sem] def r3_2 : List MO := [oN 11 (oC 20 #[] #[]), oN 2 (oA 11)]
@[go_sem] def r3_3 : List MO := [oN 13 (oL 25 1), oN 14 (oC 21 #[ot 13] #[25]), oN 12 (oM 14), oN 15 (oE 12 0), oN 16 (oE 12 1), oN 3 (oA 15), oN 4 (oA 16)]
@[go_sem] def r3_4 : List MO := [oN 18 (oL 25 1), oN 19 (oC 22 #[ot 18] #[25]), oN 17 (oM 19), oN 20 (oE 17 0), oN 21 (oE 17 1), oN 5 (oA 20), oN 6 (oA 21)]
@[go_sem] def r3_5 : List MO := [oN 22 (oL 25 1), oN 23 (oC 23 #[ot 22, (.const (.bool true))] #[25, 4]), oN 7 (oA 23)]
@[go_sem] def r3_6 : List MO := [oN 24 (oM 7), oN 25 (oI .neq 29 24 0 29)]
@[go_sem] def r3_7 : List MO := [oN 26 (oM 4), oN 27 (oM 7), oN 28 (oB .eql 29 26 27 29), oN 29 (oM 28), oG 29 30 (oM 3), oG 29 31 (oD .len #[ot 30] #[28]), oG 29 32 (oI .eql 3 31 0 3), oN 33 (oP 29 32 false), oN 34 (oM 33), oG 34 35 (oM 6), oG 34 36 (oM 7), oG 34 37 (oB .eql 29 35 36 29), oN 38 (oP 34 37 false), oN 39 (oM 38), oG 39 40 (oM 5), oG 39 41 (oD .len #[ot 40] #[32]), oG 39 42 (oI .eql 3 41 0 3), oN 43 (oP 39 42 false), oN 44 (oM 43), oG 44 45 (oC 20 #[] #[]), oN 46 (oP 44 45 false), oN 2 (oA 46)]
@[go_sem] def r3_8 : List MO := [oN 47 (oM 4), oN 48 (oI .eql 29 47 0 29), oN 49 (oM 48), oG 49 50 (oM 3), oG 49 51 (oL 25 1), oG 49 52 (oC 25 #[ot 51] #[25]), oG 49 53 (oC 24 #[ot 50, ot 52] #[28, 28]), oN 54 (oP 49 53 false), oN 55 (oM 54), oG 55 56 (oM 6), oG 55 57 (oI .eql 29 56 0 29), oN 58 (oP 55 57 false), oN 59 (oM 58), oG 59 60 (oM 5), oG 59 61 (oL 25 1), oG 59 62 (oC 27 #[ot 61] #[25]), oG 59 63 (oC 26 #[ot 60, ot 62] #[32, 32]), oN 64 (oP 59 63 false), oN 65 (oM 64), oG 65 66 (oC 20 #[] #[]), oN 67 (oP 65 66 false), oN 2 (oA 67)]
@[go_sem] def c3 : MC := (.seq (.region [1] r3_0) (.seq (.seq (.region [1, 10] r3_1) (.cond (.tmp 10) (.seq (.region [2] r3_2) .ret) .skip)) (.seq (.region [1, 3, 4] r3_3) (.seq (.region [1, 3, 4, 5, 6] r3_4) (.seq (.seq (.region [1, 3, 4, 5, 6, 7] r3_5) (.seq (.region [1, 3, 4, 5, 6, 7, 25] r3_6) (.cond (.tmp 25) (.seq (.region [2] r3_7) .ret) .skip))) (.seq (.region [2] r3_8) .ret))))))
theorem m3 : Tryz.f3.body.bind (tM 68 c3) = some c3 := by kernel_rfl
@[go_sem] def r4_0 : List MO := [oN 2 (.box 25 (ot 0)), oN 4 (.assign (.const (.bool false)))]
@[go_sem] def r4_1 : List MO := [oN 15 (oL 25 2), oN 16 (oC 19 #[ot 15] #[25]), oN 17 (.unOp .not 4 (ot 16)), oN 18 (oM 17), oH 18 19 (oL 25 2), oH 18 20 (oC 28 #[ot 19] #[25]), oH 18 21 (.unOp .not 4 (ot 20)), oN 22 (.pick (ot 18) (.const (.bool true)) (ot 21)), oN 23 (oM 22), oH 23 24 (oM 1), oH 23 25 (oD .len #[ot 24] #[22]), oH 23 26 (oI .gtr 3 25 4 3), oN 27 (.pick (ot 23) (.const (.bool true)) (ot 26)), oN 28 (oM 27), oH 28 29 (oL 25 2), oH 28 30 (oM 1), oH 28 31 (oC 29 #[ot 29, ot 30] #[25, 22]), oH 28 32 (.unOp .not 4 (ot 31)), oN 33 (.pick (ot 28) (.const (.bool true)) (ot 32))]
@[go_sem] def r4_2 : List MO := [oN 34 (oC 20 #[] #[]), oN 4 (oA 34)]
@[go_sem] def r4_3 : List MO := [oN 36 (oL 25 2), oN 37 (oC 22 #[ot 36] #[25]), oN 35 (oM 37), oN 38 (oE 35 0), oN 39 (oE 35 1), oN 5 (oA 38), oN 6 (oA 39)]
@[go_sem] def r4_4 : List MO := [oN 41 (oL 25 2), oN 42 (oC 21 #[ot 41] #[25]), oN 40 (oM 42), oN 43 (oE 40 0), oN 44 (oE 40 1), oN 7 (oA 43), oN 8 (oA 44)]
@[go_sem] def r4_5 : List MO := [oN 46 (oL 25 2), oN 47 (oM 1), oN 48 (oC 30 #[ot 46, ot 47] #[25, 22]), oN 45 (oM 48), oN 49 (oE 45 0), oN 50 (oE 45 1), oN 9 (.alloc 42), ⟨none, none, (oS 42 9 49)⟩, oN 10 (oA 50)]
@[go_sem] def r4_6 : List MO := [oN 51 (oM 6), oN 52 (oM 8), oN 53 (oB .neq 29 51 52 29), oN 54 (oM 53), oH 54 55 (oM 6), oH 54 56 (oI .neq 29 55 0 29), oH 54 57 (oM 56), oG 57 58 (oM 6), oG 57 59 (oI .neq 29 58 7 29), oH 54 60 (oP 57 59 false), oN 61 (.pick (ot 54) (.const (.bool true)) (ot 60)), oN 62 (oM 61), oH 62 63 (oM 10), oH 62 64 (oI .neq 29 63 0 29), oH 62 65 (oM 64), oG 65 66 (oM 10), oG 65 67 (oI .neq 29 66 5 29), oH 62 68 (oP 65 67 false), oN 69 (.pick (ot 62) (.const (.bool true)) (ot 68))]
@[go_sem] def r4_7 : List MO := [oN 4 (.assign (.const (.bool false)))]
@[go_sem] def r4_8 : List MO := [oN 70 (oM 6), oN 71 (oI .neq 29 70 0 29)]
@[go_sem] def r4_9 : List MO := [oN 72 (oM 10), oN 73 (oI .eql 29 72 5 29), oN 74 (oM 73), oG 74 75 (oL 42 9), oG 74 76 (.build 42 #[]), oG 74 77 (oB .eql 42 75 76 42), oN 78 (oP 74 77 false), oN 79 (oM 78), oG 79 80 (oC 20 #[] #[]), oN 81 (oP 79 80 false), oN 4 (oA 81)]
@[go_sem] def r4_10 : List MO := [oN 82 (oM 5), oN 83 (oD .len #[ot 82] #[32]), oN 84 (oI .eql 3 83 0 3), oN 85 (oM 84), oH 85 86 (oM 5), oH 85 87 (oD .len #[ot 86] #[32]), oH 85 88 (oI .gtr 3 87 100 3), oN 89 (.pick (ot 85) (.const (.bool true)) (ot 88)), oN 90 (oM 89), oH 90 91 (oM 7), oH 90 92 (oD .len #[ot 91] #[28]), oH 90 93 (oF 25 2 0), oH 90 94 (oL 22 93), oH 90 95 (oD .len #[ot 94] #[22]), oH 90 96 (oB .neq 3 92 95 3), oN 97 (.pick (ot 90) (.const (.bool true)) (ot 96)), oN 98 (oM 97), oH 98 99 (oM 5), oH 98 100 (oM 1), oH 98 101 (oC 31 #[ot 99, ot 100] #[32, 22]), oH 98 102 (oM 10), oH 98 103 (oI .eql 29 102 0 29), oH 98 104 (oB .neq 4 101 103 4), oN 105 (.pick (ot 98) (.const (.bool true)) (ot 104)), oN 106 (oM 105), oH 106 107 (oM 10), oH 106 108 (oI .eql 29 107 0 29), oH 106 109 (oM 108), oG 109 110 (oF 42 9 0), oG 109 111 (oL 3 110), oG 109 112 (oF 42 9 1), oG 109 113 (oL 3 112), oG 109 114 (oB .gtr 3 111 113 3), oG 109 115 (oM 114), oH 115 116 (oF 42 9 0), oH 115 117 (oL 3 116), oH 115 118 (oF 25 2 1), oH 115 119 (oL 3 118), oH 115 120 (oM 1), oH 115 121 (oD .len #[ot 120] #[22]), oH 115 122 (oB .mul 3 119 121 3), oH 115 123 (oB .lss 3 117 122 3), oG 109 124 (.pick (ot 115) (.const (.bool true)) (ot 123)), oG 109 125 (oM 124), oH 125 126 (oF 42 9 1), oH 125 127 (oL 3 126), oH 125 128 (oF 25 2 2), oH 125 129 (oL 3 128), oH 125 130 (oM 1), oH 125 131 (oD .len #[ot 130] #[22]), oH 125 132 (oB .mul 3 129 131 3), oH 125 133 (oB .gtr 3 127 132 3), oG 109 134 (.pick (ot 125) (.const (.bool true)) (ot 133)), oH 106 135 (oP 109 134 false), oN 136 (.pick (ot 106) (.const (.bool true)) (ot 135))]
@[go_sem] def r4_11 : List MO := [oN 4 (.assign (.const (.bool false)))]
@[go_sem] def r4_12 : List MO := [oN 11 (.assign (oK 0))]
@[go_sem] def r4_13 : List MO := [oN 137 (oM 11), oN 138 (oM 5), oN 139 (oD .len #[ot 138] #[32]), oN 140 (oB .lss 3 137 139 3)]
@[go_sem] def r4_15 : List MO := [oN 143 (oL 25 2), oN 144 (oM 5), oN 145 (oM 11), oN 146 (oX 32 144 145), oN 147 (oL 22 146), oN 148 (oC 29 #[ot 143, ot 147] #[25, 22]), oN 149 (.unOp .not 4 (ot 148)), oN 150 (oM 149), oH 150 151 (oM 5), oH 150 152 (oM 11), oH 150 153 (oX 32 151 152), oH 150 154 (oL 22 153), oH 150 155 (oD .len #[ot 154] #[22]), oH 150 156 (oF 25 2 3), oH 150 157 (oL 3 156), oH 150 158 (oB .gtr 3 155 157 3), oN 159 (.pick (ot 150) (.const (.bool true)) (ot 158)), oN 160 (oM 159), oH 160 161 (oM 11), oH 160 162 (oI .gtr 3 161 0 3), oH 160 163 (oM 162), oG 163 164 (oM 5), oG 163 165 (oM 11), oG 163 166 (oI .sub 3 165 1 3), oG 163 167 (oX 32 164 166), oG 163 168 (oL 22 167), oG 163 169 (oM 5), oG 163 170 (oM 11), oG 163 171 (oX 32 169 170), oG 163 172 (oL 22 171), oG 163 173 (oC 32 #[ot 168, ot 172] #[22, 22]), oG 163 174 (.unOp .not 4 (ot 173)), oH 160 175 (oP 163 174 false), oN 176 (.pick (ot 160) (.const (.bool true)) (ot 175))]
@[go_sem] def r4_16 : List MO := [oN 4 (.assign (.const (.bool false)))]
@[go_sem] def r4_14 : List MO := [oN 141 (oM 11), oN 142 (oI .add 3 141 1 3), oN 11 (oA 142)]
def l4_0 : MC := (.seq (.seq (.region [2, 5, 7, 11, 140] r4_13) (.cond (.tmp 140) .skip (.exit 0))) (.seq (.block 1 (.seq (.draw [2, 5, 7, 11, 176] 30 [] r4_15) (.cond (.tmp 176) (.seq (.region [4] r4_16) .ret) .skip))) (.region [2, 5, 7, 11] r4_14)))
@[go_sem] def r4_17 : List MO := [oN 12 (.assign (oK 0))]
@[go_sem] def r4_18 : List MO := [oN 177 (oM 12), oN 178 (oM 7), oN 179 (oD .len #[ot 178] #[28]), oN 180 (oB .lss 3 177 179 3)]
@[go_sem] def r4_20 : List MO := [oN 13 (.assign (oK 0))]
@[go_sem] def r4_21 : List MO := [oN 14 (.assign (oK 0))]
@[go_sem] def r4_22 : List MO := [oN 183 (oM 14), oN 184 (oM 5), oN 185 (oD .len #[ot 184] #[32]), oN 186 (oB .lss 3 183 185 3)]
@[go_sem] def r4_24 : List MO := [oN 189 (oM 5), oN 190 (oM 14), oN 191 (oX 32 189 190), oN 192 (oL 22 191), oN 193 (oM 12), oN 194 (oC 33 #[ot 192, ot 193] #[22, 3])]
@[go_sem] def r4_25 : List MO := [oN 195 (oM 13), oN 196 (oI .add 3 195 1 3), oN 13 (oA 196)]
@[go_sem] def r4_23 : List MO := [oN 187 (oM 14), oN 188 (oI .add 3 187 1 3), oN 14 (oA 188)]
def l4_2 : MC := (.seq (.seq (.region [5, 7, 12, 13, 14, 186] r4_22) (.cond (.tmp 186) .skip (.exit 4))) (.seq (.block 5 (.seq (.region [5, 7, 12, 13, 14, 194] r4_24) (.cond (.tmp 194) (.region [5, 7, 12, 13, 14] r4_25) .skip))) (.region [5, 7, 12, 13, 14] r4_23)))
@[go_sem] def r4_26 : List MO := [oN 197 (oM 7), oN 198 (oM 12), oN 199 (oX 28 197 198), oN 200 (oL 48 199), oN 201 (oI .eql 48 200 3 48), oN 202 (oM 13), oN 203 (oM 5), oN 204 (oD .len #[ot 203] #[32]), oN 205 (oB .eql 3 202 204 3), oN 206 (oB .neq 4 201 205 4), oN 207 (oM 206), oH 207 208 (oM 7), oH 207 209 (oM 12), oH 207 210 (oX 28 208 209), oH 207 211 (oL 48 210), oH 207 212 (oI .eql 48 211 1 48), oH 207 213 (oM 13), oH 207 214 (oI .eql 3 213 0 3), oH 207 215 (oB .neq 4 212 214 4), oN 216 (.pick (ot 207) (.const (.bool true)) (ot 215))]
@[go_sem] def r4_27 : List MO := [oN 4 (.assign (.const (.bool false)))]
@[go_sem] def r4_19 : List MO := [oN 181 (oM 12), oN 182 (oI .add 3 181 1 3), oN 12 (oA 182)]
def l4_1 : MC := (.seq (.seq (.region [5, 7, 12, 180] r4_18) (.cond (.tmp 180) .skip (.exit 2))) (.seq (.block 3 (.seq (.region [5, 7, 12, 13] r4_20) (.seq (.seq (.region [5, 7, 12, 13, 14] r4_21) (.block 4 (.loop l4_2))) (.seq (.region [5, 7, 12, 216] r4_26) (.cond (.tmp 216) (.seq (.region [4] r4_27) .ret) .skip))))) (.region [5, 7, 12] r4_19)))
@[go_sem] def r4_28 : List MO := [oN 217 (oC 20 #[] #[]), oN 4 (oA 217)]
@[go_sem] def c4 : MC := (.seq (.region [1, 2] r4_0) (.seq (.seq (.region [1, 2, 33] r4_1) (.cond (.tmp 33) (.seq (.region [4] r4_2) .ret) .skip)) (.seq (.region [1, 2, 5, 6] r4_3) (.seq (.region [1, 2, 5, 6, 7, 8] r4_4) (.seq (.region [1, 2, 5, 6, 7, 8, 9, 10] r4_5) (.seq (.seq (.region [1, 2, 5, 6, 7, 9, 10, 69] r4_6) (.cond (.tmp 69) (.seq (.region [4] r4_7) .ret) .skip)) (.seq (.seq (.region [1, 2, 5, 7, 9, 10, 71] r4_8) (.cond (.tmp 71) (.seq (.region [4] r4_9) .ret) .skip)) (.seq (.seq (.region [2, 5, 7, 136] r4_10) (.cond (.tmp 136) (.seq (.region [4] r4_11) .ret) .skip)) (.seq (.seq (.region [2, 5, 7, 11] r4_12) (.block 0 (.loop l4_0))) (.seq (.seq (.region [5, 7, 12] r4_17) (.block 2 (.loop l4_1))) (.seq (.region [4] r4_28) .ret)))))))))))
theorem m4 : Tryz.f4.body.bind (tN 218 [0, 1, 2, 3, 4, 5, 6, 7, 8, 9, 10, 11, 12, 13, 15, 16, 14, 17, 18, 20, 21, 22, 24, 25, 23, 26, 27, 19, 28] c4) = some c4 := by kernel_rfl
@[go_sem] def r5_0 : List MO := [oN 4 (.box 25 (ot 0)), oN 8 (.assign (.const (.bool false)))]
@[go_sem] def r5_1 : List MO := [oN 19 (oL 25 4), oN 20 (oC 19 #[ot 19] #[25]), oN 21 (.unOp .not 4 (ot 20)), oN 22 (oM 21), oH 22 23 (oM 3), oH 22 24 (oD .len #[ot 23] #[22]), oH 22 25 (oI .gtr 3 24 4 3), oN 26 (.pick (ot 22) (.const (.bool true)) (ot 25))]
@[go_sem] def r5_2 : List MO := [oN 27 (oC 20 #[] #[]), oN 8 (oA 27)]
@[go_sem] def r5_3 : List MO := [oN 29 (oL 25 4), oN 30 (oM 1), oN 31 (oC 34 #[ot 29, ot 30] #[25, 3]), oN 28 (oM 31), oN 32 (oE 28 0), oN 33 (oE 28 1), oN 9 (.alloc 42), ⟨none, none, (oS 42 9 32)⟩, oN 10 (oA 33)]
@[go_sem] def r5_4 : List MO := [oN 35 (oL 25 4), oN 36 (oM 1), oN 37 (oM 2), oN 38 (oC 35 #[ot 35, ot 36, ot 37] #[25, 3, 3]), oN 34 (oM 38), oN 39 (oE 34 0), oN 40 (oE 34 1), oN 11 (.alloc 42), ⟨none, none, (oS 42 11 39)⟩, oN 12 (oA 40)]
@[go_sem] def r5_5 : List MO := [oN 42 (oL 25 4), oN 43 (oM 3), oN 44 (oC 30 #[ot 42, ot 43] #[25, 22]), oN 41 (oM 44), oN 45 (oE 41 0), oN 46 (oE 41 1), oN 13 (.alloc 42), ⟨none, none, (oS 42 13 45)⟩, oN 14 (oA 46)]
@[go_sem] def r5_6 : List MO := [oN 47 (oL 25 4), oN 48 (oC 28 #[ot 47] #[25]), oN 49 (.unOp .not 4 (ot 48)), oN 50 (oM 49), oH 50 51 (oL 25 4), oH 50 52 (oM 3), oH 50 53 (oC 29 #[ot 51, ot 52] #[25, 22]), oH 50 54 (.unOp .not 4 (ot 53)), oN 55 (.pick (ot 50) (.const (.bool true)) (ot 54))]
@[go_sem] def r5_7 : List MO := [oN 56 (oM 14), oN 57 (oI .neq 29 56 2 29), oN 58 (oM 57), oH 58 59 (oL 42 13), oH 58 60 (.build 42 #[]), oH 58 61 (oB .neq 42 59 60 42), oN 62 (.pick (ot 58) (.const (.bool true)) (ot 61))]
@[go_sem] def r5_8 : List MO := [oN 8 (.assign (.const (.bool false)))]
@[go_sem] def r5_9 : List MO := [oN 64 (oL 25 4), oN 65 (oM 3), oN 66 (oC 36 #[ot 64, ot 65] #[25, 22]), oN 63 (oM 66), oN 67 (oE 63 0), oN 68 (oE 63 1), oN 15 (.alloc 42), ⟨none, none, (oS 42 15 67)⟩, oN 16 (oA 68)]
@[go_sem] def r5_10 : List MO := [oN 69 (oM 16), oN 70 (.unOp .not 4 (ot 69)), oN 71 (oM 70), oG 71 72 (oM 14), oG 71 73 (oI .neq 29 72 5 29), oG 71 74 (oM 73), oH 74 75 (oL 42 13), oH 74 76 (.build 42 #[]), oH 74 77 (oB .neq 42 75 76 42), oG 71 78 (.pick (ot 74) (.const (.bool true)) (ot 77)), oN 79 (oP 71 78 false), oN 80 (oM 79), oH 80 81 (oM 16), oH 80 82 (oM 81), oG 82 83 (oM 14), oG 82 84 (oI .neq 29 83 0 29), oG 82 85 (oM 84), oH 85 86 (oL 42 13), oH 85 87 (oL 42 15), oH 85 88 (oB .neq 42 86 87 42), oG 82 89 (.pick (ot 85) (.const (.bool true)) (ot 88)), oH 80 90 (oP 82 89 false), oN 91 (.pick (ot 80) (.const (.bool true)) (ot 90))]
@[go_sem] def r5_11 : List MO := [oN 8 (.assign (.const (.bool false)))]
@[go_sem] def r5_12 : List MO := [oN 92 (oL 25 4), oN 93 (oL 25 4), oN 94 (oM 1), oN 95 (oC 37 #[ot 93, ot 94] #[25, 3]), oN 96 (oC 23 #[ot 92, ot 95] #[25, 4]), oN 17 (oA 96)]
@[go_sem] def r5_13 : List MO := [oN 97 (oM 17), oN 98 (oI .neq 29 97 0 29)]
@[go_sem] def r5_14 : List MO := [oN 99 (oM 10), oN 100 (oM 17), oN 101 (oB .neq 29 99 100 29), oN 102 (oM 101), oH 102 103 (oL 42 9), oH 102 104 (.build 42 #[]), oH 102 105 (oB .neq 42 103 104 42), oN 106 (.pick (ot 102) (.const (.bool true)) (ot 105))]
@[go_sem] def r5_15 : List MO := [oN 8 (.assign (.const (.bool false)))]
@[go_sem] def r5_16 : List MO := [oN 107 (oM 10), oN 108 (oI .neq 29 107 0 29), oN 109 (oM 108), oH 109 110 (oL 42 9), oH 109 111 (oL 25 4), oH 109 112 (oM 1), oH 109 113 (oC 38 #[ot 111, ot 112] #[25, 3]), oH 109 114 (oB .neq 42 110 113 42), oN 115 (.pick (ot 109) (.const (.bool true)) (ot 114))]
@[go_sem] def r5_17 : List MO := [oN 8 (.assign (.const (.bool false)))]
@[go_sem] def r5_18 : List MO := [oN 116 (oL 25 4), oN 117 (oL 25 4), oN 118 (oM 1), oN 119 (oC 37 #[ot 117, ot 118] #[25, 3]), oN 120 (oM 119), oG 120 121 (oL 25 4), oG 120 122 (oM 2), oG 120 123 (oC 37 #[ot 121, ot 122] #[25, 3]), oN 124 (oP 120 123 false), oN 125 (oM 124), oG 125 126 (oM 1), oG 125 127 (oM 2), oG 125 128 (oB .leq 3 126 127 3), oN 129 (oP 125 128 false), oN 130 (oC 23 #[ot 116, ot 129] #[25, 4]), oN 18 (oA 130)]
@[go_sem] def r5_19 : List MO := [oN 131 (oM 18), oN 132 (oI .neq 29 131 0 29)]
@[go_sem] def r5_20 : List MO := [oN 133 (oM 12), oN 134 (oM 18), oN 135 (oB .eql 29 133 134 29), oN 136 (oM 135), oG 136 137 (oL 42 11), oG 136 138 (.build 42 #[]), oG 136 139 (oB .eql 42 137 138 42), oN 140 (oP 136 139 false), oN 141 (oM 140), oG 141 142 (oC 20 #[] #[]), oN 143 (oP 141 142 false), oN 8 (oA 143)]
@[go_sem] def r5_21 : List MO := [oN 144 (oM 12), oN 145 (oI .eql 29 144 0 29), oN 146 (oM 145), oG 146 147 (oL 42 11), oG 146 148 (oL 25 4), oG 146 149 (oM 1), oG 146 150 (oM 2), oG 146 151 (oC 39 #[ot 148, ot 149, ot 150] #[25, 3, 3]), oG 146 152 (oB .eql 42 147 151 42), oN 153 (oP 146 152 false), oN 154 (oM 153), oG 154 155 (oC 20 #[] #[]), oN 156 (oP 154 155 false), oN 8 (oA 156)]
@[go_sem] def c5 : MC := (.seq (.region [1, 2, 3, 4] r5_0) (.seq (.seq (.region [1, 2, 3, 4, 26] r5_1) (.cond (.tmp 26) (.seq (.region [8] r5_2) .ret) .skip)) (.seq (.region [1, 2, 3, 4, 9, 10] r5_3) (.seq (.region [1, 2, 3, 4, 9, 10, 11, 12] r5_4) (.seq (.region [1, 2, 3, 4, 9, 10, 11, 12, 13, 14] r5_5) (.seq (.seq (.region [1, 2, 3, 4, 9, 10, 11, 12, 13, 14, 55] r5_6) (.cond (.tmp 55) (.seq (.region [1, 2, 4, 9, 10, 11, 12, 62] r5_7) (.cond (.tmp 62) (.seq (.region [8] r5_8) .ret) .skip)) (.seq (.region [1, 2, 4, 9, 10, 11, 12, 13, 14, 15, 16] r5_9) (.seq (.region [1, 2, 4, 9, 10, 11, 12, 91] r5_10) (.cond (.tmp 91) (.seq (.region [8] r5_11) .ret) .skip))))) (.seq (.seq (.draw [1, 2, 4, 9, 10, 11, 12, 17] 4 [] r5_12) (.seq (.region [1, 2, 4, 9, 10, 11, 12, 17, 98] r5_13) (.cond (.tmp 98) (.seq (.region [1, 2, 4, 11, 12, 106] r5_14) (.cond (.tmp 106) (.seq (.region [8] r5_15) .ret) .skip)) (.seq (.draw [1, 2, 4, 11, 12, 115] 7 [] r5_16) (.cond (.tmp 115) (.seq (.region [8] r5_17) .ret) .skip))))) (.seq (.seq (.draw [1, 2, 4, 11, 12, 18] 14 [] r5_18) (.seq (.region [1, 2, 4, 11, 12, 18, 132] r5_19) (.cond (.tmp 132) (.seq (.region [8] r5_20) .ret) .skip))) (.seq (.draw [8] 8 [] r5_21) .ret)))))))))
@[go_sem] def r7_0 : List MO := [oN 2 (.box 25 (ot 0)), oN 4 (.assign (.const (.bool false)))]
@[go_sem] def r7_1 : List MO := [oN 11 (oL 25 2), oN 12 (oC 19 #[ot 11] #[25]), oN 13 (.unOp .not 4 (ot 12))]
@[go_sem] def r7_2 : List MO := [oN 14 (oC 20 #[] #[]), oN 4 (oA 14)]
@[go_sem] def r7_3 : List MO := [oN 16 (oL 25 2), oN 17 (oM 1), oN 18 (oC 43 #[ot 16, ot 17] #[25, 3]), oN 15 (oM 18), oN 19 (oE 15 0), oN 20 (oE 15 1), oN 21 (oE 15 2), oN 5 (oA 19), oN 6 (oA 20), oN 7 (oA 21)]
@[go_sem] def r7_4 : List MO := [oN 22 (oL 25 2), oN 23 (oM 1), oN 24 (oC 44 #[ot 23] #[3]), oN 25 (oC 23 #[ot 22, ot 24] #[25, 4]), oN 8 (oA 25)]
@[go_sem] def r7_5 : List MO := [oN 26 (oM 8), oN 27 (oI .neq 29 26 0 29)]
@[go_sem] def r7_6 : List MO := [oN 28 (oM 7), oN 29 (oM 8), oN 30 (oB .eql 29 28 29 29), oN 31 (oM 30), oG 31 32 (oM 5), oG 31 33 (oI .eql 3 32 0 3), oN 34 (oP 31 33 false), oN 35 (oM 34), oG 35 36 (oM 6), oG 35 37 (oI .eql 3 36 0 3), oN 38 (oP 35 37 false), oN 39 (oM 38), oG 39 40 (oC 20 #[] #[]), oN 41 (oP 39 40 false), oN 4 (oA 41)]
@[go_sem] def r7_7 : List MO := [oN 43 (oL 25 2), oN 44 (oM 1), oN 45 (oC 45 #[ot 43, ot 44] #[25, 3]), oN 42 (oM 45), oN 46 (oE 42 0), oN 47 (oE 42 1), oN 9 (oA 46), oN 10 (oA 47)]
@[go_sem] def r7_8 : List MO := [oN 48 (oM 7), oN 49 (oI .eql 29 48 0 29), oN 50 (oM 49), oG 50 51 (oM 5), oG 50 52 (oM 9), oG 50 53 (oB .eql 3 51 52 3), oN 54 (oP 50 53 false), oN 55 (oM 54), oG 55 56 (oM 6), oG 55 57 (oM 10), oG 55 58 (oB .eql 3 56 57 3), oN 59 (oP 55 58 false), oN 60 (oM 59), oG 60 61 (oC 20 #[] #[]), oN 62 (oP 60 61 false), oN 4 (oA 62)]
@[go_sem] def c7 : MC := (.seq (.region [1, 2] r7_0) (.seq (.seq (.region [1, 2, 13] r7_1) (.cond (.tmp 13) (.seq (.region [4] r7_2) .ret) .skip)) (.seq (.region [1, 2, 5, 6, 7] r7_3) (.seq (.seq (.draw [1, 2, 5, 6, 7, 8] 3 [] r7_4) (.seq (.region [1, 2, 5, 6, 7, 8, 27] r7_5) (.cond (.tmp 27) (.seq (.region [4] r7_6) .ret) .skip))) (.seq (.region [5, 6, 7, 9, 10] r7_7) (.seq (.region [4] r7_8) .ret))))))
@[go_sem] def r17_0 : List MO := [oN 6 (.box 25 (ot 0)), oN 7 (.box 96 (ot 1)), oN 8 (.box 96 (ot 2)), oN 12 (.assign (.const (.bool false)))]
@[go_sem] def r17_1 : List MO := [oN 26 (oL 25 6), oN 27 (oC 19 #[ot 26] #[25]), oN 28 (.unOp .not 4 (ot 27)), oN 29 (oM 28), oH 29 30 (oL 25 6), oH 29 31 (oC 28 #[ot 30] #[25]), oH 29 32 (.unOp .not 4 (ot 31)), oN 33 (.pick (ot 29) (.const (.bool true)) (ot 32)), oN 34 (oM 33), oH 34 35 (oM 5), oH 34 36 (oC 44 #[ot 35] #[3]), oH 34 37 (.unOp .not 4 (ot 36)), oN 38 (.pick (ot 34) (.const (.bool true)) (ot 37)), oN 39 (oM 38), oH 39 40 (oM 3), oH 39 41 (oD .len #[ot 40] #[22]), oH 39 42 (oI .gtr 3 41 8 3), oN 43 (.pick (ot 39) (.const (.bool true)) (ot 42)), oN 44 (oM 43), oH 44 45 (oL 25 6), oH 44 46 (oM 3), oH 44 47 (oC 51 #[ot 45, ot 46] #[25, 22]), oH 44 48 (.unOp .not 4 (ot 47)), oN 49 (.pick (ot 44) (.const (.bool true)) (ot 48)), oN 50 (oM 49), oH 50 51 (oF 96 7 1), oH 50 52 (oL 22 51), oH 50 53 (oD .len #[ot 52] #[22]), oH 50 54 (oI .gtr 3 53 8 3), oN 55 (.pick (ot 50) (.const (.bool true)) (ot 54)), oN 56 (oM 55), oH 56 57 (oL 25 6), oH 56 58 (oL 96 7), oH 56 59 (oC 65 #[ot 57, ot 58] #[25, 96]), oH 56 60 (.unOp .not 4 (ot 59)), oN 61 (.pick (ot 56) (.const (.bool true)) (ot 60)), oN 62 (oM 61), oH 62 63 (oF 96 8 1), oH 62 64 (oL 22 63), oH 62 65 (oD .len #[ot 64] #[22]), oH 62 66 (oI .gtr 3 65 8 3), oN 67 (.pick (ot 62) (.const (.bool true)) (ot 66)), oN 68 (oM 67), oH 68 69 (oL 25 6), oH 68 70 (oL 96 8), oH 68 71 (oC 65 #[ot 69, ot 70] #[25, 96]), oH 68 72 (.unOp .not 4 (ot 71)), oN 73 (.pick (ot 68) (.const (.bool true)) (ot 72))]
@[go_sem] def r17_2 : List MO := [oN 74 (oC 20 #[] #[]), oN 12 (oA 74)]
@[go_sem] def r17_3 : List MO := [oN 76 (oL 25 6), oN 77 (oL 96 7), oN 78 (oC 66 #[ot 76, ot 77] #[25, 96]), oN 75 (oM 78), oN 79 (oE 75 0), oN 80 (oE 75 1), oN 13 (oA 79), oN 14 (oA 80)]
@[go_sem] def r17_4 : List MO := [oN 82 (oL 25 6), oN 83 (oL 96 8), oN 84 (oC 66 #[ot 82, ot 83] #[25, 96]), oN 81 (oM 84), oN 85 (oE 81 0), oN 86 (oE 81 1), oN 15 (oA 85), oN 16 (oA 86)]
@[go_sem] def r17_5 : List MO := [oN 88 (oL 25 6), oN 89 (oM 3), oN 90 (oM 5), oN 91 (oC 47 #[ot 88, ot 89, ot 90] #[25, 22, 3]), oN 87 (oM 91), oN 92 (oE 87 0), oN 93 (oE 87 1), oN 17 (oA 92), oN 18 (oA 93)]
@[go_sem] def r17_6 : List MO := [oN 95 (oL 25 6), oN 96 (oM 5), oN 97 (oC 48 #[ot 95, ot 96] #[25, 3]), oN 94 (oM 97), oN 98 (oE 94 0), oN 99 (oE 94 1), oN 19 (oA 98), oN 20 (oA 99)]
@[go_sem] def r17_7 : List MO := [oN 100 (oM 14), oN 101 (oI .neq 29 100 0 29), oN 102 (oM 101), oH 102 103 (oM 16), oH 102 104 (oI .neq 29 103 0 29), oN 105 (.pick (ot 102) (.const (.bool true)) (ot 104)), oN 106 (oM 105), oH 106 107 (oM 18), oH 106 108 (oI .neq 29 107 0 29), oH 106 109 (oM 108), oG 109 110 (oM 18), oG 109 111 (oI .neq 29 110 7 29), oH 106 112 (oP 109 111 false), oN 113 (.pick (ot 106) (.const (.bool true)) (ot 112)), oN 114 (oM 113), oH 114 115 (oM 18), oH 114 116 (oI .eql 29 115 7 29), oH 114 117 (oM 116), oG 117 118 (oM 20), oG 117 119 (oM 18), oG 117 120 (oB .neq 29 118 119 29), oG 117 121 (oM 120), oH 121 122 (oM 13), oG 117 123 (.pick (ot 121) (.const (.bool true)) (ot 122)), oG 117 124 (oM 123), oH 124 125 (oM 15), oG 117 126 (.pick (ot 124) (.const (.bool true)) (ot 125)), oH 114 127 (oP 117 126 false), oN 128 (.pick (ot 114) (.const (.bool true)) (ot 127)), oN 129 (oM 128), oH 129 130 (oM 18), oH 129 131 (oI .eql 29 130 0 29), oH 129 132 (oM 131), oG 132 133 (oM 20), oG 132 134 (oI .neq 29 133 0 29), oH 129 135 (oP 132 134 false), oH 129 136 (oM 135), oG 136 137 (oM 20), oG 136 138 (oI .neq 29 137 5 29), oH 129 139 (oP 136 138 false), oN 140 (.pick (ot 129) (.const (.bool true)) (ot 139))]
@[go_sem] def r17_8 : List MO := [oN 12 (.assign (.const (.bool false)))]
@[go_sem] def r17_9 : List MO := [oN 141 (oM 18), oN 142 (oI .neq 29 141 0 29)]
@[go_sem] def r17_10 : List MO := [oN 143 (oC 20 #[] #[]), oN 12 (oA 143)]
@[go_sem] def r17_11 : List MO := [oN 144 (oM 13), oN 145 (oM 144), oG 145 146 (oM 15), oN 147 (oP 145 146 false), oN 148 (oM 147), oG 148 149 (oL 96 7), oG 148 150 (oC 67 #[ot 149] #[96]), oG 148 151 (oL 96 8), oG 148 152 (oC 67 #[ot 151] #[96]), oG 148 153 (oC 50 #[ot 150, ot 152] #[22, 22]), oG 148 154 (.unOp .not 4 (ot 153)), oN 155 (oP 148 154 false), oN 21 (oA 155)]
@[go_sem] def r17_12 : List MO := [oN 156 (oM 21), oN 157 (oM 156), oG 157 158 (oM 17), oN 159 (oP 157 158 false), oN 160 (oM 159), oG 160 161 (oL 25 6), oG 160 162 (oL 96 7), oG 160 163 (oL 96 8), oG 160 164 (oM 3), oG 160 165 (oM 5), oG 160 166 (oC 69 #[ot 161, ot 162, ot 163, ot 164, ot 165] #[25, 96, 96, 22, 3]), oG 160 167 (.unOp .not 4 (ot 166)), oN 168 (oP 160 167 false), oN 169 (oM 168), oH 169 170 (oM 17), oH 169 171 (oM 170), oG 171 172 (oM 20), oG 171 173 (oI .neq 29 172 0 29), oH 169 174 (oP 171 173 false), oN 175 (.pick (ot 169) (.const (.bool true)) (ot 174))]
@[go_sem] def r17_13 : List MO := [oN 12 (.assign (.const (.bool false)))]
@[go_sem] def r17_14 : List MO := [oN 176 (oM 17), oN 177 (oM 176), oG 177 178 (oL 25 6), oG 177 179 (oM 4), oG 177 180 (oC 37 #[ot 178, ot 179] #[25, 3]), oN 181 (oP 177 180 false), oN 182 (oM 181), oG 182 183 (oM 3), oG 182 184 (oD .len #[ot 183] #[22]), oG 182 185 (oI .eql 3 184 0 3), oG 182 186 (oM 185), oH 186 187 (oM 4), oH 186 188 (oM 3), oH 186 189 (oM 3), oH 186 190 (oD .len #[ot 189] #[22]), oH 186 191 (oI .sub 3 190 1 3), oH 186 192 (oX 22 188 191), oH 186 193 (oL 3 192), oH 186 194 (oB .gtr 3 187 193 3), oG 182 195 (.pick (ot 186) (.const (.bool true)) (ot 194)), oN 196 (oP 182 195 false)]
@[go_sem] def r17_15 : List MO := [oN 198 (oL 25 6), oN 199 (oM 3), oN 200 (oD .append #[(.const (.slice none 0 0)), ot 199] #[22, 22]), oN 201 (oM 4), oN 202 (.buildSlice 22 1 #[(0, (ot 201))]), oN 203 (oD .append #[ot 200, ot 202] #[22, 22]), oN 204 (oM 5), oN 205 (oC 47 #[ot 198, ot 203, ot 204] #[25, 22, 3]), oN 197 (oM 205), oN 206 (oE 197 0), oN 207 (oE 197 1), oN 22 (oA 206), oN 23 (oA 207)]
@[go_sem] def r17_16 : List MO := [oN 208 (oM 23), oN 209 (oI .neq 29 208 0 29), oN 210 (oM 209), oH 210 211 (oM 22), oH 210 212 (.unOp .not 4 (ot 211)), oN 213 (.pick (ot 210) (.const (.bool true)) (ot 212))]
@[go_sem] def r17_17 : List MO := [oN 12 (.assign (.const (.bool false)))]
@[go_sem] def r17_18 : List MO := [oN 214 (oM 20), oN 215 (oI .neq 29 214 0 29)]
@[go_sem] def r17_19 : List MO := [oN 216 (oC 20 #[] #[]), oN 12 (oA 216)]
@[go_sem] def r17_20 : List MO := [oN 217 (oL 25 6), oN 218 (oM 19), oN 219 (oC 51 #[ot 217, ot 218] #[25, 22]), oN 220 (.unOp .not 4 (ot 219)), oN 221 (oM 220), oH 221 222 (oM 21), oH 221 223 (oM 222), oG 223 224 (oL 25 6), oG 223 225 (oL 96 7), oG 223 226 (oL 96 8), oG 223 227 (oM 19), oG 223 228 (oM 5), oG 223 229 (oC 69 #[ot 224, ot 225, ot 226, ot 227, ot 228] #[25, 96, 96, 22, 3]), oG 223 230 (.unOp .not 4 (ot 229)), oH 221 231 (oP 223 230 false), oN 232 (.pick (ot 221) (.const (.bool true)) (ot 231)), oN 233 (oM 232), oH 233 234 (oM 17), oH 233 235 (oM 234), oG 235 236 (oM 3), oG 235 237 (oM 19), oG 235 238 (oC 32 #[ot 236, ot 237] #[22, 22]), oH 233 239 (oP 235 238 false), oN 240 (.pick (ot 233) (.const (.bool true)) (ot 239))]
@[go_sem] def r17_21 : List MO := [oN 12 (.assign (.const (.bool false)))]
@[go_sem] def r17_22 : List MO := [oN 242 (oL 25 6), oN 243 (oM 19), oN 244 (oM 5), oN 245 (oC 47 #[ot 242, ot 243, ot 244] #[25, 22, 3]), oN 241 (oM 245), oN 246 (oE 241 0), oN 247 (oE 241 1), oN 24 (oA 246), oN 25 (oA 247)]
@[go_sem] def r17_23 : List MO := [oN 248 (oM 25), oN 249 (oI .eql 29 248 0 29), oN 250 (oM 249), oG 250 251 (oM 24), oN 252 (oP 250 251 false), oN 253 (oM 252), oG 253 254 (oC 20 #[] #[]), oN 255 (oP 253 254 false), oN 12 (oA 255)]
@[go_sem] def c17 : MC := (.seq (.region [3, 4, 5, 6, 7, 8] r17_0) (.seq (.seq (.region [3, 4, 5, 6, 7, 8, 73] r17_1) (.cond (.tmp 73) (.seq (.region [12] r17_2) .ret) .skip)) (.seq (.region [3, 4, 5, 6, 7, 8, 13, 14] r17_3) (.seq (.region [3, 4, 5, 6, 7, 8, 13, 14, 15, 16] r17_4) (.seq (.region [3, 4, 5, 6, 7, 8, 13, 14, 15, 16, 17, 18] r17_5) (.seq (.region [3, 4, 5, 6, 7, 8, 13, 14, 15, 16, 17, 18, 19, 20] r17_6) (.seq (.seq (.region [3, 4, 5, 6, 7, 8, 13, 15, 17, 18, 19, 20, 140] r17_7) (.cond (.tmp 140) (.seq (.region [12] r17_8) .ret) .skip)) (.seq (.seq (.region [3, 4, 5, 6, 7, 8, 13, 15, 17, 19, 20, 142] r17_9) (.cond (.tmp 142) (.seq (.region [12] r17_10) .ret) .skip)) (.seq (.draw [3, 4, 5, 6, 7, 8, 17, 19, 20, 21] 8 [] r17_11) (.seq (.seq (.region [3, 4, 5, 6, 7, 8, 17, 19, 20, 21, 175] r17_12) (.cond (.tmp 175) (.seq (.region [12] r17_13) .ret) .skip)) (.seq (.seq (.region [3, 4, 5, 6, 7, 8, 17, 19, 20, 21, 196] r17_14) (.cond (.tmp 196) (.seq (.draw [3, 5, 6, 7, 8, 17, 19, 20, 21, 22, 23] 12 [] r17_15) (.seq (.region [3, 5, 6, 7, 8, 17, 19, 20, 21, 213] r17_16) (.cond (.tmp 213) (.seq (.region [12] r17_17) .ret) .skip))) .skip)) (.seq (.seq (.region [3, 5, 6, 7, 8, 17, 19, 21, 215] r17_18) (.cond (.tmp 215) (.seq (.region [12] r17_19) .ret) .skip)) (.seq (.seq (.region [5, 6, 19, 240] r17_20) (.cond (.tmp 240) (.seq (.region [12] r17_21) .ret) .skip)) (.seq (.region [24, 25] r17_22) (.seq (.region [12] r17_23) .ret)))))))))))))))
theorem m17 : Tryz.f17.body.bind (tM 256 c17) = some c17 := by kernel_rfl
@[go_sem] def r18_0 : List MO := [oN 2 (.box 25 (ot 0)), oN 3 (.box 96 (ot 1)), oN 4 (.assign (.const (.bool false)))]
@[go_sem] def r18_1 : List MO := [oN 10 (oL 25 2), oN 11 (oC 19 #[ot 10] #[25]), oN 12 (.unOp .not 4 (ot 11)), oN 13 (oM 12), oH 13 14 (oF 96 3 1), oH 13 15 (oL 22 14), oH 13 16 (oD .len #[ot 15] #[22]), oH 13 17 (oI .gtr 3 16 8 3), oN 18 (.pick (ot 13) (.const (.bool true)) (ot 17))]
@[go_sem] def r18_2 : List MO := [oN 19 (oC 20 #[] #[]), oN 4 (oA 19)]
@[go_sem] def r18_3 : List MO := [oN 20 (oL 25 2), oN 21 (oC 70 #[ot 20] #[25]), oN 5 (oA 21)]
@[go_sem] def r18_4 : List MO := [oN 23 (oL 25 2), oN 24 (oL 96 3), oN 25 (oC 66 #[ot 23, ot 24] #[25, 96]), oN 22 (oM 25), oN 26 (oE 22 0), oN 27 (oE 22 1), oN 6 (oA 26), oN 7 (oA 27)]
@[go_sem] def r18_5 : List MO := [oN 29 (oL 25 2), oN 30 (oC 41 #[ot 29] #[25]), oN 28 (oM 30), oN 31 (oE 28 0), oN 32 (oE 28 1), oN 8 (oA 31), oN 9 (oA 32)]
@[go_sem] def r18_6 : List MO := [oN 33 (oL 25 2), oN 34 (oC 28 #[ot 33] #[25]), oN 35 (.unOp .not 4 (ot 34))]
@[go_sem] def r18_7 : List MO := [oN 36 (oM 5), oN 37 (oI .eql 29 36 2 29), oN 38 (oM 37), oG 38 39 (oM 7), oG 38 40 (oI .eql 29 39 2 29), oN 41 (oP 38 40 false), oN 42 (oM 41), oG 42 43 (oM 6), oG 42 44 (.unOp .not 4 (ot 43)), oN 45 (oP 42 44 false), oN 46 (oM 45), oG 46 47 (oM 9), oG 46 48 (oI .eql 29 47 2 29), oN 49 (oP 46 48 false), oN 50 (oM 49), oG 50 51 (oM 8), oG 50 52 (.unOp .not 4 (ot 51)), oN 53 (oP 50 52 false), oN 54 (oM 53), oG 54 55 (oC 20 #[] #[]), oN 56 (oP 54 55 false), oN 4 (oA 56)]
@[go_sem] def r18_8 : List MO := [oN 57 (oM 5), oN 58 (oI .neq 29 57 0 29), oN 59 (oM 58), oH 59 60 (oM 9), oH 59 61 (oI .neq 29 60 0 29), oN 62 (.pick (ot 59) (.const (.bool true)) (ot 61)), oN 63 (oM 62), oH 63 64 (oM 8), oH 63 65 (oL 25 2), oH 63 66 (oC 71 #[ot 65] #[25]), oH 63 67 (oB .neq 4 64 66 4), oN 68 (.pick (ot 63) (.const (.bool true)) (ot 67))]
@[go_sem] def r18_9 : List MO := [oN 4 (.assign (.const (.bool false)))]
@[go_sem] def r18_10 : List MO := [oN 69 (oL 25 2), oN 70 (oL 96 3), oN 71 (oC 65 #[ot 69, ot 70] #[25, 96]), oN 72 (.unOp .not 4 (ot 71))]
@[go_sem] def r18_11 : List MO := [oN 73 (oM 7), oN 74 (oI .eql 29 73 2 29), oN 75 (oM 74), oG 75 76 (oM 6), oG 75 77 (.unOp .not 4 (ot 76)), oN 78 (oP 75 77 false), oN 79 (oM 78), oG 79 80 (oC 20 #[] #[]), oN 81 (oP 79 80 false), oN 4 (oA 81)]
@[go_sem] def r18_12 : List MO := [oN 82 (oM 7), oN 83 (oI .eql 29 82 0 29), oN 84 (oM 83), oG 84 85 (oM 6), oG 84 86 (oL 25 2), oG 84 87 (oL 96 3), oG 84 88 (oC 72 #[ot 86, ot 87] #[25, 96]), oG 84 89 (oB .eql 4 85 88 4), oN 90 (oP 84 89 false), oN 91 (oM 90), oG 91 92 (oC 20 #[] #[]), oN 93 (oP 91 92 false), oN 4 (oA 93)]
@[go_sem] def c18 : MC := (.seq (.region [2, 3] r18_0) (.seq (.seq (.region [2, 3, 18] r18_1) (.cond (.tmp 18) (.seq (.region [4] r18_2) .ret) .skip)) (.seq (.region [2, 3, 5] r18_3) (.seq (.region [2, 3, 5, 6, 7] r18_4) (.seq (.region [2, 3, 5, 6, 7, 8, 9] r18_5) (.seq (.seq (.region [2, 3, 5, 6, 7, 8, 9, 35] r18_6) (.cond (.tmp 35) (.seq (.region [4] r18_7) .ret) .skip)) (.seq (.seq (.region [2, 3, 6, 7, 68] r18_8) (.cond (.tmp 68) (.seq (.region [4] r18_9) .ret) .skip)) (.seq (.seq (.region [2, 3, 6, 7, 72] r18_10) (.cond (.tmp 72) (.seq (.region [4] r18_11) .ret) .skip)) (.seq (.region [4] r18_12) .ret)))))))))
theorem m18 : Tryz.f18.body.bind (tM 94 c18) = some c18 := by kernel_rfl
@[go_sem] def r19_0 : List MO := [oN 1 (.box 25 (ot 0)), oN 2 (.assign (.const (.bool false)))]
@[go_sem] def r19_1 : List MO := [oN 3 (oF 25 1 0), oN 4 (oL 22 3), oN 5 (oD .len #[ot 4] #[22]), oN 6 (oI .leq 3 5 7 3), oN 7 (oM 6), oG 7 8 (oF 25 1 4), oG 7 9 (oL 23 8), oG 7 10 (oD .len #[ot 9] #[23]), oG 7 11 (oI .leq 3 10 10 3), oN 12 (oP 7 11 false), oN 2 (oA 12)]
@[go_sem] def c19 : MC := (.seq (.region [1] r19_0) (.seq (.region [2] r19_1) .ret))
theorem m19 : Tryz.f19.body.bind (tM 13 c19) = some c19 := by kernel_rfl
theorem n19 : Callable Tryz.prog 19 := ⟨⟨_, Tryz.func19, by kernel_rfl, rfl⟩⟩
@[go_sem] def r20_0 : List MO := [oN 0 (.assign (.const (.bool false)))]
@[go_sem] def r20_1 : List MO := [oN 28 (oC 73 #[] #[]), oN 29 (oC 41 #[ot 28] #[25]), oN 27 (oM 29), oN 30 (oE 27 0), oN 31 (oE 27 1), oN 1 (oA 30), oN 2 (oA 31)]
@[go_sem] def r20_2 : List MO := [oN 33 (oC 74 #[] #[]), oN 34 (oC 22 #[ot 33] #[25]), oN 32 (oM 34), oN 35 (oE 32 0), oN 36 (oE 32 1), oN 3 (oA 35), oN 4 (oA 36)]
@[go_sem] def r20_3 : List MO := [oN 38 (oC 74 #[] #[]), oN 39 (oC 21 #[ot 38] #[25]), oN 37 (oM 39), oN 40 (oE 37 0), oN 41 (oE 37 1), oN 5 (oA 40), oN 6 (oA 41)]
@[go_sem] def r20_4 : List MO := [oN 43 (oC 74 #[] #[]), oN 44 (oC 34 #[ot 43, oK 1] #[25, 3]), oN 42 (oM 44), oN 45 (oE 42 0), oN 46 (oE 42 1), oN 7 (.alloc 42), ⟨none, none, (oS 42 7 45)⟩, oN 8 (oA 46)]
@[go_sem] def r20_5 : List MO := [oN 48 (oC 74 #[] #[]), oN 49 (oC 35 #[ot 48, oK 0, oK 3] #[25, 3, 3]), oN 47 (oM 49), oN 50 (oE 47 0), oN 51 (oE 47 1), oN 9 (.alloc 42), ⟨none, none, (oS 42 9 50)⟩, oN 10 (oA 51)]
@[go_sem] def r20_6 : List MO := [oN 53 (oC 74 #[] #[]), oN 54 (.buildSlice 22 1 #[(0, (oK 1))]), oN 55 (oC 30 #[ot 53, ot 54] #[25, 22]), oN 52 (oM 55), oN 56 (oE 52 0), oN 57 (oE 52 1), oN 11 (.alloc 42), ⟨none, none, (oS 42 11 56)⟩, oN 12 (oA 57)]
@[go_sem] def r20_7 : List MO := [oN 59 (oC 74 #[] #[]), oN 60 (oC 43 #[ot 59, oK 2] #[25, 3]), oN 58 (oM 60), oN 61 (oE 58 0), oN 62 (oE 58 1), oN 63 (oE 58 2), oN 13 (oA 61), oN 14 (oA 62), oN 15 (oA 63)]
@[go_sem] def r20_8 : List MO := [oN 65 (oC 74 #[] #[]), oN 66 (.buildSlice 22 2 #[(0, (oK 1)), (1, (oK 2))]), oN 67 (oC 47 #[ot 65, ot 66, oK 2] #[25, 22, 3]), oN 64 (oM 67), oN 68 (oE 64 0), oN 69 (oE 64 1), oN 16 (oA 68), oN 17 (oA 69)]
@[go_sem] def r20_9 : List MO := [oN 71 (oC 74 #[] #[]), oN 72 (oC 48 #[ot 71, oK 2] #[25, 3]), oN 70 (oM 72), oN 73 (oE 70 0), oN 74 (oE 70 1), oN 18 (oA 73), oN 19 (oA 74)]
@[go_sem] def r20_10 : List MO := [oN 76 (oC 73 #[] #[]), oN 77 (oC 53 #[ot 76] #[25]), oN 75 (oM 77), oN 78 (oE 75 0), oN 79 (oE 75 1), oN 80 (oE 75 2), oN 20 (oA 78), oN 21 (oA 79), oN 22 (oA 80)]
@[go_sem] def r20_11 : List MO := [oN 82 (oC 73 #[] #[]), oN 83 (oC 54 #[ot 82] #[25]), oN 81 (oM 83), oN 84 (oE 81 0), oN 85 (oE 81 1), oN 23 (oA 84), oN 24 (oA 85)]
@[go_sem] def r20_12 : List MO := [oN 87 (oC 61 #[(.const (.string { data := #[108, 105, 110, 101, 32, 49, 32, 49, 32, 48, 10, 115, 116, 114, 101, 116, 99, 104, 32, 48, 10, 101, 110, 100, 32, 48, 53, 49, 10] }))] #[9]), oN 86 (oM 87), oN 88 (oE 86 0), oN 89 (oE 86 1), oN 25 (.alloc 25), ⟨none, none, (oS 25 25 88)⟩, oN 26 (oA 89)]
@[go_sem] def r20_13 : List MO := [oN 90 (oM 2), oN 91 (oI .neq 29 90 0 29), oN 92 (oM 91), oH 92 93 (oM 4), oH 92 94 (oI .neq 29 93 0 29), oN 95 (.pick (ot 92) (.const (.bool true)) (ot 94)), oN 96 (oM 95), oH 96 97 (oM 6), oH 96 98 (oI .neq 29 97 0 29), oN 99 (.pick (ot 96) (.const (.bool true)) (ot 98)), oN 100 (oM 99), oH 100 101 (oM 8), oH 100 102 (oI .neq 29 101 0 29), oN 103 (.pick (ot 100) (.const (.bool true)) (ot 102)), oN 104 (oM 103), oH 104 105 (oM 10), oH 104 106 (oI .neq 29 105 0 29), oN 107 (.pick (ot 104) (.const (.bool true)) (ot 106)), oN 108 (oM 107), oH 108 109 (oM 12), oH 108 110 (oI .neq 29 109 0 29), oN 111 (.pick (ot 108) (.const (.bool true)) (ot 110)), oN 112 (oM 111), oH 112 113 (oM 15), oH 112 114 (oI .neq 29 113 0 29), oN 115 (.pick (ot 112) (.const (.bool true)) (ot 114)), oN 116 (oM 115), oH 116 117 (oM 17), oH 116 118 (oI .neq 29 117 0 29), oN 119 (.pick (ot 116) (.const (.bool true)) (ot 118)), oN 120 (oM 119), oH 120 121 (oM 19), oH 120 122 (oI .neq 29 121 0 29), oN 123 (.pick (ot 120) (.const (.bool true)) (ot 122)), oN 124 (oM 123), oH 124 125 (oM 22), oH 124 126 (oI .neq 29 125 0 29), oN 127 (.pick (ot 124) (.const (.bool true)) (ot 126)), oN 128 (oM 127), oH 128 129 (oM 24), oH 128 130 (oI .neq 29 129 0 29), oN 131 (.pick (ot 128) (.const (.bool true)) (ot 130)), oN 132 (oM 131), oH 132 133 (oM 26), oH 132 134 (oI .neq 29 133 0 29), oN 135 (.pick (ot 132) (.const (.bool true)) (ot 134))]
@[go_sem] def r20_14 : List MO := [oN 0 (.assign (.const (.bool false)))]
@[go_sem] def r20_15 : List MO := [oN 136 (oM 1), oN 137 (oM 136), oH 137 138 (oM 3), oH 137 139 (.buildSlice 22 1 #[(0, (oK 0))]), oH 137 140 (.buildSlice 22 1 #[(0, (oK 1))]), oH 137 141 (.buildSlice 22 1 #[(0, (oK 2))]), oH 137 142 (.buildSlice 32 3 #[(0, (ot 139)), (1, (ot 140)), (2, (ot 141))]), oH 137 143 (oC 26 #[ot 138, ot 142] #[32, 32]), oH 137 144 (.unOp .not 4 (ot 143)), oN 145 (.pick (ot 137) (.const (.bool true)) (ot 144)), oN 146 (oM 145), oH 146 147 (oM 5), oH 146 148 (.buildSlice 28 3 #[(0, (oK 2)), (1, (oK 2)), (2, (oK 2))]), oH 146 149 (oC 24 #[ot 147, ot 148] #[28, 28]), oH 146 150 (.unOp .not 4 (ot 149)), oN 151 (.pick (ot 146) (.const (.bool true)) (ot 150)), oN 152 (oM 151), oH 152 153 (oL 42 7), oH 152 154 (.build 42 #[(0, (oK 78)), (1, (oK 94))]), oH 152 155 (oB .neq 42 153 154 42), oN 156 (.pick (ot 152) (.const (.bool true)) (ot 155)), oN 157 (oM 156), oH 157 158 (oL 42 9), oH 157 159 (.build 42 #[(0, (oK 8)), (1, (oK 15))]), oH 157 160 (oB .neq 42 158 159 42), oN 161 (.pick (ot 157) (.const (.bool true)) (ot 160)), oN 162 (oM 161), oH 162 163 (oL 42 11), oH 162 164 (oL 42 9), oH 162 165 (oB .neq 42 163 164 42), oN 166 (.pick (ot 162) (.const (.bool true)) (ot 165))]
@[go_sem] def r20_16 : List MO := [oN 0 (.assign (.const (.bool false)))]
@[go_sem] def r20_17 : List MO := [oN 167 (oM 13), oN 168 (oI .eql 3 167 1 3), oN 169 (oM 168), oG 169 170 (oM 14), oG 169 171 (oI .eql 3 170 2 3), oN 172 (oP 169 171 false), oN 173 (oM 172), oG 173 174 (oM 16), oN 175 (oP 173 174 false), oN 176 (oM 175), oG 176 177 (oM 18), oG 176 178 (.buildSlice 22 2 #[(0, (oK 1)), (1, (oK 2))]), oG 176 179 (oC 50 #[ot 177, ot 178] #[22, 22]), oN 180 (oP 176 179 false), oN 181 (oM 180), oG 181 182 (oM 20), oG 181 183 (oI .eql 3 182 0 3), oN 184 (oP 181 183 false), oN 185 (oM 184), oG 185 186 (oM 21), oG 185 187 (oI .eql 3 186 2 3), oN 188 (oP 185 187 false), oN 189 (oM 188), oG 189 190 (oM 23), oG 189 191 (.buildSlice 22 1 #[(0, (oK 0))]), oG 189 192 (oC 50 #[ot 190, ot 191] #[22, 22]), oN 193 (oP 189 192 false), oN 194 (oM 193), oG 194 195 (oL 25 25), oG 194 196 (oC 62 #[ot 195] #[25]), oG 194 197 (.binOp .eql 9 (ot 196) (.const (.string { data := #[108, 105, 110, 101, 32, 49, 32, 49, 32, 48, 10, 115, 116, 114, 101, 116, 99, 104, 32, 48, 10, 101, 110, 100, 32, 48, 53, 49, 10] })) 9), oN 198 (oP 194 197 false), oN 0 (oA 198)]
@[go_sem] def c20 : MC := (.seq (.region [] r20_0) (.seq (.region [1, 2] r20_1) (.seq (.region [1, 2, 3, 4] r20_2) (.seq (.region [1, 2, 3, 4, 5, 6] r20_3) (.seq (.region [1, 2, 3, 4, 5, 6, 7, 8] r20_4) (.seq (.region [1, 2, 3, 4, 5, 6, 7, 8, 9, 10] r20_5) (.seq (.region [1, 2, 3, 4, 5, 6, 7, 8, 9, 10, 11, 12] r20_6) (.seq (.region [1, 2, 3, 4, 5, 6, 7, 8, 9, 10, 11, 12, 13, 14, 15] r20_7) (.seq (.region [1, 2, 3, 4, 5, 6, 7, 8, 9, 10, 11, 12, 13, 14, 15, 16, 17] r20_8) (.seq (.region [1, 2, 3, 4, 5, 6, 7, 8, 9, 10, 11, 12, 13, 14, 15, 16, 17, 18, 19] r20_9) (.seq (.region [1, 2, 3, 4, 5, 6, 7, 8, 9, 10, 11, 12, 13, 14, 15, 16, 17, 18, 19, 20, 21, 22] r20_10) (.seq (.region [1, 2, 3, 4, 5, 6, 7, 8, 9, 10, 11, 12, 13, 14, 15, 16, 17, 18, 19, 20, 21, 22, 23, 24] r20_11) (.seq (.region [1, 2, 3, 4, 5, 6, 7, 8, 9, 10, 11, 12, 13, 14, 15, 16, 17, 18, 19, 20, 21, 22, 23, 24, 25, 26] r20_12) (.seq (.seq (.region [1, 3, 5, 7, 9, 11, 13, 14, 16, 18, 20, 21, 23, 25, 135] r20_13) (.cond (.tmp 135) (.seq (.region [0] r20_14) .ret) .skip)) (.seq (.seq (.region [13, 14, 16, 18, 20, 21, 23, 25, 166] r20_15) (.cond (.tmp 166) (.seq (.region [0] r20_16) .ret) .skip)) (.seq (.region [0] r20_17) .ret))))))))))))))))
theorem m20 : Tryz.f20.body.bind (tM 199 c20) = some c20 := by kernel_rfl
theorem n20 : Callable Tryz.prog 20 := ⟨⟨_, Tryz.func20, by kernel_rfl, rfl⟩⟩
@[go_sem] def r21_0 : List MO := [oN 1 (.box 25 (ot 0)), oN 2 (.assign (.const (.slice none 0 0))), oN 3 (.assign (oK 0))]
@[go_sem] def r21_1 : List MO := [oN 13 (oL 25 1), oN 14 (oC 75 #[ot 13, (.const (.bool true))] #[25, 4]), oN 12 (oM 14), oN 15 (oE 12 0), oN 16 (oE 12 1), oN 4 (.alloc 108), ⟨none, none, (oS 108 4 15)⟩, oN 5 (oA 16)]
@[go_sem] def r21_2 : List MO := [oN 17 (oM 5), oN 18 (oI .neq 29 17 0 29)]
@[go_sem] def r21_3 : List MO := [oN 19 (oM 5), oN 2 (.assign (.const (.slice none 0 0))), oN 3 (oA 19)]
@[go_sem] def r21_4 : List MO := [oN 6 (.assign (.const (.slice none 0 0)))]
@[go_sem] def r21_5 : List MO := [oN 20 (oF 25 1 0), oN 21 (oL 22 20), oN 22 (oD .len #[ot 21] #[22]), oN 23 (.move (oK 0))]
@[go_sem] def r21_6 : List MO := [oN 24 (oB .lss 3 23 22 3)]
@[go_sem] def r21_7 : List MO := [oN 25 (oM 23), oN 7 (oA 25)]
@[go_sem] def r21_8 : List MO := [oN 8 (.assign (oK 0))]
@[go_sem] def r21_9 : List MO := [oN 26 (oF 108 4 1), oN 27 (oL 106 26), oN 28 (oD .len #[ot 27] #[106]), oN 29 (.move (oK 0))]
@[go_sem] def r21_10 : List MO := [oN 30 (oB .lss 3 29 28 3)]
@[go_sem] def r21_11 : List MO := [oN 31 (oX 106 27 29), oN 32 (oL 113 31), oN 10 (.alloc 113), ⟨none, none, (oS 113 10 32)⟩]
@[go_sem] def r21_12 : List MO := [oN 33 (oF 113 10 0), oN 34 (oL 22 33), oN 35 (oM 7), oN 36 (oC 76 #[ot 34, ot 35] #[22, 3])]
@[go_sem] def r21_13 : List MO := [oN 37 (oM 8), oN 38 (oI .add 3 37 1 3), oN 8 (oA 38)]
@[go_sem] def r21_14 : List MO := [oN 39 (oI .add 3 29 1 3), oN 29 (oM 39)]
def l21_1 : MC := (.seq (.region [4, 6, 7, 8, 22, 23, 27, 28, 29, 30] r21_10) (.seq (.cond (.tmp 30) .skip (.exit 2)) (.seq (.block 3 (.seq (.region [4, 6, 7, 8, 10, 22, 23, 27, 28, 29] r21_11) (.seq (.region [4, 6, 7, 8, 22, 23, 27, 28, 29, 36] r21_12) (.cond (.tmp 36) (.region [4, 6, 7, 8, 22, 23, 27, 28, 29] r21_13) .skip)))) (.region [4, 6, 7, 8, 22, 23, 27, 28, 29] r21_14))))
@[go_sem] def r21_15 : List MO := [oN 11 (.assign (oK 2))]
@[go_sem] def r21_16 : List MO := [oN 40 (oM 8)]
@[go_sem] def r21_17 : List MO := [oN 42 (oI .eql 3 40 0 3), oN 41 (oA 42)]
@[go_sem] def r21_18 : List MO := [oN 11 (.assign (oK 1))]
@[go_sem] def r21_19 : List MO := [oN 44 (oF 108 4 1), oN 45 (oL 106 44), oN 46 (oD .len #[ot 45] #[106]), oN 47 (oB .eql 3 40 46 3), oN 43 (oA 47)]
@[go_sem] def r21_20 : List MO := [oN 11 (.assign (oK 3))]
@[go_sem] def r21_21 : List MO := [oN 48 (oM 6), oN 49 (oM 11), oN 50 (.buildSlice 28 1 #[(0, (ot 49))]), oN 51 (oD .append #[ot 48, ot 50] #[28, 28]), oN 6 (oA 51)]
@[go_sem] def r21_22 : List MO := [oN 52 (oI .add 3 23 1 3), oN 23 (oM 52)]
def l21_0 : MC := (.seq (.region [4, 6, 22, 23, 24] r21_6) (.seq (.cond (.tmp 24) .skip (.exit 0)) (.seq (.block 1 (.seq (.region [4, 6, 7, 22, 23] r21_7) (.seq (.region [4, 6, 7, 8, 22, 23] r21_8) (.seq (.seq (.region [4, 6, 7, 8, 22, 23, 27, 28, 29] r21_9) (.block 2 (.loop l21_1))) (.seq (.region [4, 6, 8, 11, 22, 23] r21_15) (.seq (.seq (.region [4, 6, 11, 22, 23, 40] r21_16) (.block 4 (.seq (.region [4, 6, 11, 22, 23, 40, 41] r21_17) (.cond (.tmp 41) (.region [4, 6, 11, 22, 23] r21_18) (.seq (.region [4, 6, 11, 22, 23, 43] r21_19) (.cond (.tmp 43) (.region [4, 6, 11, 22, 23] r21_20) .skip)))))) (.region [4, 6, 22, 23] r21_21))))))) (.region [4, 6, 22, 23] r21_22))))
@[go_sem] def r21_23 : List MO := [oN 53 (oM 6), oN 2 (oA 53), oN 3 (.assign (oK 0))]
@[go_sem] def c21 : MC := (.seq (.region [1] r21_0) (.seq (.region [1, 4, 5] r21_1) (.seq (.seq (.region [1, 4, 5, 18] r21_2) (.cond (.tmp 18) (.seq (.region [2, 3] r21_3) .ret) .skip)) (.seq (.region [1, 4, 6] r21_4) (.seq (.seq (.region [4, 6, 22, 23] r21_5) (.block 0 (.loop l21_0))) (.seq (.region [2, 3] r21_23) .ret))))))
theorem m21 : Tryz.f21.body.bind (tM 54 c21) = some c21 := by kernel_rfl
theorem n21 : Callable Tryz.prog 21 := ⟨⟨_, Tryz.func21, by kernel_rfl, rfl⟩⟩
@[go_sem] def r22_0 : List MO := [oN 1 (.box 25 (ot 0)), oN 2 (.assign (.const (.slice none 0 0))), oN 3 (.assign (oK 0))]
@[go_sem] def r22_1 : List MO := [oN 10 (oL 25 1), oN 11 (oC 75 #[ot 10, (.const (.bool true))] #[25, 4]), oN 9 (oM 11), oN 12 (oE 9 0), oN 13 (oE 9 1), oN 4 (.alloc 108), ⟨none, none, (oS 108 4 12)⟩, oN 5 (oA 13)]
@[go_sem] def r22_2 : List MO := [oN 14 (oM 5), oN 15 (oI .neq 29 14 0 29)]
@[go_sem] def r22_3 : List MO := [oN 16 (oM 5), oN 2 (.assign (.const (.slice none 0 0))), oN 3 (oA 16)]
@[go_sem] def r22_4 : List MO := [oN 6 (.assign (.const (.slice none 0 0)))]
@[go_sem] def r22_5 : List MO := [oN 17 (oF 108 4 1), oN 18 (oL 106 17), oN 19 (oD .len #[ot 18] #[106]), oN 20 (.move (oK 0))]
@[go_sem] def r22_6 : List MO := [oN 21 (oB .lss 3 20 19 3)]
@[go_sem] def r22_7 : List MO := [oN 22 (oX 106 18 20), oN 23 (oL 113 22), oN 8 (.alloc 113), ⟨none, none, (oS 113 8 23)⟩]
@[go_sem] def r22_8 : List MO := [oN 24 (oM 6), oN 25 (oF 113 8 0), oN 26 (oL 22 25), oN 27 (.buildSlice 32 1 #[(0, (ot 26))]), oN 28 (oD .append #[ot 24, ot 27] #[32, 32]), oN 6 (oA 28)]
@[go_sem] def r22_9 : List MO := [oN 29 (oI .add 3 20 1 3), oN 20 (oM 29)]
def l22_0 : MC := (.seq (.region [6, 18, 19, 20, 21] r22_6) (.seq (.cond (.tmp 21) .skip (.exit 0)) (.seq (.block 1 (.seq (.region [6, 8, 18, 19, 20] r22_7) (.region [6, 18, 19, 20] r22_8))) (.region [6, 18, 19, 20] r22_9))))
@[go_sem] def r22_10 : List MO := [oN 30 (oM 6), oN 2 (oA 30), oN 3 (.assign (oK 0))]
@[go_sem] def c22 : MC := (.seq (.region [1] r22_0) (.seq (.region [4, 5] r22_1) (.seq (.seq (.region [4, 5, 15] r22_2) (.cond (.tmp 15) (.seq (.region [2, 3] r22_3) .ret) .skip)) (.seq (.region [4, 6] r22_4) (.seq (.seq (.region [6, 18, 19, 20] r22_5) (.block 0 (.loop l22_0))) (.seq (.region [2, 3] r22_10) .ret))))))
theorem m22 : Tryz.f22.body.bind (tM 31 c22) = some c22 := by kernel_rfl
theorem n22 : Callable Tryz.prog 22 := ⟨⟨_, Tryz.func22, by kernel_rfl, rfl⟩⟩
@[go_sem] def r24_0 : List MO := [oN 4 (.assign (.const (.bool false)))]
@[go_sem] def r24_1 : List MO := [oN 6 (oM 0), oN 7 (oD .len #[ot 6] #[28]), oN 8 (oM 1), oN 9 (oD .len #[ot 8] #[28]), oN 10 (oB .neq 3 7 9 3)]
@[go_sem] def r24_2 : List MO := [oN 4 (.assign (.const (.bool false)))]
@[go_sem] def r24_3 : List MO := [oN 5 (.assign (oK 0))]
@[go_sem] def r24_4 : List MO := [oN 11 (oM 5), oN 12 (oM 0), oN 13 (oD .len #[ot 12] #[28]), oN 14 (oB .lss 3 11 13 3)]
@[go_sem] def r24_6 : List MO := [oN 17 (oM 0), oN 18 (oM 5), oN 19 (oX 28 17 18), oN 20 (oL 48 19), oN 21 (oM 1), oN 22 (oM 5), oN 23 (oX 28 21 22), oN 24 (oL 48 23), oN 25 (oB .neq 48 20 24 48)]
@[go_sem] def r24_7 : List MO := [oN 4 (.assign (.const (.bool false)))]
@[go_sem] def r24_5 : List MO := [oN 15 (oM 5), oN 16 (oI .add 3 15 1 3), oN 5 (oA 16)]
def l24_0 : MC := (.seq (.seq (.region [0, 1, 5, 14] r24_4) (.cond (.tmp 14) .skip (.exit 0))) (.seq (.block 1 (.seq (.draw [0, 1, 5, 25] 8 [] r24_6) (.cond (.tmp 25) (.seq (.region [4] r24_7) .ret) .skip))) (.region [0, 1, 5] r24_5)))
@[go_sem] def r24_8 : List MO := [oN 4 (.assign (.const (.bool true)))]
@[go_sem] def c24 : MC := (.seq (.region [0, 1] r24_0) (.seq (.seq (.region [0, 1, 10] r24_1) (.cond (.tmp 10) (.seq (.region [4] r24_2) .ret) .skip)) (.seq (.seq (.region [0, 1, 5] r24_3) (.block 0 (.loop l24_0))) (.seq (.region [4] r24_8) .ret))))
theorem m24 : Tryz.f24.body.bind (tN 26 [0, 1, 2, 3, 4, 6, 7, 5, 8] c24) = some c24 := by kernel_rfl
theorem n24 : Callable Tryz.prog 24 := ⟨⟨_, Tryz.func24, by kernel_rfl, rfl⟩⟩
@[go_sem] def r26_0 : List MO := [oN 4 (.assign (.const (.bool false)))]
@[go_sem] def r26_1 : List MO := [oN 6 (oM 0), oN 7 (oD .len #[ot 6] #[32]), oN 8 (oM 1), oN 9 (oD .len #[ot 8] #[32]), oN 10 (oB .neq 3 7 9 3)]
@[go_sem] def r26_2 : List MO := [oN 4 (.assign (.const (.bool false)))]
@[go_sem] def r26_3 : List MO := [oN 5 (.assign (oK 0))]
@[go_sem] def r26_4 : List MO := [oN 11 (oM 5), oN 12 (oM 0), oN 13 (oD .len #[ot 12] #[32]), oN 14 (oB .lss 3 11 13 3)]
@[go_sem] def r26_6 : List MO := [oN 17 (oM 0), oN 18 (oM 5), oN 19 (oX 32 17 18), oN 20 (oL 22 19), oN 21 (oM 1), oN 22 (oM 5), oN 23 (oX 32 21 22), oN 24 (oL 22 23), oN 25 (oC 50 #[ot 20, ot 24] #[22, 22]), oN 26 (.unOp .not 4 (ot 25))]
@[go_sem] def r26_7 : List MO := [oN 4 (.assign (.const (.bool false)))]
@[go_sem] def r26_5 : List MO := [oN 15 (oM 5), oN 16 (oI .add 3 15 1 3), oN 5 (oA 16)]
def l26_0 : MC := (.seq (.seq (.region [0, 1, 5, 14] r26_4) (.cond (.tmp 14) .skip (.exit 0))) (.seq (.block 1 (.seq (.draw [0, 1, 5, 26] 8 [] r26_6) (.cond (.tmp 26) (.seq (.region [4] r26_7) .ret) .skip))) (.region [0, 1, 5] r26_5)))
@[go_sem] def r26_8 : List MO := [oN 4 (.assign (.const (.bool true)))]
@[go_sem] def c26 : MC := (.seq (.region [0, 1] r26_0) (.seq (.seq (.region [0, 1, 10] r26_1) (.cond (.tmp 10) (.seq (.region [4] r26_2) .ret) .skip)) (.seq (.seq (.region [0, 1, 5] r26_3) (.block 0 (.loop l26_0))) (.seq (.region [4] r26_8) .ret))))
theorem m26 : Tryz.f26.body.bind (tN 27 [0, 1, 2, 3, 4, 6, 7, 5, 8] c26) = some c26 := by kernel_rfl
theorem n26 : Callable Tryz.prog 26 := ⟨⟨_, Tryz.func26, by kernel_rfl, rfl⟩⟩
@[go_sem] def r27_0 : List MO := [oN 1 (.box 25 (ot 0)), oN 2 (.assign (.const (.slice none 0 0)))]
@[go_sem] def r27_1 : List MO := [oN 3 (.assign (.const (.slice none 0 0)))]
@[go_sem] def r27_2 : List MO := [oN 8 (oL 25 1), oN 9 (oC 78 #[ot 8] #[25]), oN 4 (oA 9)]
@[go_sem] def r27_3 : List MO := [oN 5 (.assign (oK 0))]
@[go_sem] def r27_4 : List MO := [oN 10 (oM 5), oN 11 (oM 4), oN 12 (oD .len #[ot 11] #[32]), oN 13 (oB .lss 3 10 12 3)]
@[go_sem] def r27_6 : List MO := [oN 17 (oL 25 1), oN 18 (oM 4), oN 19 (oM 5), oN 20 (oX 32 18 19), oN 21 (oL 22 20), oN 22 (oC 79 #[ot 17, ot 21] #[25, 22]), oN 16 (oM 22), oN 23 (oE 16 0), oN 24 (oE 16 1), oN 6 (oA 23), oN 7 (oA 24)]
@[go_sem] def r27_7 : List MO := [oN 25 (oM 7)]
@[go_sem] def r27_8 : List MO := [oN 26 (oM 3), oN 27 (oM 4), oN 28 (oM 5), oN 29 (oX 32 27 28), oN 30 (oL 22 29), oN 31 (.buildSlice 32 1 #[(0, (ot 30))]), oN 32 (oD .append #[ot 26, ot 31] #[32, 32]), oN 3 (oA 32)]
@[go_sem] def r27_5 : List MO := [oN 14 (oM 5), oN 15 (oI .add 3 14 1 3), oN 5 (oA 15)]
def l27_0 : MC := (.seq (.seq (.region [1, 3, 4, 5, 13] r27_4) (.cond (.tmp 13) .skip (.exit 0))) (.seq (.block 1 (.seq (.draw [1, 3, 4, 5, 7] 10 [] r27_6) (.seq (.region [1, 3, 4, 5, 25] r27_7) (.cond (.tmp 25) (.region [1, 3, 4, 5] r27_8) .skip)))) (.region [1, 3, 4, 5] r27_5)))
@[go_sem] def r27_9 : List MO := [oN 33 (oM 3), oN 2 (oA 33)]
@[go_sem] def c27 : MC := (.seq (.region [1] r27_0) (.seq (.region [1, 3] r27_1) (.seq (.region [1, 3, 4] r27_2) (.seq (.seq (.region [1, 3, 4, 5] r27_3) (.block 0 (.loop l27_0))) (.seq (.region [2] r27_9) .ret)))))
theorem m27 : Tryz.f27.body.bind (tN 34 [0, 1, 2, 3, 4, 6, 7, 8, 5, 9] c27) = some c27 := by kernel_rfl
theorem n27 : Callable Tryz.prog 27 := ⟨⟨_, Tryz.func27, by kernel_rfl, rfl⟩⟩
@[go_sem] def r28_0 : List MO := [oN 1 (.box 25 (ot 0)), oN 2 (.assign (.const (.bool false)))]
@[go_sem] def r28_1 : List MO := [oN 3 (.assign (oK 0))]
@[go_sem] def r28_2 : List MO := [oN 5 (oM 3), oN 6 (oF 25 1 0), oN 7 (oL 22 6), oN 8 (oD .len #[ot 7] #[22]), oN 9 (oB .lss 3 5 8 3)]
@[go_sem] def r28_4 : List MO := [oN 12 (oF 25 1 0), oN 13 (oL 22 12), oN 14 (oM 3), oN 15 (oX 22 13 14), oN 16 (oL 3 15), oN 17 (oC 80 #[ot 16, oK 0, oK 60] #[3, 3, 3]), oN 18 (.unOp .not 4 (ot 17))]
@[go_sem] def r28_5 : List MO := [oN 2 (.assign (.const (.bool false)))]
@[go_sem] def r28_3 : List MO := [oN 10 (oM 3), oN 11 (oI .add 3 10 1 3), oN 3 (oA 11)]
def l28_0 : MC := (.seq (.seq (.region [1, 3, 9] r28_2) (.cond (.tmp 9) .skip (.exit 0))) (.seq (.block 1 (.seq (.region [1, 3, 18] r28_4) (.cond (.tmp 18) (.seq (.region [2] r28_5) .ret) .skip))) (.region [1, 3] r28_3)))
@[go_sem] def r28_6 : List MO := [oN 4 (.assign (oK 0))]
@[go_sem] def r28_7 : List MO := [oN 19 (oM 4), oN 20 (oF 25 1 4), oN 21 (oL 23 20), oN 22 (oD .len #[ot 21] #[23]), oN 23 (oB .lss 3 19 22 3)]
@[go_sem] def r28_9 : List MO := [oN 26 (oL 25 1), oN 27 (oF 25 1 4), oN 28 (oL 23 27), oN 29 (oM 4), oN 30 (oX 23 28 29), oN 31 (oL 82 30), oN 32 (oC 81 #[ot 26, ot 31] #[25, 82]), oN 33 (.unOp .not 4 (ot 32))]
@[go_sem] def r28_10 : List MO := [oN 2 (.assign (.const (.bool false)))]
@[go_sem] def r28_8 : List MO := [oN 24 (oM 4), oN 25 (oI .add 3 24 1 3), oN 4 (oA 25)]
def l28_1 : MC := (.seq (.seq (.region [1, 4, 23] r28_7) (.cond (.tmp 23) .skip (.exit 2))) (.seq (.block 3 (.seq (.draw [1, 4, 33] 6 [] r28_9) (.cond (.tmp 33) (.seq (.region [2] r28_10) .ret) .skip))) (.region [1, 4] r28_8)))
@[go_sem] def r28_11 : List MO := [oN 34 (oF 25 1 0), oN 35 (oL 22 34), oN 36 (oD .len #[ot 35] #[22]), oN 37 (oC 80 #[ot 36, oK 1, oK 5] #[3, 3, 3]), oN 38 (oM 37), oG 38 39 (oF 25 1 1), oG 38 40 (oL 3 39), oG 38 41 (oC 80 #[ot 40, oK 1, oK 60] #[3, 3, 3]), oN 42 (oP 38 41 false), oN 43 (oM 42), oG 43 44 (oF 25 1 2), oG 43 45 (oL 3 44), oG 43 46 (oF 25 1 1), oG 43 47 (oL 3 46), oG 43 48 (oC 80 #[ot 45, ot 47, oK 60] #[3, 3, 3]), oN 49 (oP 43 48 false), oN 50 (oM 49), oG 50 51 (oF 25 1 3), oG 50 52 (oL 3 51), oG 50 53 (oC 80 #[ot 52, oK 0, oK 2] #[3, 3, 3]), oN 54 (oP 50 53 false), oN 55 (oM 54), oG 55 56 (oF 25 1 4), oG 55 57 (oL 23 56), oG 55 58 (oD .len #[ot 57] #[23]), oG 55 59 (oI .leq 3 58 8 3), oN 60 (oP 55 59 false), oN 2 (oA 60)]
@[go_sem] def c28 : MC := (.seq (.region [1] r28_0) (.seq (.seq (.region [1, 3] r28_1) (.block 0 (.loop l28_0))) (.seq (.seq (.region [1, 4] r28_6) (.block 2 (.loop l28_1))) (.seq (.region [2] r28_11) .ret))))
theorem m28 : Tryz.f28.body.bind (tN 61 [0, 1, 2, 4, 5, 3, 6, 7, 9, 10, 8, 11] c28) = some c28 := by kernel_rfl
theorem n28 : Callable Tryz.prog 28 := ⟨⟨_, Tryz.func28, by kernel_rfl, rfl⟩⟩
@[go_sem] def r30_0 : List MO := [oN 2 (.box 25 (ot 0)), oN 4 (.alloc 42), oN 5 (.assign (oK 0))]
@[go_sem] def r30_1 : List MO := [oN 10 (oL 25 2), oN 11 (oC 82 #[ot 10] #[25]), oN 12 (.unOp .not 4 (ot 11)), oN 13 (oM 12), oH 13 14 (oM 1), oH 13 15 (oD .len #[ot 14] #[22]), oH 13 16 (oI .gtr 3 15 2 3), oN 17 (.pick (ot 13) (.const (.bool true)) (ot 16))]
@[go_sem] def r30_2 : List MO := [oN 18 (.build 42 #[]), ⟨none, none, (oS 42 4 18)⟩, oN 5 (.assign (oK 2))]
@[go_sem] def r30_3 : List MO := [oN 19 (oM 1), oN 20 (oD .len #[ot 19] #[22]), oN 21 (.move (oK 0))]
@[go_sem] def r30_4 : List MO := [oN 22 (oB .lss 3 21 20 3)]
@[go_sem] def r30_5 : List MO := [oN 23 (oM 21), oN 24 (oX 22 19 21), oN 25 (oL 3 24), oN 6 (oA 23), oN 7 (oA 25)]
@[go_sem] def r30_6 : List MO := [oN 26 (oM 7), oN 27 (oF 25 2 0), oN 28 (oL 22 27), oN 29 (oD .len #[ot 28] #[22]), oN 30 (oI .sub 3 29 1 3), oN 31 (oC 83 #[ot 26, oK 0, ot 30] #[3, 3, 3]), oN 32 (.unOp .not 4 (ot 31)), oN 33 (oM 32), oH 33 34 (oM 6), oH 33 35 (oI .gtr 3 34 0 3), oH 33 36 (oM 35), oG 36 37 (oM 7), oG 36 38 (oM 1), oG 36 39 (oM 6), oG 36 40 (oI .sub 3 39 1 3), oG 36 41 (oX 22 38 40), oG 36 42 (oL 3 41), oG 36 43 (oB .leq 3 37 42 3), oH 33 44 (oP 36 43 false), oN 45 (.pick (ot 33) (.const (.bool true)) (ot 44))]
@[go_sem] def r30_7 : List MO := [oN 46 (.build 42 #[]), ⟨none, none, (oS 42 4 46)⟩, oN 5 (.assign (oK 2))]
@[go_sem] def r30_8 : List MO := [oN 47 (oI .add 3 21 1 3), oN 21 (oM 47)]
def l30_0 : MC := (.seq (.region [1, 2, 4, 19, 20, 21, 22] r30_4) (.seq (.cond (.tmp 22) .skip (.exit 0)) (.seq (.block 1 (.seq (.region [1, 2, 4, 6, 7, 19, 20, 21] r30_5) (.seq (.region [1, 2, 4, 19, 20, 21, 45] r30_6) (.cond (.tmp 45) (.seq (.region [4, 5] r30_7) .ret) .skip)))) (.region [1, 2, 4, 19, 20, 21] r30_8))))
@[go_sem] def r30_9 : List MO := [oN 49 (oL 25 2), oN 50 (oM 1), oN 51 (oC 84 #[ot 49, ot 50] #[25, 22]), oN 48 (oM 51), oN 52 (oE 48 0), oN 53 (oE 48 1), oN 8 (oA 52), oN 9 (oA 53)]
@[go_sem] def r30_10 : List MO := [oN 54 (oM 9), oN 55 (.unOp .not 4 (ot 54))]
@[go_sem] def r30_11 : List MO := [oN 56 (.build 42 #[]), ⟨none, none, (oS 42 4 56)⟩, oN 5 (.assign (oK 5))]
@[go_sem] def r30_12 : List MO := [oN 57 (oM 1), oN 58 (oM 8), oN 59 (.build 113 #[(0, (ot 57)), (1, (ot 58))]), oN 60 (oL 25 2), oN 61 (oF 25 2 0), oN 62 (oL 22 61), oN 63 (oD .len #[ot 62] #[22]), oN 64 (oC 85 #[ot 59, ot 60, oK 0, ot 63] #[113, 25, 3, 3]), ⟨none, none, (oS 42 4 64)⟩, oN 5 (.assign (oK 0))]
@[go_sem] def c30 : MC := (.seq (.region [1, 2, 4] r30_0) (.seq (.seq (.region [1, 2, 4, 17] r30_1) (.cond (.tmp 17) (.seq (.region [4, 5] r30_2) .ret) .skip)) (.seq (.seq (.region [1, 2, 4, 19, 20, 21] r30_3) (.block 0 (.loop l30_0))) (.seq (.region [1, 2, 4, 8, 9] r30_9) (.seq (.seq (.region [1, 2, 4, 8, 55] r30_10) (.cond (.tmp 55) (.seq (.region [4, 5] r30_11) .ret) .skip)) (.seq (.region [4, 5] r30_12) .ret))))))
theorem m30 : Tryz.f30.body.bind (tM 65 c30) = some c30 := by kernel_rfl
theorem n30 : Callable Tryz.prog 30 := ⟨⟨_, Tryz.func30, by kernel_rfl, rfl⟩⟩
@[go_sem] def r34_0 : List MO := [oN 2 (.box 25 (ot 0)), oN 3 (.box 3 (ot 1)), oN 4 (.alloc 42), oN 5 (.assign (oK 0))]
@[go_sem] def r34_1 : List MO := [oN 9 (oL 25 2), oN 10 (oL 25 2), oN 11 (oL 3 3), oN 12 (oC 86 #[ot 10, ot 11] #[25, 3]), oN 13 (oC 75 #[ot 9, ot 12] #[25, 4]), oN 8 (oM 13), oN 14 (oE 8 0), oN 15 (oE 8 1), oN 6 (.alloc 108), ⟨none, none, (oS 108 6 14)⟩, oN 7 (oA 15)]
@[go_sem] def r34_2 : List MO := [oN 16 (oM 7), oN 17 (oI .neq 29 16 0 29)]
@[go_sem] def r34_3 : List MO := [oN 18 (.build 42 #[]), oN 19 (oM 7), ⟨none, none, (oS 42 4 18)⟩, oN 5 (oA 19)]
@[go_sem] def r34_4 : List MO := [oN 20 (oL 108 6), oN 21 (.makeFunc (.func 88) #[] #[(ot 2), (ot 3)]), oN 22 (oC 87 #[ot 20, ot 21] #[108, 123]), ⟨none, none, (oS 42 4 22)⟩, oN 5 (.assign (oK 0))]
@[go_sem] def c34 : MC := (.seq (.region [2, 3, 4] r34_0) (.seq (.draw [2, 3, 4, 6, 7] 10 [false, false, false, false, false, false, false, true, false, false] r34_1) (.seq (.seq (.region [2, 3, 4, 6, 7, 17] r34_2) (.cond (.tmp 17) (.seq (.region [4, 5] r34_3) .ret) .skip)) (.seq (.region [4, 5] r34_4) .ret))))
theorem m34 : Tryz.f34.body.bind (tM 23 c34) = some c34 := by kernel_rfl
theorem n34 : Callable Tryz.prog 34 := ⟨⟨_, Tryz.func34, by kernel_rfl, rfl⟩⟩
@[go_sem] def r35_0 : List MO := [oN 3 (.box 25 (ot 0)), oN 4 (.box 3 (ot 1)), oN 5 (.box 3 (ot 2)), oN 6 (.alloc 42), oN 7 (.assign (oK 0))]
@[go_sem] def r35_1 : List MO := [oN 11 (oL 25 3), oN 12 (oL 25 3), oN 13 (oL 3 4), oN 14 (oC 86 #[ot 12, ot 13] #[25, 3]), oN 15 (oM 14), oG 15 16 (oL 25 3), oG 15 17 (oL 3 5), oG 15 18 (oC 86 #[ot 16, ot 17] #[25, 3]), oN 19 (oP 15 18 false), oN 20 (oM 19), oG 20 21 (oL 3 4), oG 20 22 (oL 3 5), oG 20 23 (oB .leq 3 21 22 3), oN 24 (oP 20 23 false), oN 25 (oC 75 #[ot 11, ot 24] #[25, 4]), oN 10 (oM 25), oN 26 (oE 10 0), oN 27 (oE 10 1), oN 8 (.alloc 108), ⟨none, none, (oS 108 8 26)⟩, oN 9 (oA 27)]
@[go_sem] def r35_2 : List MO := [oN 28 (oM 9), oN 29 (oI .neq 29 28 0 29)]
@[go_sem] def r35_3 : List MO := [oN 30 (.build 42 #[]), oN 31 (oM 9), ⟨none, none, (oS 42 6 30)⟩, oN 7 (oA 31)]
@[go_sem] def r35_4 : List MO := [oN 32 (oL 108 8), oN 33 (.makeFunc (.func 90) #[] #[(ot 3), (ot 4), (ot 5)]), oN 34 (oC 87 #[ot 32, ot 33] #[108, 123]), ⟨none, none, (oS 42 6 34)⟩, oN 7 (.assign (oK 0))]
@[go_sem] def c35 : MC := (.seq (.region [3, 4, 5, 6] r35_0) (.seq (.draw [3, 4, 5, 6, 8, 9] 20 [false, false, false, false, false, false, false, false, false, false, false, false, false, false, false, false, false, true, false, false] r35_1) (.seq (.seq (.region [3, 4, 5, 6, 8, 9, 29] r35_2) (.cond (.tmp 29) (.seq (.region [6, 7] r35_3) .ret) .skip)) (.seq (.region [6, 7] r35_4) .ret))))
theorem m35 : Tryz.f35.body.bind (tM 35 c35) = some c35 := by kernel_rfl
theorem n35 : Callable Tryz.prog 35 := ⟨⟨_, Tryz.func35, by kernel_rfl, rfl⟩⟩
@[go_sem] def r37_0 : List MO := [oN 2 (.box 25 (ot 0)), oN 4 (.assign (.const (.bool false)))]
@[go_sem] def r37_1 : List MO := [oN 5 (oM 1), oN 6 (oF 25 2 0), oN 7 (oL 22 6), oN 8 (oD .len #[ot 7] #[22]), oN 9 (oC 80 #[ot 5, oK 0, ot 8] #[3, 3, 3]), oN 4 (oA 9)]
@[go_sem] def c37 : MC := (.seq (.region [1, 2] r37_0) (.seq (.region [4] r37_1) .ret))
theorem m37 : Tryz.f37.body.bind (tM 10 c37) = some c37 := by kernel_rfl
theorem n37 : Callable Tryz.prog 37 := ⟨⟨_, Tryz.func37, by kernel_rfl, rfl⟩⟩
@[go_sem] def r41_0 : List MO := [oN 1 (.box 25 (ot 0)), oN 2 (.assign (.const (.bool false))), oN 3 (.assign (oK 0))]
@[go_sem] def r41_1 : List MO := [oN 4 (oL 25 1), oN 5 (oC 82 #[ot 4] #[25]), oN 6 (.unOp .not 4 (ot 5))]
@[go_sem] def r41_2 : List MO := [oN 2 (.assign (.const (.bool false))), oN 3 (.assign (oK 2))]
@[go_sem] def r41_3 : List MO := [oN 7 (oL 25 1), oN 8 (oC 94 #[ot 7] #[25]), oN 2 (oA 8), oN 3 (.assign (oK 0))]
@[go_sem] def c41 : MC := (.seq (.region [1] r41_0) (.seq (.seq (.region [1, 6] r41_1) (.cond (.tmp 6) (.seq (.region [2, 3] r41_2) .ret) .skip)) (.seq (.region [2, 3] r41_3) .ret)))
theorem m41 : Tryz.f41.body.bind (tM 9 c41) = some c41 := by kernel_rfl
theorem n41 : Callable Tryz.prog 41 := ⟨⟨_, Tryz.func41, by kernel_rfl, rfl⟩⟩
@[go_sem] def r43_0 : List MO := [oN 2 (.box 25 (ot 0)), oN 4 (.assign (oK 0)), oN 5 (.assign (oK 0)), oN 6 (.assign (oK 0))]
@[go_sem] def r43_1 : List MO := [oN 15 (oL 25 2), oN 16 (oM 1), oN 17 (oC 95 #[ot 16] #[3]), oN 18 (oC 75 #[ot 15, ot 17] #[25, 4]), oN 14 (oM 18), oN 19 (oE 14 0), oN 20 (oE 14 1), oN 7 (.alloc 108), ⟨none, none, (oS 108 7 19)⟩, oN 8 (oA 20)]
@[go_sem] def r43_2 : List MO := [oN 21 (oM 8), oN 22 (oI .neq 29 21 0 29)]
@[go_sem] def r43_3 : List MO := [oN 23 (oM 8), oN 4 (.assign (oK 0)), oN 5 (.assign (oK 0)), oN 6 (oA 23)]
@[go_sem] def r43_4 : List MO := [oN 9 (.assign (.const (.slice none 0 0)))]
@[go_sem] def r43_5 : List MO := [oN 24 (oF 25 2 0), oN 25 (oL 22 24), oN 26 (oD .len #[ot 25] #[22]), oN 27 (oI .add 3 26 1 3), oN 28 (.move (oK 0))]
@[go_sem] def r43_6 : List MO := [oN 29 (oB .lss 3 28 27 3)]
@[go_sem] def r43_7 : List MO := [oN 30 (oM 28), oN 10 (oA 30)]
@[go_sem] def r43_8 : List MO := [oN 31 (oM 10), oN 32 (.build 128 #[(0, (ot 31)), (1, (oK 0))]), oN 11 (.alloc 128), ⟨none, none, (oS 128 11 32)⟩]
@[go_sem] def r43_9 : List MO := [oN 33 (.move (oK 0))]
@[go_sem] def r43_10 : List MO := [oN 34 (oI .lss 3 33 401 3)]
@[go_sem] def r43_11 : List MO := [oN 35 (oM 33), oN 12 (oA 35)]
@[go_sem] def r43_12 : List MO := [oN 36 (oF 128 11 1), oN 37 (oL 3 36), oN 38 (oL 108 7), oN 39 (oM 10), oN 40 (oM 12), oN 41 (oM 1), oN 42 (oC 96 #[ot 38, ot 39, ot 40, ot 41] #[108, 3, 3, 3]), oN 43 (oD .max #[ot 37, ot 42] #[3, 3]), oN 44 (oF 128 11 1), ⟨none, none, (oS 3 44 43)⟩]
@[go_sem] def r43_13 : List MO := [oN 45 (oI .add 3 33 1 3), oN 33 (oM 45)]
def l43_1 : MC := (.seq (.region [1, 7, 9, 10, 11, 27, 28, 33, 34] r43_10) (.seq (.cond (.tmp 34) .skip (.exit 2)) (.seq (.block 3 (.seq (.region [1, 7, 9, 10, 11, 12, 27, 28, 33] r43_11) (.draw [1, 7, 9, 10, 11, 27, 28, 33] 7 [] r43_12))) (.region [1, 7, 9, 10, 11, 27, 28, 33] r43_13))))
@[go_sem] def r43_14 : List MO := [oN 46 (oM 9), oN 47 (oL 128 11), oN 48 (.buildSlice 126 1 #[(0, (ot 47))]), oN 49 (oD .append #[ot 46, ot 48] #[126, 126]), oN 9 (oA 49)]
@[go_sem] def r43_15 : List MO := [oN 50 (oI .add 3 28 1 3), oN 28 (oM 50)]
def l43_0 : MC := (.seq (.region [1, 7, 9, 27, 28, 29] r43_6) (.seq (.cond (.tmp 29) .skip (.exit 0)) (.seq (.block 1 (.seq (.region [1, 7, 9, 10, 27, 28] r43_7) (.seq (.region [1, 7, 9, 10, 11, 27, 28] r43_8) (.seq (.seq (.region [1, 7, 9, 10, 11, 27, 28, 33] r43_9) (.block 2 (.loop l43_1))) (.region [1, 7, 9, 27, 28] r43_14))))) (.region [1, 7, 9, 27, 28] r43_15))))
@[go_sem] def r43_16 : List MO := [oN 51 (oM 9), oN 52 (oC 97 #[ot 51, (.func 98)] #[126, 131]), oN 13 (.alloc 128), ⟨none, none, (oS 128 13 52)⟩]
@[go_sem] def r43_17 : List MO := [oN 53 (oF 128 13 0), oN 54 (oL 3 53), oN 55 (oF 128 13 1), oN 56 (oL 3 55), oN 4 (oA 54), oN 5 (oA 56), oN 6 (.assign (oK 0))]
@[go_sem] def c43 : MC := (.seq (.region [1, 2] r43_0) (.seq (.draw [1, 2, 7, 8] 9 [false, false, false, false, false, false, true, false, false] r43_1) (.seq (.seq (.region [1, 2, 7, 8, 22] r43_2) (.cond (.tmp 22) (.seq (.region [4, 5, 6] r43_3) .ret) .skip)) (.seq (.region [1, 2, 7, 9] r43_4) (.seq (.seq (.region [1, 7, 9, 27, 28] r43_5) (.block 0 (.loop l43_0))) (.seq (.region [13] r43_16) (.seq (.draw [4, 5, 6] 5 [] r43_17) .ret)))))))
theorem m43 : Tryz.f43.body.bind (tM 57 c43) = some c43 := by kernel_rfl
theorem n43 : Callable Tryz.prog 43 := ⟨⟨_, Tryz.func43, by kernel_rfl, rfl⟩⟩
@[go_sem] def r47_0 : List MO := [oN 3 (.box 25 (ot 0)), oN 6 (.assign (.const (.bool false))), oN 7 (.assign (oK 0))]
@[go_sem] def r47_1 : List MO := [oN 13 (oM 2), oN 14 (oC 95 #[ot 13] #[3]), oN 8 (oA 14)]
@[go_sem] def r47_2 : List MO := [oN 15 (oM 1), oN 16 (oD .len #[ot 15] #[22]), oN 17 (.move (oK 0))]
@[go_sem] def r47_3 : List MO := [oN 18 (oB .lss 3 17 16 3)]
@[go_sem] def r47_4 : List MO := [oN 19 (oM 17), oN 20 (oX 22 15 17), oN 21 (oL 3 20), oN 9 (oA 19), oN 10 (oA 21)]
@[go_sem] def r47_5 : List MO := [oN 22 (oM 8), oN 23 (oM 22), oG 23 24 (oL 25 3), oG 23 25 (oM 10), oG 23 26 (oC 86 #[ot 24, ot 25] #[25, 3]), oN 27 (oP 23 26 false), oN 28 (oM 27), oG 28 29 (oM 9), oG 28 30 (oI .eql 3 29 0 3), oG 28 31 (oM 30), oH 31 32 (oM 10), oH 31 33 (oM 1), oH 31 34 (oM 9), oH 31 35 (oI .sub 3 34 1 3), oH 31 36 (oX 22 33 35), oH 31 37 (oL 3 36), oH 31 38 (oB .gtr 3 32 37 3), oG 28 39 (.pick (ot 31) (.const (.bool true)) (ot 38)), oN 40 (oP 28 39 false), oN 8 (oA 40)]
@[go_sem] def r47_6 : List MO := [oN 41 (oI .add 3 17 1 3), oN 17 (oM 41)]
def l47_0 : MC := (.seq (.region [1, 2, 3, 8, 15, 16, 17, 18] r47_3) (.seq (.cond (.tmp 18) .skip (.exit 0)) (.seq (.block 1 (.seq (.region [1, 2, 3, 8, 9, 10, 15, 16, 17] r47_4) (.region [1, 2, 3, 8, 15, 16, 17] r47_5))) (.region [1, 2, 3, 8, 15, 16, 17] r47_6))))
@[go_sem] def r47_7 : List MO := [oN 43 (oL 25 3), oN 44 (oM 8), oN 45 (oC 75 #[ot 43, ot 44] #[25, 4]), oN 42 (oM 45), oN 46 (oE 42 0), oN 47 (oE 42 1), oN 11 (.alloc 108), ⟨none, none, (oS 108 11 46)⟩, oN 12 (oA 47)]
@[go_sem] def r47_8 : List MO := [oN 48 (oM 12), oN 49 (oI .neq 29 48 0 29)]
@[go_sem] def r47_9 : List MO := [oN 50 (oM 12), oN 6 (.assign (.const (.bool false))), oN 7 (oA 50)]
@[go_sem] def r47_10 : List MO := [oN 51 (oL 108 11), oN 52 (oM 1), oN 53 (oM 2), oN 54 (oC 100 #[ot 51, ot 52, ot 53] #[108, 22, 3]), oN 6 (oA 54), oN 7 (.assign (oK 0))]
@[go_sem] def c47 : MC := (.seq (.region [1, 2, 3] r47_0) (.seq (.region [1, 2, 3, 8] r47_1) (.seq (.seq (.region [1, 2, 3, 8, 15, 16, 17] r47_2) (.block 0 (.loop l47_0))) (.seq (.region [1, 2, 11, 12] r47_7) (.seq (.seq (.region [1, 2, 11, 12, 49] r47_8) (.cond (.tmp 49) (.seq (.region [6, 7] r47_9) .ret) .skip)) (.seq (.region [6, 7] r47_10) .ret))))))
theorem m47 : Tryz.f47.body.bind (tM 55 c47) = some c47 := by kernel_rfl
theorem n47 : Callable Tryz.prog 47 := ⟨⟨_, Tryz.func47, by kernel_rfl, rfl⟩⟩
@[go_sem] def r48_0 : List MO := [oN 2 (.box 25 (ot 0)), oN 3 (.box 3 (ot 1)), oN 4 (.assign (.const (.slice none 0 0))), oN 5 (.assign (oK 0))]
@[go_sem] def r48_1 : List MO := [oN 11 (oL 25 2), oN 12 (oL 3 3), oN 13 (oC 95 #[ot 12] #[3]), oN 14 (oC 75 #[ot 11, ot 13] #[25, 4]), oN 10 (oM 14), oN 15 (oE 10 0), oN 16 (oE 10 1), oN 6 (.alloc 108), ⟨none, none, (oS 108 6 15)⟩, oN 7 (oA 16)]
@[go_sem] def r48_2 : List MO := [oN 17 (oM 7), oN 18 (oI .neq 29 17 0 29)]
@[go_sem] def r48_3 : List MO := [oN 19 (oM 7), oN 4 (.assign (.const (.slice none 0 0))), oN 5 (oA 19)]
@[go_sem] def r48_4 : List MO := [oN 21 (oF 25 2 0), oN 22 (oL 22 21), oN 23 (oD .len #[ot 22] #[22]), oN 24 (oI .add 3 23 1 3), oN 25 (.makeFunc (.func 102) #[] #[(ot 6), (ot 3)]), oN 26 (oC 101 #[ot 24, ot 25] #[3, 134]), oN 20 (oM 26), oN 27 (oE 20 0), oN 28 (oE 20 1), oN 8 (oA 27), oN 9 (oA 28)]
@[go_sem] def r48_5 : List MO := [oN 29 (oM 9), oN 30 (.unOp .not 4 (ot 29))]
@[go_sem] def r48_6 : List MO := [oN 4 (.assign (.const (.slice none 0 0))), oN 5 (.assign (oK 5))]
@[go_sem] def r48_7 : List MO := [oN 31 (oM 8), oN 4 (oA 31), oN 5 (.assign (oK 0))]
@[go_sem] def c48 : MC := (.seq (.region [2, 3] r48_0) (.seq (.draw [2, 3, 6, 7] 9 [false, false, false, false, false, false, true, false, false] r48_1) (.seq (.seq (.region [2, 3, 6, 7, 18] r48_2) (.cond (.tmp 18) (.seq (.region [4, 5] r48_3) .ret) .skip)) (.seq (.region [8, 9] r48_4) (.seq (.seq (.region [8, 30] r48_5) (.cond (.tmp 30) (.seq (.region [4, 5] r48_6) .ret) .skip)) (.seq (.region [4, 5] r48_7) .ret))))))
theorem m48 : Tryz.f48.body.bind (tM 32 c48) = some c48 := by kernel_rfl
theorem n48 : Callable Tryz.prog 48 := ⟨⟨_, Tryz.func48, by kernel_rfl, rfl⟩⟩
@[go_sem] def r50_0 : List MO := [oN 4 (.assign (.const (.bool false)))]
@[go_sem] def r50_1 : List MO := [oN 6 (oM 0), oN 7 (oD .len #[ot 6] #[22]), oN 8 (oM 1), oN 9 (oD .len #[ot 8] #[22]), oN 10 (oB .neq 3 7 9 3)]
@[go_sem] def r50_2 : List MO := [oN 4 (.assign (.const (.bool false)))]
@[go_sem] def r50_3 : List MO := [oN 5 (.assign (oK 0))]
@[go_sem] def r50_4 : List MO := [oN 11 (oM 5), oN 12 (oM 0), oN 13 (oD .len #[ot 12] #[22]), oN 14 (oB .lss 3 11 13 3)]
@[go_sem] def r50_6 : List MO := [oN 17 (oM 0), oN 18 (oM 5), oN 19 (oX 22 17 18), oN 20 (oL 3 19), oN 21 (oM 1), oN 22 (oM 5), oN 23 (oX 22 21 22), oN 24 (oL 3 23), oN 25 (oB .neq 3 20 24 3)]
@[go_sem] def r50_7 : List MO := [oN 4 (.assign (.const (.bool false)))]
@[go_sem] def r50_5 : List MO := [oN 15 (oM 5), oN 16 (oI .add 3 15 1 3), oN 5 (oA 16)]
def l50_0 : MC := (.seq (.seq (.region [0, 1, 5, 14] r50_4) (.cond (.tmp 14) .skip (.exit 0))) (.seq (.block 1 (.seq (.draw [0, 1, 5, 25] 8 [] r50_6) (.cond (.tmp 25) (.seq (.region [4] r50_7) .ret) .skip))) (.region [0, 1, 5] r50_5)))
@[go_sem] def r50_8 : List MO := [oN 4 (.assign (.const (.bool true)))]
@[go_sem] def c50 : MC := (.seq (.region [0, 1] r50_0) (.seq (.seq (.region [0, 1, 10] r50_1) (.cond (.tmp 10) (.seq (.region [4] r50_2) .ret) .skip)) (.seq (.seq (.region [0, 1, 5] r50_3) (.block 0 (.loop l50_0))) (.seq (.region [4] r50_8) .ret))))
theorem m50 : Tryz.f50.body.bind (tN 26 [0, 1, 2, 3, 4, 6, 7, 5, 8] c50) = some c50 := by kernel_rfl
theorem n50 : Callable Tryz.prog 50 := ⟨⟨_, Tryz.func50, by kernel_rfl, rfl⟩⟩
@[go_sem] def r53_0 : List MO := [oN 1 (.box 25 (ot 0)), oN 2 (.assign (oK 0)), oN 3 (.assign (oK 0)), oN 4 (.assign (oK 0))]
@[go_sem] def r53_1 : List MO := [oN 12 (oL 25 1), oN 13 (oC 82 #[ot 12] #[25]), oN 14 (.unOp .not 4 (ot 13))]
@[go_sem] def r53_2 : List MO := [oN 2 (.assign (oK 0)), oN 3 (.assign (oK 0)), oN 4 (.assign (oK 2))]
@[go_sem] def r53_3 : List MO := [oN 5 (.assign (oK 0)), oN 6 (.assign (oK 0)), oN 7 (.assign (.const (.bool false)))]
@[go_sem] def r53_4 : List MO := [oN 15 (oF 25 1 4), oN 16 (oL 23 15), oN 17 (oD .len #[ot 16] #[23]), oN 18 (.move (oK 0))]
@[go_sem] def r53_5 : List MO := [oN 19 (oB .lss 3 18 17 3)]
@[go_sem] def r53_6 : List MO := [oN 20 (oM 18), oN 21 (oX 23 16 18), oN 22 (oL 82 21), oN 9 (.alloc 82), oN 8 (oA 20), ⟨none, none, (oS 82 9 22)⟩]
@[go_sem] def r53_7 : List MO := [oN 23 (oM 8), oN 24 (oI .add 3 23 1 3), oN 10 (oA 24)]
@[go_sem] def r53_8 : List MO := [oN 25 (oM 10), oN 26 (oF 25 1 4), oN 27 (oL 23 26), oN 28 (oD .len #[ot 27] #[23]), oN 29 (oB .lss 3 25 28 3)]
@[go_sem] def r53_10 : List MO := [oN 32 (oL 25 1), oN 11 (.alloc 25), ⟨none, none, (oS 25 11 32)⟩]
@[go_sem] def r53_11 : List MO := [oN 33 (oL 82 9), oN 34 (oF 25 1 4), oN 35 (oL 23 34), oN 36 (oM 10), oN 37 (oX 23 35 36), oN 38 (oL 82 37), oN 39 (.buildSlice 23 2 #[(0, (ot 33)), (1, (ot 38))]), oN 40 (oF 25 11 4), ⟨none, none, (oS 23 40 39)⟩]
@[go_sem] def r53_12 : List MO := [oN 41 (oL 25 11), oN 42 (oC 94 #[ot 41] #[25]), oN 43 (.unOp .not 4 (ot 42))]
@[go_sem] def r53_13 : List MO := [oN 44 (oM 8), oN 45 (oM 10), oN 5 (oA 44), oN 6 (oA 45), oN 7 (.assign (.const (.bool true)))]
@[go_sem] def r53_9 : List MO := [oN 30 (oM 10), oN 31 (oI .add 3 30 1 3), oN 10 (oA 31)]
def l53_1 : MC := (.seq (.seq (.region [1, 5, 6, 7, 8, 9, 10, 16, 17, 18, 29] r53_8) (.cond (.tmp 29) .skip (.exit 2))) (.seq (.block 3 (.seq (.region [1, 5, 6, 7, 8, 9, 10, 11, 16, 17, 18] r53_10) (.seq (.draw [1, 5, 6, 7, 8, 9, 10, 11, 16, 17, 18] 6 [] r53_11) (.seq (.region [1, 5, 6, 7, 8, 9, 10, 16, 17, 18, 43] r53_12) (.cond (.tmp 43) (.seq (.region [5, 6, 7] r53_13) (.exit 0)) .skip))))) (.region [1, 5, 6, 7, 8, 9, 10, 16, 17, 18] r53_9)))
@[go_sem] def r53_14 : List MO := [oN 46 (oI .add 3 18 1 3), oN 18 (oM 46)]
def l53_0 : MC := (.seq (.region [1, 5, 6, 7, 16, 17, 18, 19] r53_5) (.seq (.cond (.tmp 19) .skip (.exit 0)) (.seq (.block 1 (.seq (.region [1, 5, 6, 7, 8, 9, 16, 17, 18] r53_6) (.seq (.region [1, 5, 6, 7, 8, 9, 10, 16, 17, 18] r53_7) (.block 2 (.loop l53_1))))) (.region [1, 5, 6, 7, 16, 17, 18] r53_14))))
@[go_sem] def r53_15 : List MO := [oN 47 (oM 7), oN 48 (.unOp .not 4 (ot 47))]
@[go_sem] def r53_16 : List MO := [oN 2 (.assign (oK 0)), oN 3 (.assign (oK 0)), oN 4 (.assign (oK 5))]
@[go_sem] def r53_17 : List MO := [oN 49 (oM 5), oN 50 (oM 6), oN 2 (oA 49), oN 3 (oA 50), oN 4 (.assign (oK 0))]
@[go_sem] def c53 : MC := (.seq (.region [1] r53_0) (.seq (.seq (.region [1, 14] r53_1) (.cond (.tmp 14) (.seq (.region [2, 3, 4] r53_2) .ret) .skip)) (.seq (.region [1, 5, 6, 7] r53_3) (.seq .skip (.seq (.seq (.region [1, 5, 6, 7, 16, 17, 18] r53_4) (.block 0 (.loop l53_0))) (.seq (.seq (.region [5, 6, 48] r53_15) (.cond (.tmp 48) (.seq (.region [2, 3, 4] r53_16) .ret) .skip)) (.seq (.region [2, 3, 4] r53_17) .ret)))))))
theorem m53 : Tryz.f53.body.bind (tN 51 [0, 1, 2, 3, 4, 5, 6, 7, 8, 10, 11, 12, 13, 9, 14, 15, 16, 17] c53) = some c53 := by kernel_rfl
theorem n53 : Callable Tryz.prog 53 := ⟨⟨_, Tryz.func53, by kernel_rfl, rfl⟩⟩
@[go_sem] def r54_0 : List MO := [oN 1 (.box 25 (ot 0)), oN 2 (.assign (.const (.slice none 0 0))), oN 3 (.assign (oK 0))]
@[go_sem] def r54_1 : List MO := [oN 6 (oL 25 1), oN 7 (oC 82 #[ot 6] #[25]), oN 8 (.unOp .not 4 (ot 7))]
@[go_sem] def r54_2 : List MO := [oN 2 (.assign (.const (.slice none 0 0))), oN 3 (.assign (oK 2))]
@[go_sem] def r54_3 : List MO := [oN 10 (oF 25 1 4), oN 11 (oL 23 10), oN 12 (oD .len #[ot 11] #[23]), oN 13 (.makeFunc (.func 105) #[] #[(ot 1)]), oN 14 (oC 101 #[ot 12, ot 13] #[3, 134]), oN 9 (oM 14), oN 15 (oE 9 0), oN 16 (oE 9 1), oN 4 (oA 15), oN 5 (oA 16)]
@[go_sem] def r54_4 : List MO := [oN 17 (oM 4), oN 2 (oA 17), oN 3 (.assign (oK 0))]
@[go_sem] def c54 : MC := (.seq (.region [1] r54_0) (.seq (.seq (.region [1, 8] r54_1) (.cond (.tmp 8) (.seq (.region [2, 3] r54_2) .ret) .skip)) (.seq (.region [4] r54_3) (.seq (.region [2, 3] r54_4) .ret))))
theorem m54 : Tryz.f54.body.bind (tM 18 c54) = some c54 := by kernel_rfl
theorem n54 : Callable Tryz.prog 54 := ⟨⟨_, Tryz.func54, by kernel_rfl, rfl⟩⟩
@[go_sem] def r61_0 : List MO := [oN 1 (.box 9 (ot 0)), oN 2 (.alloc 25), oN 3 (.assign (oK 0))]
@[go_sem] def r61_1 : List MO := [oN 6 (oL 9 1), oN 7 (oD .len #[ot 6] #[9]), oN 8 (oI .gtr 3 7 300 3)]
@[go_sem] def r61_2 : List MO := [oN 9 (.build 25 #[]), ⟨none, none, (oS 25 2 9)⟩, oN 3 (.assign (oK 3))]
@[go_sem] def r61_3 : List MO := [oN 4 (.alloc 25)]
@[go_sem] def r61_4 : List MO := [oN 10 (.makeFunc (.func 109) #[] #[(ot 1), (ot 4)]), oN 11 (oC 108 #[ot 10] #[1]), oN 5 (oA 11)]
@[go_sem] def r61_5 : List MO := [oN 12 (oM 5), oN 13 (oI .neq 29 12 0 29)]
@[go_sem] def r61_6 : List MO := [oN 14 (.build 25 #[]), oN 15 (oM 5), ⟨none, none, (oS 25 2 14)⟩, oN 3 (oA 15)]
@[go_sem] def r61_7 : List MO := [oN 16 (oL 25 4), oN 17 (oC 82 #[ot 16] #[25]), oN 18 (.unOp .not 4 (ot 17))]
@[go_sem] def r61_8 : List MO := [oN 19 (.build 25 #[]), ⟨none, none, (oS 25 2 19)⟩, oN 3 (.assign (oK 2))]
@[go_sem] def r61_9 : List MO := [oN 20 (oL 25 4), ⟨none, none, (oS 25 2 20)⟩, oN 3 (.assign (oK 0))]
@[go_sem] def c61 : MC := (.seq (.region [1, 2] r61_0) (.seq (.seq (.region [1, 2, 8] r61_1) (.cond (.tmp 8) (.seq (.region [2, 3] r61_2) .ret) .skip)) (.seq (.region [1, 2, 4] r61_3) (.seq (.seq (.region [2, 4, 5] r61_4) (.seq (.region [2, 4, 5, 13] r61_5) (.cond (.tmp 13) (.seq (.region [2, 3] r61_6) .ret) .skip))) (.seq (.seq (.region [2, 4, 18] r61_7) (.cond (.tmp 18) (.seq (.region [2, 3] r61_8) .ret) .skip)) (.seq (.region [2, 3] r61_9) .ret))))))
theorem m61 : Tryz.f61.body.bind (tM 21 c61) = some c61 := by kernel_rfl
theorem n61 : Callable Tryz.prog 61 := ⟨⟨_, Tryz.func61, by kernel_rfl, rfl⟩⟩
@[go_sem] def r62_0 : List MO := [oN 1 (.box 25 (ot 0)), oN 2 (.assign (.const (.string { data := #[] })))]
@[go_sem] def r62_1 : List MO := [oN 7 (oF 25 1 1), oN 8 (oL 3 7), oN 9 (oF 25 1 2), oN 10 (oL 3 9), oN 11 (oF 25 1 3), oN 12 (oL 3 11), oN 13 (.buildSlice 22 3 #[(0, (ot 8)), (1, (ot 10)), (2, (ot 12))]), oN 14 (oC 111 #[(.const (.string { data := #[108, 105, 110, 101] })), ot 13] #[9, 22]), oN 15 (.buildSlice 141 1 #[(0, (ot 14))]), oN 3 (oA 15)]
@[go_sem] def r62_2 : List MO := [oN 4 (.assign (oK 0))]
@[go_sem] def r62_3 : List MO := [oN 16 (oM 4), oN 17 (oF 25 1 0), oN 18 (oL 22 17), oN 19 (oD .len #[ot 18] #[22]), oN 20 (oB .lss 3 16 19 3)]
@[go_sem] def r62_5 : List MO := [oN 23 (oM 3), oN 24 (oF 25 1 0), oN 25 (oL 22 24), oN 26 (oM 4), oN 27 (oX 22 25 26), oN 28 (oL 3 27), oN 29 (.buildSlice 22 1 #[(0, (ot 28))]), oN 30 (oC 111 #[(.const (.string { data := #[115, 116, 114, 101, 116, 99, 104] })), ot 29] #[9, 22]), oN 31 (.buildSlice 141 1 #[(0, (ot 30))]), oN 32 (oD .append #[ot 23, ot 31] #[141, 141]), oN 3 (oA 32)]
@[go_sem] def r62_4 : List MO := [oN 21 (oM 4), oN 22 (oI .add 3 21 1 3), oN 4 (oA 22)]
def l62_0 : MC := (.seq (.seq (.region [1, 3, 4, 20] r62_3) (.cond (.tmp 20) .skip (.exit 0))) (.seq (.block 1 (.region [1, 3, 4] r62_5)) (.region [1, 3, 4] r62_4)))
@[go_sem] def r62_6 : List MO := [oN 5 (.assign (oK 0))]
@[go_sem] def r62_7 : List MO := [oN 33 (oM 5), oN 34 (oF 25 1 4), oN 35 (oL 23 34), oN 36 (oD .len #[ot 35] #[23]), oN 37 (oB .lss 3 33 36 3)]
@[go_sem] def r62_9 : List MO := [oN 40 (oF 25 1 4), oN 41 (oL 23 40), oN 42 (oM 5), oN 43 (oX 23 41 42), oN 44 (oL 82 43), oN 6 (.alloc 82), ⟨none, none, (oS 82 6 44)⟩]
@[go_sem] def r62_10 : List MO := [oN 45 (oM 3), oN 46 (oF 82 6 0), oN 47 (oL 3 46), oN 48 (oF 82 6 1), oN 49 (oL 3 48), oN 50 (oF 82 6 2), oN 51 (oL 3 50), oN 52 (.buildSlice 22 3 #[(0, (ot 47)), (1, (ot 49)), (2, (ot 51))]), oN 53 (oC 111 #[(.const (.string { data := #[99, 111, 117, 110, 116] })), ot 52] #[9, 22]), oN 54 (.buildSlice 141 1 #[(0, (ot 53))]), oN 55 (oD .append #[ot 45, ot 54] #[141, 141]), oN 3 (oA 55)]
@[go_sem] def r62_8 : List MO := [oN 38 (oM 5), oN 39 (oI .add 3 38 1 3), oN 5 (oA 39)]
def l62_1 : MC := (.seq (.seq (.region [1, 3, 5, 37] r62_7) (.cond (.tmp 37) .skip (.exit 2))) (.seq (.block 3 (.seq (.region [1, 3, 5, 6] r62_9) (.region [1, 3, 5] r62_10))) (.region [1, 3, 5] r62_8)))
@[go_sem] def r62_11 : List MO := [oN 56 (oM 3), oN 57 (oC 112 #[ot 56, oK 157] #[141, 3]), oN 2 (oA 57)]
@[go_sem] def c62 : MC := (.seq (.region [1] r62_0) (.seq (.region [1, 3] r62_1) (.seq (.seq (.region [1, 3, 4] r62_2) (.block 0 (.loop l62_0))) (.seq (.seq (.region [1, 3, 5] r62_6) (.block 2 (.loop l62_1))) (.seq (.region [2] r62_11) .ret)))))
theorem m62 : Tryz.f62.body.bind (tN 58 [0, 1, 2, 3, 5, 4, 6, 7, 9, 10, 8, 11] c62) = some c62 := by kernel_rfl
theorem n62 : Callable Tryz.prog 62 := ⟨⟨_, Tryz.func62, by kernel_rfl, rfl⟩⟩
@[go_sem] def r65_0 : List MO := [oN 2 (.box 25 (ot 0)), oN 3 (.box 96 (ot 1)), oN 4 (.assign (.const (.bool false)))]
@[go_sem] def r65_1 : List MO := [oN 5 (.assign (oK 0))]
@[go_sem] def r65_2 : List MO := [oN 6 (oM 5), oN 7 (oF 96 3 1), oN 8 (oL 22 7), oN 9 (oD .len #[ot 8] #[22]), oN 10 (oB .lss 3 6 9 3)]
@[go_sem] def r65_4 : List MO := [oN 13 (oF 96 3 1), oN 14 (oL 22 13), oN 15 (oM 5), oN 16 (oX 22 14 15), oN 17 (oL 3 16), oN 18 (oI .neq 3 17 0 3), oN 19 (oM 18), oG 19 20 (oF 96 3 1), oG 19 21 (oL 22 20), oG 19 22 (oM 5), oG 19 23 (oX 22 21 22), oG 19 24 (oL 3 23), oG 19 25 (oF 25 2 1), oG 19 26 (oL 3 25), oG 19 27 (oF 25 2 2), oG 19 28 (oL 3 27), oG 19 29 (oC 80 #[ot 24, ot 26, ot 28] #[3, 3, 3]), oG 19 30 (.unOp .not 4 (ot 29)), oN 31 (oP 19 30 false)]
@[go_sem] def r65_5 : List MO := [oN 4 (.assign (.const (.bool false)))]
@[go_sem] def r65_3 : List MO := [oN 11 (oM 5), oN 12 (oI .add 3 11 1 3), oN 5 (oA 12)]
def l65_0 : MC := (.seq (.seq (.region [2, 3, 5, 10] r65_2) (.cond (.tmp 10) .skip (.exit 0))) (.seq (.block 1 (.seq (.draw [2, 3, 5, 31] 16 [] r65_4) (.cond (.tmp 31) (.seq (.region [4] r65_5) .ret) .skip))) (.region [2, 3, 5] r65_3)))
@[go_sem] def r65_6 : List MO := [oN 32 (oF 96 3 0), oN 33 (oL 3 32), oN 34 (oC 80 #[ot 33, oK 0, oK 400] #[3, 3, 3]), oN 35 (oM 34), oG 35 36 (oF 96 3 1), oG 35 37 (oL 22 36), oG 35 38 (oD .len #[ot 37] #[22]), oG 35 39 (oF 25 2 0), oG 35 40 (oL 22 39), oG 35 41 (oD .len #[ot 40] #[22]), oG 35 42 (oB .eql 3 38 41 3), oN 43 (oP 35 42 false), oN 4 (oA 43)]
@[go_sem] def c65 : MC := (.seq (.region [2, 3] r65_0) (.seq (.seq (.region [2, 3, 5] r65_1) (.block 0 (.loop l65_0))) (.seq (.region [4] r65_6) .ret)))
theorem m65 : Tryz.f65.body.bind (tN 44 [0, 1, 2, 4, 5, 3, 6] c65) = some c65 := by kernel_rfl
theorem n65 : Callable Tryz.prog 65 := ⟨⟨_, Tryz.func65, by kernel_rfl, rfl⟩⟩
@[go_sem] def r66_0 : List MO := [oN 2 (.box 25 (ot 0)), oN 3 (.box 96 (ot 1)), oN 4 (.assign (.const (.bool false))), oN 5 (.assign (oK 0))]
@[go_sem] def r66_1 : List MO := [oN 6 (oL 25 2), oN 7 (oC 82 #[ot 6] #[25]), oN 8 (.unOp .not 4 (ot 7)), oN 9 (oM 8), oH 9 10 (oL 25 2), oH 9 11 (oL 96 3), oH 9 12 (oC 115 #[ot 10, ot 11] #[25, 96]), oH 9 13 (.unOp .not 4 (ot 12)), oN 14 (.pick (ot 9) (.const (.bool true)) (ot 13))]
@[go_sem] def r66_2 : List MO := [oN 4 (.assign (.const (.bool false))), oN 5 (.assign (oK 2))]
@[go_sem] def r66_3 : List MO := [oN 15 (.makeFunc (.func 116) #[] #[(ot 2), (ot 3)]), oN 16 (oC 108 #[ot 15] #[1]), oN 17 (oI .eql 29 16 0 29), oN 4 (oA 17), oN 5 (.assign (oK 0))]
@[go_sem] def c66 : MC := (.seq (.region [2, 3] r66_0) (.seq (.seq (.region [2, 3, 14] r66_1) (.cond (.tmp 14) (.seq (.region [4, 5] r66_2) .ret) .skip)) (.seq (.region [4, 5] r66_3) .ret)))
theorem m66 : Tryz.f66.body.bind (tM 18 c66) = some c66 := by kernel_rfl
theorem n66 : Callable Tryz.prog 66 := ⟨⟨_, Tryz.func66, by kernel_rfl, rfl⟩⟩
@[go_sem] def r67_0 : List MO := [oN 1 (.box 96 (ot 0)), oN 2 (.assign (.const (.slice none 0 0)))]
@[go_sem] def r67_1 : List MO := [oN 3 (.assign (.const (.slice none 0 0)))]
@[go_sem] def r67_2 : List MO := [oN 4 (.assign (oK 0))]
@[go_sem] def r67_3 : List MO := [oN 5 (oM 4), oN 6 (oF 96 1 1), oN 7 (oL 22 6), oN 8 (oD .len #[ot 7] #[22]), oN 9 (oB .lss 3 5 8 3)]
@[go_sem] def r67_5 : List MO := [oN 12 (oF 96 1 1), oN 13 (oL 22 12), oN 14 (oM 4), oN 15 (oX 22 13 14), oN 16 (oL 3 15), oN 17 (oI .gtr 3 16 0 3)]
@[go_sem] def r67_6 : List MO := [oN 18 (oM 3), oN 19 (oM 4), oN 20 (.buildSlice 22 1 #[(0, (ot 19))]), oN 21 (oD .append #[ot 18, ot 20] #[22, 22]), oN 3 (oA 21)]
@[go_sem] def r67_4 : List MO := [oN 10 (oM 4), oN 11 (oI .add 3 10 1 3), oN 4 (oA 11)]
def l67_0 : MC := (.seq (.seq (.region [1, 3, 4, 9] r67_3) (.cond (.tmp 9) .skip (.exit 0))) (.seq (.block 1 (.seq (.region [1, 3, 4, 17] r67_5) (.cond (.tmp 17) (.region [1, 3, 4] r67_6) .skip))) (.region [1, 3, 4] r67_4)))
@[go_sem] def r67_7 : List MO := [oN 22 (oM 3), oN 2 (oA 22)]
@[go_sem] def c67 : MC := (.seq (.region [1] r67_0) (.seq (.region [1, 3] r67_1) (.seq (.seq (.region [1, 3, 4] r67_2) (.block 0 (.loop l67_0))) (.seq (.region [2] r67_7) .ret))))
theorem m67 : Tryz.f67.body.bind (tN 23 [0, 1, 2, 3, 5, 6, 4, 7] c67) = some c67 := by kernel_rfl
theorem n67 : Callable Tryz.prog 67 := ⟨⟨_, Tryz.func67, by kernel_rfl, rfl⟩⟩
@[go_sem] def r68_0 : List MO := [oN 3 (.box 25 (ot 0)), oN 4 (.box 96 (ot 1)), oN 6 (.assign (oK 0))]
@[go_sem] def r68_1 : List MO := [oN 9 (oF 96 4 0), oN 10 (oL 3 9), oN 7 (oA 10)]
@[go_sem] def r68_2 : List MO := [oN 8 (.assign (oK 0))]
@[go_sem] def r68_3 : List MO := [oN 11 (oM 8), oN 12 (oM 2), oN 13 (oB .lss 3 11 12 3)]
@[go_sem] def r68_5 : List MO := [oN 16 (oM 7), oN 17 (oF 25 3 0), oN 18 (oL 22 17), oN 19 (oM 8), oN 20 (oX 22 18 19), oN 21 (oL 3 20), oN 22 (oB .sub 3 16 21 3), oN 23 (oF 96 4 1), oN 24 (oL 22 23), oN 25 (oM 8), oN 26 (oX 22 24 25), oN 27 (oL 3 26), oN 28 (oB .sub 3 22 27 3), oN 7 (oA 28)]
@[go_sem] def r68_4 : List MO := [oN 14 (oM 8), oN 15 (oI .add 3 14 1 3), oN 8 (oA 15)]
def l68_0 : MC := (.seq (.seq (.region [2, 3, 4, 7, 8, 13] r68_3) (.cond (.tmp 13) .skip (.exit 0))) (.seq (.block 1 (.draw [2, 3, 4, 7, 8] 12 [] r68_5)) (.region [2, 3, 4, 7, 8] r68_4)))
@[go_sem] def r68_6 : List MO := [oN 29 (oM 7), oN 6 (oA 29)]
@[go_sem] def c68 : MC := (.seq (.region [2, 3, 4] r68_0) (.seq (.region [2, 3, 4, 7] r68_1) (.seq (.seq (.region [2, 3, 4, 7, 8] r68_2) (.block 0 (.loop l68_0))) (.seq (.region [6] r68_6) .ret))))
theorem m68 : Tryz.f68.body.bind (tN 30 [0, 1, 2, 3, 5, 4, 6] c68) = some c68 := by kernel_rfl
theorem n68 : Callable Tryz.prog 68 := ⟨⟨_, Tryz.func68, by kernel_rfl, rfl⟩⟩
@[go_sem] def r70_0 : List MO := [oN 1 (.box 25 (ot 0)), oN 2 (.assign (oK 0))]
@[go_sem] def r70_1 : List MO := [oN 3 (oL 25 1), oN 4 (oC 82 #[ot 3] #[25]), oN 5 (.unOp .not 4 (ot 4))]
@[go_sem] def r70_2 : List MO := [oN 2 (.assign (oK 2))]
@[go_sem] def r70_3 : List MO := [oN 2 (.assign (oK 0))]
@[go_sem] def c70 : MC := (.seq (.region [1] r70_0) (.seq (.seq (.region [5] r70_1) (.cond (.tmp 5) (.seq (.region [2] r70_2) .ret) .skip)) (.seq (.region [2] r70_3) .ret)))
theorem m70 : Tryz.f70.body.bind (tM 6 c70) = some c70 := by kernel_rfl
theorem n70 : Callable Tryz.prog 70 := ⟨⟨_, Tryz.func70, by kernel_rfl, rfl⟩⟩
@[go_sem] def r71_0 : List MO := [oN 1 (.box 25 (ot 0)), oN 2 (.assign (.const (.bool false)))]
@[go_sem] def r71_1 : List MO := [oN 3 (oL 25 1), oN 4 (oC 27 #[ot 3] #[25]), oN 5 (oD .len #[ot 4] #[32]), oN 6 (oI .gtr 3 5 0 3), oN 2 (oA 6)]
@[go_sem] def c71 : MC := (.seq (.region [1] r71_0) (.seq (.region [2] r71_1) .ret))
theorem m71 : Tryz.f71.body.bind (tM 7 c71) = some c71 := by kernel_rfl
theorem n71 : Callable Tryz.prog 71 := ⟨⟨_, Tryz.func71, by kernel_rfl, rfl⟩⟩
@[go_sem] def r72_0 : List MO := [oN 2 (.box 25 (ot 0)), oN 3 (.box 96 (ot 1)), oN 4 (.assign (.const (.bool false)))]
@[go_sem] def r72_1 : List MO := [oN 5 (.assign (oK 0))]
@[go_sem] def r72_2 : List MO := [oN 8 (oM 5), oN 9 (oF 25 2 0), oN 10 (oL 22 9), oN 11 (oD .len #[ot 10] #[22]), oN 12 (oB .leq 3 8 11 3)]
@[go_sem] def r72_4 : List MO := [oN 15 (oL 25 2), oN 16 (oL 96 3), oN 17 (oM 5), oN 18 (oC 68 #[ot 15, ot 16, ot 17] #[25, 96, 3]), oN 19 (oI .lss 3 18 0 3)]
@[go_sem] def r72_5 : List MO := [oN 4 (.assign (.const (.bool false)))]
@[go_sem] def r72_3 : List MO := [oN 13 (oM 5), oN 14 (oI .add 3 13 1 3), oN 5 (oA 14)]
def l72_0 : MC := (.seq (.seq (.region [2, 3, 5, 12] r72_2) (.cond (.tmp 12) .skip (.exit 0))) (.seq (.block 1 (.seq (.region [2, 3, 5, 19] r72_4) (.cond (.tmp 19) (.seq (.region [4] r72_5) .ret) .skip))) (.region [2, 3, 5] r72_3)))
@[go_sem] def r72_6 : List MO := [oN 6 (.assign (oK 0))]
@[go_sem] def r72_7 : List MO := [oN 20 (oM 6), oN 21 (oF 25 2 4), oN 22 (oL 23 21), oN 23 (oD .len #[ot 22] #[23]), oN 24 (oB .lss 3 20 23 3)]
@[go_sem] def r72_9 : List MO := [oN 27 (oF 25 2 4), oN 28 (oL 23 27), oN 29 (oM 6), oN 30 (oX 23 28 29), oN 31 (oL 82 30), oN 7 (.alloc 82), ⟨none, none, (oS 82 7 31)⟩]
@[go_sem] def r72_10 : List MO := [oN 32 (oL 25 2), oN 33 (oL 96 3), oN 34 (oF 82 7 0), oN 35 (oL 3 34), oN 36 (oC 68 #[ot 32, ot 33, ot 35] #[25, 96, 3]), oN 37 (oF 82 7 1), oN 38 (oL 3 37), oN 39 (oF 82 7 2), oN 40 (oL 3 39), oN 41 (oC 80 #[ot 36, ot 38, ot 40] #[3, 3, 3]), oN 42 (.unOp .not 4 (ot 41))]
@[go_sem] def r72_11 : List MO := [oN 4 (.assign (.const (.bool false)))]
@[go_sem] def r72_8 : List MO := [oN 25 (oM 6), oN 26 (oI .add 3 25 1 3), oN 6 (oA 26)]
def l72_1 : MC := (.seq (.seq (.region [2, 3, 6, 24] r72_7) (.cond (.tmp 24) .skip (.exit 2))) (.seq (.block 3 (.seq (.region [2, 3, 6, 7] r72_9) (.seq (.draw [2, 3, 6, 42] 9 [] r72_10) (.cond (.tmp 42) (.seq (.region [4] r72_11) .ret) .skip)))) (.region [2, 3, 6] r72_8)))
@[go_sem] def r72_12 : List MO := [oN 43 (oL 96 3), oN 44 (oC 67 #[ot 43] #[96]), oN 45 (oD .len #[ot 44] #[22]), oN 46 (oF 25 2 3), oN 47 (oL 3 46), oN 48 (oB .leq 3 45 47 3), oN 4 (oA 48)]
@[go_sem] def c72 : MC := (.seq (.region [2, 3] r72_0) (.seq (.seq (.region [2, 3, 5] r72_1) (.block 0 (.loop l72_0))) (.seq (.seq (.region [2, 3, 6] r72_6) (.block 2 (.loop l72_1))) (.seq (.draw [4] 5 [] r72_12) .ret))))
theorem m72 : Tryz.f72.body.bind (tN 49 [0, 1, 2, 4, 5, 3, 6, 7, 9, 10, 11, 8, 12] c72) = some c72 := by kernel_rfl
theorem n72 : Callable Tryz.prog 72 := ⟨⟨_, Tryz.func72, by kernel_rfl, rfl⟩⟩
@[go_sem] def r73_0 : List MO := [oN 0 (.alloc 25)]
@[go_sem] def r73_1 : List MO := [oN 2 (oC 74 #[] #[]), oN 1 (.alloc 25), ⟨none, none, (oS 25 1 2)⟩]
@[go_sem] def r73_2 : List MO := [oN 3 (oF 25 1 4), oN 4 (oL 23 3), oN 5 (.build 82 #[(0, (oK 1)), (1, (oK 97)), (2, (oK 100))]), oN 6 (.buildSlice 23 1 #[(0, (ot 5))]), oN 7 (oD .append #[ot 4, ot 6] #[23, 23]), oN 8 (oF 25 1 4), ⟨none, none, (oS 23 8 7)⟩]
@[go_sem] def r73_3 : List MO := [oN 9 (oL 25 1), ⟨none, none, (oS 25 0 9)⟩]
@[go_sem] def c73 : MC := (.seq (.region [0] r73_0) (.seq (.region [0, 1] r73_1) (.seq (.region [0, 1] r73_2) (.seq (.region [0] r73_3) .ret))))
theorem m73 : Tryz.f73.body.bind (tM 10 c73) = some c73 := by kernel_rfl
theorem n73 : Callable Tryz.prog 73 := ⟨⟨_, Tryz.func73, by kernel_rfl, rfl⟩⟩
@[go_sem] def r74_0 : List MO := [oN 0 (.alloc 25)]
@[go_sem] def r74_1 : List MO := [oN 1 (.buildSlice 22 3 #[(0, (oK 10)), (1, (oK 0)), (2, (oK 20))]), oN 2 (.build 82 #[(0, (oK 0)), (1, (oK 100)), (2, (oK 104))]), oN 3 (.build 82 #[(0, (oK 3)), (1, (oK 58)), (2, (oK 62))]), oN 4 (.buildSlice 23 2 #[(0, (ot 2)), (1, (ot 3))]), oN 5 (.build 25 #[(0, (ot 1)), (1, (oK 5)), (2, (oK 15)), (3, (oK 1)), (4, (ot 4))]), ⟨none, none, (oS 25 0 5)⟩]
@[go_sem] def c74 : MC := (.seq (.region [0] r74_0) (.seq (.region [0] r74_1) .ret))
theorem m74 : Tryz.f74.body.bind (tM 6 c74) = some c74 := by kernel_rfl
theorem n74 : Callable Tryz.prog 74 := ⟨⟨_, Tryz.func74, by kernel_rfl, rfl⟩⟩
@[go_sem] def r75_0 : List MO := [oN 2 (.box 25 (ot 0)), oN 4 (.alloc 108), oN 5 (.assign (oK 0))]
@[go_sem] def r75_1 : List MO := [oN 7 (oL 25 2), oN 8 (oC 82 #[ot 7] #[25]), oN 9 (.unOp .not 4 (ot 8)), oN 10 (oM 9), oH 10 11 (oM 1), oH 10 12 (.unOp .not 4 (ot 11)), oN 13 (.pick (ot 10) (.const (.bool true)) (ot 12))]
@[go_sem] def r75_2 : List MO := [oN 14 (.build 108 #[]), ⟨none, none, (oS 108 4 14)⟩, oN 5 (.assign (oK 2))]
@[go_sem] def r75_3 : List MO := [oN 15 (oL 25 2), oN 16 (oC 118 #[ot 15] #[25]), oN 6 (.alloc 108), ⟨none, none, (oS 108 6 16)⟩]
@[go_sem] def r75_4 : List MO := [oN 17 (oF 108 6 1), oN 18 (oL 106 17), oN 19 (oD .len #[ot 18] #[106]), oN 20 (oI .eql 3 19 0 3)]
@[go_sem] def r75_5 : List MO := [oN 21 (.build 108 #[]), ⟨none, none, (oS 108 4 21)⟩, oN 5 (.assign (oK 7))]
@[go_sem] def r75_6 : List MO := [oN 22 (oL 108 6), ⟨none, none, (oS 108 4 22)⟩, oN 5 (.assign (oK 0))]
@[go_sem] def c75 : MC := (.seq (.region [1, 2, 4] r75_0) (.seq (.seq (.region [2, 4, 13] r75_1) (.cond (.tmp 13) (.seq (.region [4, 5] r75_2) .ret) .skip)) (.seq (.region [4, 6] r75_3) (.seq (.seq (.region [4, 6, 20] r75_4) (.cond (.tmp 20) (.seq (.region [4, 5] r75_5) .ret) .skip)) (.seq (.region [4, 5] r75_6) .ret)))))
theorem m75 : Tryz.f75.body.bind (tM 23 c75) = some c75 := by kernel_rfl
theorem n75 : Callable Tryz.prog 75 := ⟨⟨_, Tryz.func75, by kernel_rfl, rfl⟩⟩
@[go_sem] def r76_0 : List MO := [oN 4 (.assign (.const (.bool false)))]
@[go_sem] def r76_1 : List MO := [oN 5 (oM 0), oN 6 (oM 1), oN 7 (oC 119 #[ot 5, ot 6] #[22, 3]), oN 8 (oI .geq 3 7 0 3), oN 4 (oA 8)]
@[go_sem] def c76 : MC := (.seq (.region [0, 1] r76_0) (.seq (.region [4] r76_1) .ret))
theorem m76 : Tryz.f76.body.bind (tM 9 c76) = some c76 := by kernel_rfl
theorem n76 : Callable Tryz.prog 76 := ⟨⟨_, Tryz.func76, by kernel_rfl, rfl⟩⟩
@[go_sem] def r77_0 : List MO := [oN 4 (.assign (.const (.bool false)))]
@[go_sem] def r77_1 : List MO := [oN 5 (.assign (oK 0))]
@[go_sem] def r77_2 : List MO := [oN 6 (oM 5), oN 7 (oM 0), oN 8 (oD .len #[ot 7] #[22]), oN 9 (oB .lss 3 6 8 3)]
@[go_sem] def r77_4 : List MO := [oN 12 (oM 0), oN 13 (oM 5), oN 14 (oX 22 12 13), oN 15 (oL 3 14), oN 16 (oM 1), oN 17 (oB .eql 3 15 16 3)]
@[go_sem] def r77_5 : List MO := [oN 4 (.assign (.const (.bool true)))]
@[go_sem] def r77_3 : List MO := [oN 10 (oM 5), oN 11 (oI .add 3 10 1 3), oN 5 (oA 11)]
def l77_0 : MC := (.seq (.seq (.region [0, 1, 5, 9] r77_2) (.cond (.tmp 9) .skip (.exit 0))) (.seq (.block 1 (.seq (.region [0, 1, 5, 17] r77_4) (.cond (.tmp 17) (.seq (.region [4] r77_5) .ret) .skip))) (.region [0, 1, 5] r77_3)))
@[go_sem] def r77_6 : List MO := [oN 4 (.assign (.const (.bool false)))]
@[go_sem] def c77 : MC := (.seq (.region [0, 1] r77_0) (.seq (.seq (.region [0, 1, 5] r77_1) (.block 0 (.loop l77_0))) (.seq (.region [4] r77_6) .ret)))
theorem m77 : Tryz.f77.body.bind (tN 18 [0, 1, 2, 4, 5, 3, 6] c77) = some c77 := by kernel_rfl
theorem n77 : Callable Tryz.prog 77 := ⟨⟨_, Tryz.func77, by kernel_rfl, rfl⟩⟩
@[go_sem] def r78_0 : List MO := [oN 1 (.box 25 (ot 0)), oN 2 (.assign (.const (.slice none 0 0)))]
@[go_sem] def r78_1 : List MO := [oN 7 (.buildSlice 32 1 #[(0, (.const (.slice none 0 0)))]), oN 3 (oA 7)]
@[go_sem] def r78_2 : List MO := [oN 4 (.assign (oK 0))]
@[go_sem] def r78_3 : List MO := [oN 8 (oM 4), oN 9 (oF 25 1 0), oN 10 (oL 22 9), oN 11 (oD .len #[ot 10] #[22]), oN 12 (oB .lss 3 8 11 3)]
@[go_sem] def r78_5 : List MO := [oN 15 (oM 3), oN 16 (oM 4), oN 17 (.buildSlice 22 1 #[(0, (ot 16))]), oN 18 (.buildSlice 32 1 #[(0, (ot 17))]), oN 19 (oD .append #[ot 15, ot 18] #[32, 32]), oN 3 (oA 19)]
@[go_sem] def r78_4 : List MO := [oN 13 (oM 4), oN 14 (oI .add 3 13 1 3), oN 4 (oA 14)]
def l78_0 : MC := (.seq (.seq (.region [1, 3, 4, 12] r78_3) (.cond (.tmp 12) .skip (.exit 0))) (.seq (.block 1 (.region [1, 3, 4] r78_5)) (.region [1, 3, 4] r78_4)))
@[go_sem] def r78_6 : List MO := [oN 5 (.assign (oK 0))]
@[go_sem] def r78_7 : List MO := [oN 20 (oM 5), oN 21 (oF 25 1 0), oN 22 (oL 22 21), oN 23 (oD .len #[ot 22] #[22]), oN 24 (oB .lss 3 20 23 3)]
@[go_sem] def r78_9 : List MO := [oN 27 (oM 5), oN 28 (oI .add 3 27 1 3), oN 6 (oA 28)]
@[go_sem] def r78_10 : List MO := [oN 29 (oM 6), oN 30 (oF 25 1 0), oN 31 (oL 22 30), oN 32 (oD .len #[ot 31] #[22]), oN 33 (oB .lss 3 29 32 3)]
@[go_sem] def r78_12 : List MO := [oN 36 (oM 3), oN 37 (oM 5), oN 38 (oM 6), oN 39 (.buildSlice 22 2 #[(0, (ot 37)), (1, (ot 38))]), oN 40 (.buildSlice 32 1 #[(0, (ot 39))]), oN 41 (oD .append #[ot 36, ot 40] #[32, 32]), oN 3 (oA 41)]
@[go_sem] def r78_11 : List MO := [oN 34 (oM 6), oN 35 (oI .add 3 34 1 3), oN 6 (oA 35)]
def l78_2 : MC := (.seq (.seq (.region [1, 3, 5, 6, 33] r78_10) (.cond (.tmp 33) .skip (.exit 4))) (.seq (.block 5 (.region [1, 3, 5, 6] r78_12)) (.region [1, 3, 5, 6] r78_11)))
@[go_sem] def r78_8 : List MO := [oN 25 (oM 5), oN 26 (oI .add 3 25 1 3), oN 5 (oA 26)]
def l78_1 : MC := (.seq (.seq (.region [1, 3, 5, 24] r78_7) (.cond (.tmp 24) .skip (.exit 2))) (.seq (.block 3 (.seq (.region [1, 3, 5, 6] r78_9) (.block 4 (.loop l78_2)))) (.region [1, 3, 5] r78_8)))
@[go_sem] def r78_13 : List MO := [oN 42 (oM 3), oN 2 (oA 42)]
@[go_sem] def c78 : MC := (.seq (.region [1] r78_0) (.seq (.region [1, 3] r78_1) (.seq (.seq (.region [1, 3, 4] r78_2) (.block 0 (.loop l78_0))) (.seq (.seq (.region [1, 3, 5] r78_6) (.block 2 (.loop l78_1))) (.seq (.region [2] r78_13) .ret)))))
theorem m78 : Tryz.f78.body.bind (tN 43 [0, 1, 2, 3, 5, 4, 6, 7, 9, 10, 12, 11, 8, 13] c78) = some c78 := by kernel_rfl
theorem n78 : Callable Tryz.prog 78 := ⟨⟨_, Tryz.func78, by kernel_rfl, rfl⟩⟩
@[go_sem] def r79_0 : List MO := [oN 2 (.box 25 (ot 0)), oN 4 (.assign (.const (.slice none 0 0))), oN 5 (.assign (.const (.bool false)))]
@[go_sem] def r79_1 : List MO := [oN 8 (oF 25 2 0), oN 9 (oL 22 8), oN 10 (oD .len #[ot 9] #[22]), oN 11 (oI .add 3 10 1 3), oN 12 (oC 120 #[ot 11] #[3]), oN 6 (oA 12)]
@[go_sem] def r79_2 : List MO := [oN 13 (oM 6), oN 14 (oL 25 2), oN 15 (oM 1), oN 16 (oC 121 #[ot 13, ot 14, ot 15, oK 1] #[114, 25, 22, 3])]
@[go_sem] def r79_3 : List MO := [oN 17 (oM 6), oN 18 (oC 122 #[ot 17] #[114]), oN 7 (oA 18)]
@[go_sem] def r79_4 : List MO := [oN 19 (oM 6), oN 20 (oM 7), oN 21 (oM 20), oG 21 22 (oM 1), oG 21 23 (oD .len #[ot 22] #[22]), oG 21 24 (oF 25 2 3), oG 21 25 (oL 3 24), oG 21 26 (oB .leq 3 23 25 3), oN 27 (oP 21 26 false), oN 4 (oA 19), oN 5 (oA 27)]
@[go_sem] def c79 : MC := (.seq (.region [1, 2] r79_0) (.seq (.region [1, 2, 6] r79_1) (.seq (.region [1, 2, 6] r79_2) (.seq (.region [1, 2, 6, 7] r79_3) (.seq (.draw [4, 5] 10 [] r79_4) .ret)))))
theorem m79 : Tryz.f79.body.bind (tM 28 c79) = some c79 := by kernel_rfl
theorem n79 : Callable Tryz.prog 79 := ⟨⟨_, Tryz.func79, by kernel_rfl, rfl⟩⟩
@[go_sem] def r80_0 : List MO := [oN 6 (.assign (.const (.bool false)))]
@[go_sem] def r80_1 : List MO := [oN 7 (oM 0), oN 8 (oM 1), oN 9 (oB .geq 3 7 8 3), oN 10 (oM 9), oG 10 11 (oM 0), oG 10 12 (oM 2), oG 10 13 (oB .leq 3 11 12 3), oN 14 (oP 10 13 false), oN 6 (oA 14)]
@[go_sem] def c80 : MC := (.seq (.region [0, 1, 2] r80_0) (.seq (.region [6] r80_1) .ret))
theorem m80 : Tryz.f80.body.bind (tM 15 c80) = some c80 := by kernel_rfl
theorem n80 : Callable Tryz.prog 80 := ⟨⟨_, Tryz.func80, by kernel_rfl, rfl⟩⟩
@[go_sem] def r81_0 : List MO := [oN 2 (.box 25 (ot 0)), oN 3 (.box 82 (ot 1)), oN 4 (.assign (.const (.bool false)))]
@[go_sem] def r81_1 : List MO := [oN 5 (oL 25 2), oN 6 (oF 82 3 0), oN 7 (oL 3 6), oN 8 (oC 37 #[ot 5, ot 7] #[25, 3]), oN 9 (oM 8), oG 9 10 (oF 82 3 1), oG 9 11 (oL 3 10), oG 9 12 (oC 80 #[ot 11, oK 0, oK 400] #[3, 3, 3]), oN 13 (oP 9 12 false), oN 14 (oM 13), oG 14 15 (oF 82 3 2), oG 14 16 (oL 3 15), oG 14 17 (oF 82 3 1), oG 14 18 (oL 3 17), oG 14 19 (oC 80 #[ot 16, ot 18, oK 400] #[3, 3, 3]), oN 20 (oP 14 19 false), oN 4 (oA 20)]
@[go_sem] def c81 : MC := (.seq (.region [2, 3] r81_0) (.seq (.region [4] r81_1) .ret))
theorem m81 : Tryz.f81.body.bind (tM 21 c81) = some c81 := by kernel_rfl
theorem n81 : Callable Tryz.prog 81 := ⟨⟨_, Tryz.func81, by kernel_rfl, rfl⟩⟩
@[go_sem] def r82_0 : List MO := [oN 1 (.box 25 (ot 0)), oN 2 (.assign (.const (.bool false)))]
@[go_sem] def r82_1 : List MO := [oN 3 (oF 25 1 0), oN 4 (oL 22 3), oN 5 (oD .len #[ot 4] #[22]), oN 6 (oC 83 #[ot 5, oK 1, oK 5] #[3, 3, 3]), oN 7 (oM 6), oG 7 8 (oF 25 1 4), oG 7 9 (oL 23 8), oG 7 10 (oD .len #[ot 9] #[23]), oG 7 11 (oI .leq 3 10 8 3), oN 12 (oP 7 11 false), oN 13 (oM 12), oG 13 14 (oF 25 1 1), oG 13 15 (oL 3 14), oG 13 16 (oF 25 1 2), oG 13 17 (oL 3 16), oG 13 18 (oC 83 #[ot 15, oK 1, ot 17] #[3, 3, 3]), oN 19 (oP 13 18 false), oN 20 (oM 19), oG 20 21 (oF 25 1 2), oG 20 22 (oL 3 21), oG 20 23 (oI .leq 3 22 60 3), oN 24 (oP 20 23 false), oN 25 (oM 24), oG 25 26 (oF 25 1 3), oG 25 27 (oL 3 26), oG 25 28 (oC 83 #[ot 27, oK 0, oK 2] #[3, 3, 3]), oN 29 (oP 25 28 false), oN 30 (oM 29), oG 30 31 (oF 25 1 0), oG 30 32 (oL 22 31), oG 30 33 (oC 123 #[ot 32, (.func 124)] #[22, 64]), oG 30 34 (.unOp .not 4 (ot 33)), oN 35 (oP 30 34 false), oN 36 (oM 35), oG 36 37 (oF 25 1 4), oG 36 38 (oL 23 37), oG 36 39 (.makeFunc (.func 126) #[] #[(ot 1)]), oG 36 40 (oC 125 #[ot 38, ot 39] #[23, 152]), oG 36 41 (.unOp .not 4 (ot 40)), oN 42 (oP 36 41 false), oN 2 (oA 42)]
@[go_sem] def c82 : MC := (.seq (.region [1] r82_0) (.seq (.region [2] r82_1) .ret))
theorem m82 : Tryz.f82.body.bind (tM 43 c82) = some c82 := by kernel_rfl
theorem n82 : Callable Tryz.prog 82 := ⟨⟨_, Tryz.func82, by kernel_rfl, rfl⟩⟩
@[go_sem] def r83_0 : List MO := [oN 6 (.assign (.const (.bool false)))]
@[go_sem] def r83_1 : List MO := [oN 7 (oM 0), oN 8 (oM 1), oN 9 (oB .geq 3 7 8 3), oN 10 (oM 9), oG 10 11 (oM 0), oG 10 12 (oM 2), oG 10 13 (oB .leq 3 11 12 3), oN 14 (oP 10 13 false), oN 6 (oA 14)]
@[go_sem] def c83 : MC := (.seq (.region [0, 1, 2] r83_0) (.seq (.region [6] r83_1) .ret))
theorem m83 : Tryz.f83.body.bind (tM 15 c83) = some c83 := by kernel_rfl
theorem n83 : Callable Tryz.prog 83 := ⟨⟨_, Tryz.func83, by kernel_rfl, rfl⟩⟩
@[go_sem] def r84_0 : List MO := [oN 2 (.box 25 (ot 0)), oN 4 (.assign (.const (.slice none 0 0))), oN 5 (.assign (.const (.bool false)))]
@[go_sem] def r84_1 : List MO := [oN 7 (oM 1), oN 8 (oD .len #[ot 7] #[22]), oN 9 (oF 25 2 3), oN 10 (oL 3 9), oN 11 (oB .gtr 3 8 10 3)]
@[go_sem] def r84_2 : List MO := [oN 4 (.assign (.const (.slice none 0 0))), oN 5 (.assign (.const (.bool false)))]
@[go_sem] def r84_3 : List MO := [oN 12 (oF 25 2 0), oN 13 (oL 22 12), oN 14 (oD .len #[ot 13] #[22]), oN 15 (oI .add 3 14 1 3), oN 6 (oA 15)]
@[go_sem] def r84_4 : List MO := [oN 16 (oM 6), oN 17 (oI .add 3 16 1 3), oN 18 (oL 25 2), oN 19 (oM 1), oN 20 (oM 6), oN 21 (oC 129 #[ot 18, ot 19, oK 0, ot 20] #[25, 22, 3, 3]), oN 22 (oC 128 #[ot 17, ot 21] #[3, 154]), oN 23 (oE 22 0), oN 24 (oE 22 1), oN 4 (oA 23), oN 5 (oA 24)]
@[go_sem] def c84 : MC := (.seq (.region [1, 2] r84_0) (.seq (.seq (.region [1, 2, 11] r84_1) (.cond (.tmp 11) (.seq (.region [4, 5] r84_2) .ret) .skip)) (.seq (.region [1, 2, 6] r84_3) (.seq (.region [4, 5] r84_4) .ret))))
theorem m84 : Tryz.f84.body.bind (tM 25 c84) = some c84 := by kernel_rfl
theorem n84 : Callable Tryz.prog 84 := ⟨⟨_, Tryz.func84, by kernel_rfl, rfl⟩⟩
@[go_sem] def r85_0 : List MO := [oN 4 (.box 113 (ot 0)), oN 5 (.box 25 (ot 1)), oN 8 (.alloc 42)]
@[go_sem] def r85_1 : List MO := [oN 11 (oF 113 4 1), oN 12 (oL 111 11), oN 13 (oM 3), oN 14 (oM 2), oN 15 (oC 89 #[ot 12, ot 13, ot 14] #[111, 3, 3]), oN 9 (.alloc 42), ⟨none, none, (oS 42 9 15)⟩]
@[go_sem] def r85_2 : List MO := [oN 16 (oF 25 5 0), oN 17 (oL 22 16), oN 18 (oM 2), oN 19 (oM 3), oN 20 (.slice 22 (ot 17) (some (ot 18)) (some (ot 19)) none), oN 21 (oC 130 #[ot 20] #[22]), oN 10 (oA 21)]
@[go_sem] def r85_3 : List MO := [oN 22 (oF 42 9 0), oN 23 (oL 3 22), oN 24 (oM 10), oN 25 (oB .sub 3 23 24 3), oN 26 (oF 42 9 1), oN 27 (oL 3 26), oN 28 (oM 10), oN 29 (oB .sub 3 27 28 3), oN 30 (.build 42 #[(0, (ot 25)), (1, (ot 29))]), ⟨none, none, (oS 42 8 30)⟩]
@[go_sem] def c85 : MC := (.seq (.region [2, 3, 4, 5, 8] r85_0) (.seq (.region [2, 3, 5, 8, 9] r85_1) (.seq (.region [8, 9, 10] r85_2) (.seq (.region [8] r85_3) .ret))))
theorem m85 : Tryz.f85.body.bind (tM 31 c85) = some c85 := by kernel_rfl
theorem n85 : Callable Tryz.prog 85 := ⟨⟨_, Tryz.func85, by kernel_rfl, rfl⟩⟩
@[go_sem] def r86_0 : List MO := [oN 2 (.box 25 (ot 0)), oN 4 (.assign (.const (.bool false)))]
@[go_sem] def r86_1 : List MO := [oN 5 (oM 1), oN 6 (oF 25 2 0), oN 7 (oL 22 6), oN 8 (oD .len #[ot 7] #[22]), oN 9 (oC 83 #[ot 5, oK 0, ot 8] #[3, 3, 3]), oN 4 (oA 9)]
@[go_sem] def c86 : MC := (.seq (.region [1, 2] r86_0) (.seq (.region [4] r86_1) .ret))
theorem m86 : Tryz.f86.body.bind (tM 10 c86) = some c86 := by kernel_rfl
theorem n86 : Callable Tryz.prog 86 := ⟨⟨_, Tryz.func86, by kernel_rfl, rfl⟩⟩
@[go_sem] def r87_0 : List MO := [oN 2 (.box 108 (ot 0)), oN 4 (.alloc 42)]
@[go_sem] def r87_1 : List MO := [oN 9 (oM 1), oN 10 (oF 108 2 1), oN 11 (oL 106 10), oN 12 (.indexAddr 106 (ot 11) (oK 0)), oN 13 (oL 113 12), oN 14 (.call { callee := (.value (ot 9)), args := #[(ot 13)], argTypes := #[113] }), oN 5 (.alloc 42), ⟨none, none, (oS 42 5 14)⟩]
@[go_sem] def r87_2 : List MO := [oN 15 (oF 108 2 1), oN 16 (oL 106 15), oN 17 (oD .len #[ot 16] #[106]), oN 18 (.move (oK 0))]
@[go_sem] def r87_3 : List MO := [oN 19 (oB .lss 3 18 17 3)]
@[go_sem] def r87_4 : List MO := [oN 20 (oX 106 16 18), oN 21 (oL 113 20), oN 7 (.alloc 113), ⟨none, none, (oS 113 7 21)⟩]
@[go_sem] def r87_5 : List MO := [oN 22 (oM 1), oN 23 (oL 113 7), oN 24 (.call { callee := (.value (ot 22)), args := #[(ot 23)], argTypes := #[113] }), oN 8 (.alloc 42), ⟨none, none, (oS 42 8 24)⟩]
@[go_sem] def r87_6 : List MO := [oN 25 (oF 42 5 0), oN 26 (oL 3 25), oN 27 (oF 42 8 0), oN 28 (oL 3 27), oN 29 (oD .min #[ot 26, ot 28] #[3, 3]), oN 30 (oF 42 5 1), oN 31 (oL 3 30), oN 32 (oF 42 8 1), oN 33 (oL 3 32), oN 34 (oD .max #[ot 31, ot 33] #[3, 3]), oN 35 (.build 42 #[(0, (ot 29)), (1, (ot 34))]), ⟨none, none, (oS 42 5 35)⟩]
@[go_sem] def r87_7 : List MO := [oN 36 (oI .add 3 18 1 3), oN 18 (oM 36)]
def l87_0 : MC := (.seq (.region [1, 4, 5, 16, 17, 18, 19] r87_3) (.seq (.cond (.tmp 19) .skip (.exit 0)) (.seq (.block 1 (.seq (.region [1, 4, 5, 7, 16, 17, 18] r87_4) (.seq (.region [1, 4, 5, 8, 16, 17, 18] r87_5) (.region [1, 4, 5, 16, 17, 18] r87_6)))) (.region [1, 4, 5, 16, 17, 18] r87_7))))
@[go_sem] def r87_8 : List MO := [oN 37 (oL 42 5), ⟨none, none, (oS 42 4 37)⟩]
@[go_sem] def c87 : MC := (.seq (.region [1, 2, 4] r87_0) (.seq (.region [1, 2, 4, 5] r87_1) (.seq (.seq (.region [1, 4, 5, 16, 17, 18] r87_2) (.block 0 (.loop l87_0))) (.seq (.region [4] r87_8) .ret))))
theorem m87 : Tryz.f87.body.bind (tM 38 c87) = some c87 := by kernel_rfl
theorem n87 : Callable Tryz.prog 87 := ⟨⟨_, Tryz.func87, by kernel_rfl, rfl⟩⟩
@[go_sem] def r88_0 : List MO := [oN 3 (.box 113 (ot 0)), oN 4 (.alloc 42)]
@[go_sem] def r88_1 : List MO := [oN 5 (oF 113 3 1), oN 6 (oL 111 5), oN 7 (oF 25 1 0), oN 8 (oL 22 7), oN 9 (oD .len #[ot 8] #[22]), oN 10 (oI .add 3 9 1 3), oN 11 (oL 3 2), oN 12 (oC 89 #[ot 6, ot 10, ot 11] #[111, 3, 3]), ⟨none, none, (oS 42 4 12)⟩]
@[go_sem] def c88 : MC := (.seq (.region [1, 2, 3, 4] r88_0) (.seq (.region [4] r88_1) .ret))
theorem m88 : Tryz.f88.body.bind (tM 13 c88) = some c88 := by kernel_rfl
theorem n88 : Callable Tryz.prog 88 := ⟨⟨_, Tryz.func88, by kernel_rfl, rfl⟩⟩
@[go_sem] def r89_0 : List MO := [oN 6 (.alloc 42)]
@[go_sem] def r89_1 : List MO := [oN 7 (.alloc 157)]
@[go_sem] def r89_2 : List MO := [oN 10 (oM 0), oN 11 (.makeFunc (.func 131) #[(ot 10)] #[]), oN 12 (oM 0), oN 13 (.makeFunc (.func 132) #[(ot 12)] #[]), oN 14 (.build 159 #[(0, (ot 11)), (1, (ot 13))]), oN 15 (.move (oK 0))]
@[go_sem] def r89_3 : List MO := [oN 16 (oI .lss 3 15 2 3)]
@[go_sem] def r89_4 : List MO := [oN 17 (oM 15), oN 18 (.index 159 (ot 14) (ot 15)), oN 8 (oA 17), oN 9 (oA 18)]
@[go_sem] def r89_5 : List MO := [oN 19 (oM 8), oN 20 (oM 9), oN 21 (oM 1), oN 22 (oM 2), oN 23 (.call { callee := (.value (ot 20)), args := #[(ot 21), (ot 22)], argTypes := #[3, 3] }), oN 24 (oX 157 7 19), ⟨none, none, (oS 3 24 23)⟩]
@[go_sem] def r89_6 : List MO := [oN 25 (oI .add 3 15 1 3), oN 15 (oM 25)]
def l89_0 : MC := (.seq (.region [1, 2, 6, 7, 14, 15, 16] r89_3) (.seq (.cond (.tmp 16) .skip (.exit 0)) (.seq (.block 1 (.seq (.region [1, 2, 6, 7, 8, 9, 14, 15] r89_4) (.region [1, 2, 6, 7, 14, 15] r89_5))) (.region [1, 2, 6, 7, 14, 15] r89_6))))
@[go_sem] def r89_7 : List MO := [oN 26 (.indexAddr 157 (ot 7) (oK 0)), oN 27 (oL 3 26), oN 28 (.indexAddr 157 (ot 7) (oK 1)), oN 29 (oL 3 28), oN 30 (.build 42 #[(0, (ot 27)), (1, (ot 29))]), ⟨none, none, (oS 42 6 30)⟩]
@[go_sem] def c89 : MC := (.seq (.region [0, 1, 2, 6] r89_0) (.seq (.region [0, 1, 2, 6, 7] r89_1) (.seq (.seq (.region [1, 2, 6, 7, 14, 15] r89_2) (.block 0 (.loop l89_0))) (.seq (.region [6] r89_7) .ret))))
theorem m89 : Tryz.f89.body.bind (tM 31 c89) = some c89 := by kernel_rfl
theorem n89 : Callable Tryz.prog 89 := ⟨⟨_, Tryz.func89, by kernel_rfl, rfl⟩⟩
@[go_sem] def r90_0 : List MO := [oN 4 (.box 113 (ot 0)), oN 5 (.alloc 42)]
@[go_sem] def r90_1 : List MO := [oN 6 (oL 113 4), oN 7 (oL 25 1), oN 8 (oL 3 2), oN 9 (oL 3 3), oN 10 (oC 85 #[ot 6, ot 7, ot 8, ot 9] #[113, 25, 3, 3]), ⟨none, none, (oS 42 5 10)⟩]
@[go_sem] def c90 : MC := (.seq (.region [1, 2, 3, 4, 5] r90_0) (.seq (.region [5] r90_1) .ret))
theorem m90 : Tryz.f90.body.bind (tM 11 c90) = some c90 := by kernel_rfl
theorem n90 : Callable Tryz.prog 90 := ⟨⟨_, Tryz.func90, by kernel_rfl, rfl⟩⟩
@[go_sem] def r94_0 : List MO := [oN 1 (.box 25 (ot 0)), oN 2 (.assign (.const (.bool false)))]
@[go_sem] def r94_1 : List MO := [oN 3 (oL 25 1), oN 4 (oC 118 #[ot 3] #[25]), oN 5 (.field 108 (ot 4) 1), oN 6 (oD .len #[ot 5] #[106]), oN 7 (oI .gtr 3 6 0 3), oN 2 (oA 7)]
@[go_sem] def c94 : MC := (.seq (.region [1] r94_0) (.seq (.region [2] r94_1) .ret))
theorem m94 : Tryz.f94.body.bind (tM 8 c94) = some c94 := by kernel_rfl
theorem n94 : Callable Tryz.prog 94 := ⟨⟨_, Tryz.func94, by kernel_rfl, rfl⟩⟩
@[go_sem] def r95_0 : List MO := [oN 2 (.assign (.const (.bool false)))]
@[go_sem] def r95_1 : List MO := [oN 3 (oM 0), oN 4 (oC 83 #[ot 3, oK 0, oK 20] #[3, 3, 3]), oN 2 (oA 4)]
@[go_sem] def c95 : MC := (.seq (.region [0] r95_0) (.seq (.region [2] r95_1) .ret))
theorem m95 : Tryz.f95.body.bind (tM 5 c95) = some c95 := by kernel_rfl
theorem n95 : Callable Tryz.prog 95 := ⟨⟨_, Tryz.func95, by kernel_rfl, rfl⟩⟩
@[go_sem] def r96_0 : List MO := [oN 4 (.box 108 (ot 0)), oN 8 (.assign (oK 0))]
@[go_sem] def r96_1 : List MO := [oN 17 (oM 2), oN 18 (oM 3), oN 19 (oB .sub 3 17 18 3), oN 20 (oD .max #[oK 0, ot 19] #[3, 3]), oN 21 (oM 2), oN 22 (oM 3), oN 23 (oB .add 3 21 22 3), oN 24 (oD .min #[oK 400, ot 23] #[3, 3]), oN 25 (.build 42 #[(0, (ot 20)), (1, (ot 24))]), oN 9 (.alloc 42), ⟨none, none, (oS 42 9 25)⟩]
@[go_sem] def r96_2 : List MO := [oN 26 (.makeMap 160 none), oN 10 (oA 26)]
@[go_sem] def r96_3 : List MO := [oN 11 (.assign (.const (.bool false)))]
@[go_sem] def r96_4 : List MO := [oN 27 (oF 108 4 1), oN 28 (oL 106 27), oN 29 (oD .len #[ot 28] #[106]), oN 30 (.move (oK 0))]
@[go_sem] def r96_5 : List MO := [oN 31 (oB .lss 3 30 29 3)]
@[go_sem] def r96_6 : List MO := [oN 32 (oX 106 28 30), oN 33 (oL 113 32), oN 13 (.alloc 113), ⟨none, none, (oS 113 13 33)⟩]
@[go_sem] def r96_7 : List MO := [oN 34 (oF 113 13 1), oN 35 (oL 111 34), oN 36 (oF 108 4 0), oN 37 (oF 25 36 0), oN 38 (oL 22 37), oN 39 (oD .len #[ot 38] #[22]), oN 40 (oI .add 3 39 1 3), oN 41 (oM 1), oN 42 (oC 89 #[ot 35, ot 40, ot 41] #[111, 3, 3]), oN 14 (.alloc 42), ⟨none, none, (oS 42 14 42)⟩]
@[go_sem] def r96_8 : List MO := [oN 43 (oF 42 14 0), oN 44 (oL 3 43), oN 45 (oF 42 9 1), oN 46 (oL 3 45), oN 47 (oB .gtr 3 44 46 3), oN 48 (oM 47), oH 48 49 (oF 42 14 1), oH 48 50 (oL 3 49), oH 48 51 (oF 42 9 0), oH 48 52 (oL 3 51), oH 48 53 (oB .lss 3 50 52 3), oN 54 (.pick (ot 48) (.const (.bool true)) (ot 53))]
@[go_sem] def r96_9 : List MO := [oN 11 (.assign (.const (.bool true)))]
@[go_sem] def r96_10 : List MO := [oN 55 (oF 113 13 0), oN 56 (oL 22 55), oN 57 (oD .len #[ot 56] #[22]), oN 58 (.move (oK 0))]
@[go_sem] def r96_11 : List MO := [oN 59 (oB .lss 3 58 57 3)]
@[go_sem] def r96_12 : List MO := [oN 60 (oX 22 56 58), oN 61 (oL 3 60), oN 16 (oA 61)]
@[go_sem] def r96_13 : List MO := [oN 62 (oM 10), oN 63 (oM 16), ⟨none, none, (.mapUpdate 160 (ot 62) (ot 63) (.const (.bool true)))⟩]
@[go_sem] def r96_14 : List MO := [oN 64 (oI .add 3 58 1 3), oN 58 (oM 64)]
def l96_1 : MC := (.seq (.region [1, 4, 9, 10, 11, 28, 29, 30, 56, 57, 58, 59] r96_11) (.seq (.cond (.tmp 59) .skip (.exit 2)) (.seq (.block 3 (.seq (.region [1, 4, 9, 10, 11, 16, 28, 29, 30, 56, 57, 58] r96_12) (.region [1, 4, 9, 10, 11, 28, 29, 30, 56, 57, 58] r96_13))) (.region [1, 4, 9, 10, 11, 28, 29, 30, 56, 57, 58] r96_14))))
@[go_sem] def r96_15 : List MO := [oN 65 (oI .add 3 30 1 3), oN 30 (oM 65)]
def l96_0 : MC := (.seq (.region [1, 4, 9, 10, 11, 28, 29, 30, 31] r96_5) (.seq (.cond (.tmp 31) .skip (.exit 0)) (.seq (.block 1 (.seq (.region [1, 4, 9, 10, 11, 13, 28, 29, 30] r96_6) (.seq (.region [1, 4, 9, 10, 11, 13, 14, 28, 29, 30] r96_7) (.seq (.seq (.region [1, 4, 9, 10, 11, 13, 28, 29, 30, 54] r96_8) (.cond (.tmp 54) (.exit 1) .skip)) (.seq (.region [1, 4, 9, 10, 11, 13, 28, 29, 30] r96_9) (.seq (.region [1, 4, 9, 10, 11, 28, 29, 30, 56, 57, 58] r96_10) (.block 2 (.loop l96_1)))))))) (.region [1, 4, 9, 10, 11, 28, 29, 30] r96_15))))
@[go_sem] def r96_16 : List MO := [oN 66 (oM 11), oN 67 (.unOp .not 4 (ot 66))]
@[go_sem] def r96_17 : List MO := [oN 8 (.assign (.const (.int .i64 (-1))))]
@[go_sem] def r96_18 : List MO := [oN 68 (oM 10), oN 69 (oD .len #[ot 68] #[160]), oN 8 (oA 69)]
@[go_sem] def c96 : MC := (.seq (.region [1, 2, 3, 4] r96_0) (.seq (.region [1, 4, 9] r96_1) (.seq (.region [1, 4, 9, 10] r96_2) (.seq (.region [1, 4, 9, 10, 11] r96_3) (.seq (.seq (.region [1, 4, 9, 10, 11, 28, 29, 30] r96_4) (.block 0 (.loop l96_0))) (.seq (.seq (.region [10, 67] r96_16) (.cond (.tmp 67) (.seq (.region [8] r96_17) .ret) .skip)) (.seq (.region [8] r96_18) .ret)))))))
theorem m96 : Tryz.f96.body.bind (tM 70 c96) = some c96 := by kernel_rfl
theorem n96 : Callable Tryz.prog 96 := ⟨⟨_, Tryz.func96, by kernel_rfl, rfl⟩⟩
@[go_sem] def r97_0 : List MO := [oN 4 (.alloc 128)]
@[go_sem] def r97_1 : List MO := [oN 8 (oM 0), oN 9 (.indexAddr 126 (ot 8) (oK 0)), oN 10 (oL 128 9), oN 5 (.alloc 128), ⟨none, none, (oS 128 5 10)⟩]
@[go_sem] def r97_2 : List MO := [oN 11 (oM 0), oN 12 (oD .len #[ot 11] #[126]), oN 13 (.move (oK 0))]
@[go_sem] def r97_3 : List MO := [oN 14 (oB .lss 3 13 12 3)]
@[go_sem] def r97_4 : List MO := [oN 15 (oX 126 11 13), oN 16 (oL 128 15), oN 7 (.alloc 128), ⟨none, none, (oS 128 7 16)⟩]
@[go_sem] def r97_5 : List MO := [oN 17 (oM 1), oN 18 (oL 128 7), oN 19 (oL 128 5), oN 20 (.call { callee := (.value (ot 17)), args := #[(ot 18), (ot 19)], argTypes := #[128, 128] })]
@[go_sem] def r97_6 : List MO := [oN 21 (oL 128 7), ⟨none, none, (oS 128 5 21)⟩]
@[go_sem] def r97_7 : List MO := [oN 22 (oI .add 3 13 1 3), oN 13 (oM 22)]
def l97_0 : MC := (.seq (.region [1, 4, 5, 11, 12, 13, 14] r97_3) (.seq (.cond (.tmp 14) .skip (.exit 0)) (.seq (.block 1 (.seq (.region [1, 4, 5, 7, 11, 12, 13] r97_4) (.seq (.region [1, 4, 5, 7, 11, 12, 13, 20] r97_5) (.cond (.tmp 20) (.region [1, 4, 5, 11, 12, 13] r97_6) .skip)))) (.region [1, 4, 5, 11, 12, 13] r97_7))))
@[go_sem] def r97_8 : List MO := [oN 23 (oL 128 5), ⟨none, none, (oS 128 4 23)⟩]
@[go_sem] def c97 : MC := (.seq (.region [0, 1, 4] r97_0) (.seq (.region [0, 1, 4, 5] r97_1) (.seq (.seq (.region [1, 4, 5, 11, 12, 13] r97_2) (.block 0 (.loop l97_0))) (.seq (.region [4] r97_8) .ret))))
theorem m97 : Tryz.f97.body.bind (tM 24 c97) = some c97 := by kernel_rfl
theorem n97 : Callable Tryz.prog 97 := ⟨⟨_, Tryz.func97, by kernel_rfl, rfl⟩⟩
@[go_sem] def r98_0 : List MO := [oN 2 (.box 128 (ot 0)), oN 3 (.box 128 (ot 1)), oN 4 (.assign (.const (.bool false)))]
@[go_sem] def r98_1 : List MO := [oN 5 (oF 128 2 1), oN 6 (oL 3 5), oN 7 (oF 128 3 1), oN 8 (oL 3 7), oN 9 (oB .lss 3 6 8 3), oN 4 (oA 9)]
@[go_sem] def c98 : MC := (.seq (.region [2, 3] r98_0) (.seq (.region [4] r98_1) .ret))
theorem m98 : Tryz.f98.body.bind (tM 10 c98) = some c98 := by kernel_rfl
theorem n98 : Callable Tryz.prog 98 := ⟨⟨_, Tryz.func98, by kernel_rfl, rfl⟩⟩
theorem n99 : Callable Tryz.prog 99 := ⟨⟨_, Tryz.func99, by kernel_rfl, rfl⟩⟩
@[go_sem] def r100_0 : List MO := [oN 3 (.box 108 (ot 0)), oN 6 (.assign (.const (.bool false)))]
@[go_sem] def r100_1 : List MO := [oN 11 (oF 108 3 1), oN 12 (oL 106 11), oN 13 (oD .len #[ot 12] #[106]), oN 14 (.move (oK 0))]
@[go_sem] def r100_2 : List MO := [oN 15 (oB .lss 3 14 13 3)]
@[go_sem] def r100_3 : List MO := [oN 16 (oM 14), oN 17 (oX 106 12 14), oN 18 (oL 113 17), oN 8 (.alloc 113), oN 7 (oA 16), ⟨none, none, (oS 113 8 18)⟩]
@[go_sem] def r100_4 : List MO := [oN 19 (oF 108 3 1), oN 20 (oL 106 19), oN 21 (oM 7), oN 22 (.slice 106 (ot 20) none (some (ot 21)) none), oN 23 (oD .len #[ot 22] #[106]), oN 24 (.move (oK 0))]
@[go_sem] def r100_5 : List MO := [oN 25 (oB .lss 3 24 23 3)]
@[go_sem] def r100_6 : List MO := [oN 26 (oX 106 22 24), oN 27 (oL 113 26), oN 10 (.alloc 113), ⟨none, none, (oS 113 10 27)⟩]
@[go_sem] def r100_7 : List MO := [oN 28 (oL 108 3), oN 29 (oL 113 8), oN 30 (oL 113 10), oN 31 (oM 1), oN 32 (oM 2), oN 33 (oC 134 #[ot 28, ot 29, ot 30, ot 31, ot 32] #[108, 113, 113, 22, 3])]
@[go_sem] def r100_8 : List MO := [oN 6 (.assign (.const (.bool false)))]
@[go_sem] def r100_9 : List MO := [oN 34 (oI .add 3 24 1 3), oN 24 (oM 34)]
def l100_1 : MC := (.seq (.region [1, 2, 3, 8, 12, 13, 14, 22, 23, 24, 25] r100_5) (.seq (.cond (.tmp 25) .skip (.exit 2)) (.seq (.block 3 (.seq (.region [1, 2, 3, 8, 10, 12, 13, 14, 22, 23, 24] r100_6) (.seq (.region [1, 2, 3, 8, 12, 13, 14, 22, 23, 24, 33] r100_7) (.cond (.tmp 33) (.seq (.region [6] r100_8) .ret) .skip)))) (.region [1, 2, 3, 8, 12, 13, 14, 22, 23, 24] r100_9))))
@[go_sem] def r100_10 : List MO := [oN 35 (oI .add 3 14 1 3), oN 14 (oM 35)]
def l100_0 : MC := (.seq (.region [1, 2, 3, 12, 13, 14, 15] r100_2) (.seq (.cond (.tmp 15) .skip (.exit 0)) (.seq (.block 1 (.seq (.region [1, 2, 3, 7, 8, 12, 13, 14] r100_3) (.seq (.region [1, 2, 3, 8, 12, 13, 14, 22, 23, 24] r100_4) (.block 2 (.loop l100_1))))) (.region [1, 2, 3, 12, 13, 14] r100_10))))
@[go_sem] def r100_11 : List MO := [oN 6 (.assign (.const (.bool true)))]
@[go_sem] def c100 : MC := (.seq (.region [1, 2, 3] r100_0) (.seq (.seq (.region [1, 2, 3, 12, 13, 14] r100_1) (.block 0 (.loop l100_0))) (.seq (.region [6] r100_11) .ret)))
theorem m100 : Tryz.f100.body.bind (tM 36 c100) = some c100 := by kernel_rfl
theorem n100 : Callable Tryz.prog 100 := ⟨⟨_, Tryz.func100, by kernel_rfl, rfl⟩⟩
@[go_sem] def r101_0 : List MO := [oN 2 (.box 3 (ot 0)), oN 3 (.box 134 (ot 1)), oN 4 (.assign (.const (.slice none 0 0))), oN 5 (.assign (.const (.bool false)))]
@[go_sem] def r101_1 : List MO := [oN 6 (.alloc 22)]
@[go_sem] def r101_2 : List MO := [oN 7 (.alloc 162)]
@[go_sem] def r101_3 : List MO := [oN 9 (.makeFunc (.func 135) #[] #[(ot 6), (ot 3), (ot 2), (ot 7)]), ⟨none, none, (oS 162 7 9)⟩]
@[go_sem] def r101_4 : List MO := [oN 10 (oL 3 2), oN 11 (oI .add 3 10 1 3), oN 12 (.move (oK 0))]
@[go_sem] def r101_5 : List MO := [oN 13 (oB .lss 3 12 11 3)]
@[go_sem] def r101_6 : List MO := [oN 14 (oM 12), oN 8 (oA 14)]
@[go_sem] def r101_7 : List MO := [oN 15 (oL 162 7), oN 16 (oM 8), oN 17 (.call { callee := (.value (ot 15)), args := #[(.const (.slice none 0 0)), (oK 0), (ot 16)], argTypes := #[22, 3, 3] })]
@[go_sem] def r101_8 : List MO := [oN 18 (oL 22 6), oN 4 (oA 18), oN 5 (.assign (.const (.bool true)))]
@[go_sem] def r101_9 : List MO := [oN 19 (oI .add 3 12 1 3), oN 12 (oM 19)]
def l101_0 : MC := (.seq (.region [6, 7, 11, 12, 13] r101_5) (.seq (.cond (.tmp 13) .skip (.exit 0)) (.seq (.block 1 (.seq (.region [6, 7, 8, 11, 12] r101_6) (.seq (.region [6, 7, 11, 12, 17] r101_7) (.cond (.tmp 17) (.seq (.region [4, 5] r101_8) .ret) .skip)))) (.region [6, 7, 11, 12] r101_9))))
@[go_sem] def r101_10 : List MO := [oN 4 (.assign (.const (.slice none 0 0))), oN 5 (.assign (.const (.bool false)))]
@[go_sem] def c101 : MC := (.seq (.region [2, 3] r101_0) (.seq (.region [2, 3, 6] r101_1) (.seq (.region [2, 3, 6, 7] r101_2) (.seq (.region [2, 6, 7] r101_3) (.seq (.seq (.region [6, 7, 11, 12] r101_4) (.block 0 (.loop l101_0))) (.seq (.region [4, 5] r101_10) .ret))))))
theorem m101 : Tryz.f101.body.bind (tM 20 c101) = some c101 := by kernel_rfl
theorem n101 : Callable Tryz.prog 101 := ⟨⟨_, Tryz.func101, by kernel_rfl, rfl⟩⟩
@[go_sem] def r102_0 : List MO := [oN 4 (.assign (.const (.bool false)))]
@[go_sem] def r102_1 : List MO := [oN 5 (oL 108 1), oN 6 (oM 0), oN 7 (oL 3 2), oN 8 (oC 100 #[ot 5, ot 6, ot 7] #[108, 22, 3]), oN 4 (oA 8)]
@[go_sem] def c102 : MC := (.seq (.region [0, 1, 2] r102_0) (.seq (.region [4] r102_1) .ret))
theorem m102 : Tryz.f102.body.bind (tM 9 c102) = some c102 := by kernel_rfl
theorem n102 : Callable Tryz.prog 102 := ⟨⟨_, Tryz.func102, by kernel_rfl, rfl⟩⟩
@[go_sem] def r105_0 : List MO := [oN 3 (.assign (.const (.bool false)))]
@[go_sem] def r105_1 : List MO := [oN 7 (oL 25 1), oN 4 (.alloc 25), ⟨none, none, (oS 25 4 7)⟩]
@[go_sem] def r105_2 : List MO := [oN 8 (oF 25 4 4), ⟨none, none, (.store 23 (ot 8) (.const (.slice none 0 0)))⟩]
@[go_sem] def r105_3 : List MO := [oN 9 (oF 25 1 4), oN 10 (oL 23 9), oN 11 (oD .len #[ot 10] #[23]), oN 12 (.move (oK 0))]
@[go_sem] def r105_4 : List MO := [oN 13 (oB .lss 3 12 11 3)]
@[go_sem] def r105_5 : List MO := [oN 14 (oM 12), oN 15 (oX 23 10 12), oN 16 (oL 82 15), oN 6 (.alloc 82), oN 5 (oA 14), ⟨none, none, (oS 82 6 16)⟩]
@[go_sem] def r105_6 : List MO := [oN 17 (oM 0), oN 18 (oM 5), oN 19 (oC 76 #[ot 17, ot 18] #[22, 3]), oN 20 (.unOp .not 4 (ot 19))]
@[go_sem] def r105_7 : List MO := [oN 21 (oF 25 4 4), oN 22 (oL 23 21), oN 23 (oL 82 6), oN 24 (.buildSlice 23 1 #[(0, (ot 23))]), oN 25 (oD .append #[ot 22, ot 24] #[23, 23]), oN 26 (oF 25 4 4), ⟨none, none, (oS 23 26 25)⟩]
@[go_sem] def r105_8 : List MO := [oN 27 (oI .add 3 12 1 3), oN 12 (oM 27)]
def l105_0 : MC := (.seq (.region [0, 4, 10, 11, 12, 13] r105_4) (.seq (.cond (.tmp 13) .skip (.exit 0)) (.seq (.block 1 (.seq (.region [0, 4, 5, 6, 10, 11, 12] r105_5) (.seq (.region [0, 4, 6, 10, 11, 12, 20] r105_6) (.cond (.tmp 20) (.region [0, 4, 10, 11, 12] r105_7) .skip)))) (.region [0, 4, 10, 11, 12] r105_8))))
@[go_sem] def r105_9 : List MO := [oN 28 (oL 25 4), oN 29 (oC 94 #[ot 28] #[25]), oN 3 (oA 29)]
@[go_sem] def c105 : MC := (.seq (.region [0, 1] r105_0) (.seq (.region [0, 1, 4] r105_1) (.seq (.region [0, 1, 4] r105_2) (.seq (.seq (.region [0, 4, 10, 11, 12] r105_3) (.block 0 (.loop l105_0))) (.seq (.region [3] r105_9) .ret)))))
theorem m105 : Tryz.f105.body.bind (tM 30 c105) = some c105 := by kernel_rfl
theorem n105 : Callable Tryz.prog 105 := ⟨⟨_, Tryz.func105, by kernel_rfl, rfl⟩⟩
@[go_sem] def r107_0 : List MO := [oN 1 (.box 25 (ot 0)), oN 2 (.assign (.const (.string { data := #[] })))]
@[go_sem] def r107_1 : List MO := [oN 12 (oL 25 1), oN 13 (.build 167 #[(0, (ot 12))]), oN 14 (.makeInterface 167 (ot 13)), oN 15 (oC 138 #[ot 14] #[193]), oN 16 (.buildSlice 141 1 #[(0, (ot 15))]), oN 3 (oA 16)]
@[go_sem] def r107_2 : List MO := [oN 17 (oF 25 1 0), oN 18 (oL 22 17), oN 19 (oD .len #[ot 18] #[22]), oN 20 (.move (oK 0))]
@[go_sem] def r107_3 : List MO := [oN 21 (oB .lss 3 20 19 3)]
@[go_sem] def r107_4 : List MO := [oN 22 (oX 22 18 20), oN 23 (oL 3 22), oN 5 (oA 23)]
@[go_sem] def r107_5 : List MO := [oN 24 (oM 3), oN 25 (oM 5), oN 26 (.makeInterface 168 (ot 25)), oN 27 (oC 138 #[ot 26] #[193]), oN 28 (.buildSlice 141 1 #[(0, (ot 27))]), oN 29 (oD .append #[ot 24, ot 28] #[141, 141]), oN 3 (oA 29)]
@[go_sem] def r107_6 : List MO := [oN 30 (oI .add 3 20 1 3), oN 20 (oM 30)]
def l107_0 : MC := (.seq (.region [1, 3, 18, 19, 20, 21] r107_3) (.seq (.cond (.tmp 21) .skip (.exit 0)) (.seq (.block 1 (.seq (.region [1, 3, 5, 18, 19, 20] r107_4) (.region [1, 3, 18, 19, 20] r107_5))) (.region [1, 3, 18, 19, 20] r107_6))))
@[go_sem] def r107_7 : List MO := [oN 31 (oF 25 1 4), oN 32 (oL 23 31), oN 33 (oD .len #[ot 32] #[23]), oN 34 (.move (oK 0))]
@[go_sem] def r107_8 : List MO := [oN 35 (oB .lss 3 34 33 3)]
@[go_sem] def r107_9 : List MO := [oN 36 (oX 23 32 34), oN 37 (oL 82 36), oN 7 (.alloc 82), ⟨none, none, (oS 82 7 37)⟩]
@[go_sem] def r107_10 : List MO := [oN 38 (oM 3), oN 39 (oL 82 7), oN 40 (.build 170 #[(0, (ot 39))]), oN 41 (.makeInterface 170 (ot 40)), oN 42 (oC 138 #[ot 41] #[193]), oN 43 (.buildSlice 141 1 #[(0, (ot 42))]), oN 44 (oD .append #[ot 38, ot 43] #[141, 141]), oN 3 (oA 44)]
@[go_sem] def r107_11 : List MO := [oN 45 (oI .add 3 34 1 3), oN 34 (oM 45)]
def l107_1 : MC := (.seq (.region [3, 32, 33, 34, 35] r107_8) (.seq (.cond (.tmp 35) .skip (.exit 2)) (.seq (.block 3 (.seq (.region [3, 7, 32, 33, 34] r107_9) (.region [3, 32, 33, 34] r107_10))) (.region [3, 32, 33, 34] r107_11))))
@[go_sem] def r107_12 : List MO := [oN 8 (.assign (oK 0))]
@[go_sem] def r107_13 : List MO := [oN 46 (oM 3), oN 47 (oD .len #[ot 46] #[141]), oN 48 (.move (oK 0))]
@[go_sem] def r107_14 : List MO := [oN 49 (oB .lss 3 48 47 3)]
@[go_sem] def r107_15 : List MO := [oN 50 (oM 48), oN 51 (oX 141 46 48), oN 52 (oL 9 51), oN 9 (oA 50), oN 10 (oA 52)]
@[go_sem] def r107_16 : List MO := [oN 53 (oM 10), oN 54 (oD .len #[ot 53] #[9]), oN 55 (.move (oK 0))]
@[go_sem] def r107_17 : List MO := [oN 56 (oB .lss 3 55 54 3)]
@[go_sem] def r107_18 : List MO := [oN 57 (oM 55), oN 11 (oA 57)]
@[go_sem] def r107_19 : List MO := [oN 58 (oM 8), oN 59 (oM 10), oN 60 (oM 11), oN 61 (.index 9 (ot 59) (ot 60)), oN 62 (.convert 5 3 (ot 61)), oN 63 (oM 11), oN 64 (oI .add 3 63 1 3), oN 65 (oB .mul 3 62 64 3), oN 66 (oM 9), oN 67 (oI .add 3 66 1 3), oN 68 (oB .mul 3 65 67 3), oN 69 (oB .add 3 58 68 3), oN 8 (oA 69)]
@[go_sem] def r107_20 : List MO := [oN 70 (oI .add 3 55 1 3), oN 55 (oM 70)]
def l107_3 : MC := (.seq (.region [3, 8, 9, 10, 46, 47, 48, 54, 55, 56] r107_17) (.seq (.cond (.tmp 56) .skip (.exit 6)) (.seq (.block 7 (.seq (.region [3, 8, 9, 10, 11, 46, 47, 48, 54, 55] r107_18) (.region [3, 8, 9, 10, 46, 47, 48, 54, 55] r107_19))) (.region [3, 8, 9, 10, 46, 47, 48, 54, 55] r107_20))))
@[go_sem] def r107_21 : List MO := [oN 71 (oI .add 3 48 1 3), oN 48 (oM 71)]
def l107_2 : MC := (.seq (.region [3, 8, 46, 47, 48, 49] r107_14) (.seq (.cond (.tmp 49) .skip (.exit 4)) (.seq (.block 5 (.seq (.region [3, 8, 9, 10, 46, 47, 48] r107_15) (.seq (.region [3, 8, 9, 10, 46, 47, 48, 54, 55] r107_16) (.block 6 (.loop l107_3))))) (.region [3, 8, 46, 47, 48] r107_21))))
@[go_sem] def r107_22 : List MO := [oN 72 (oM 8), oN 73 (oI .rem 3 72 157 3), oN 8 (oA 73)]
@[go_sem] def r107_23 : List MO := [oN 74 (oM 3), oN 75 (oM 8), oN 76 (oI .quo 3 75 100 3), oN 77 (oC 139 #[ot 76] #[3]), oN 78 (.binOp .add 9 (.const (.string { data := #[101, 110, 100, 32] })) (ot 77) 9), oN 79 (oM 8), oN 80 (oI .quo 3 79 10 3), oN 81 (oI .rem 3 80 10 3), oN 82 (oC 139 #[ot 81] #[3]), oN 83 (oB .add 9 78 82 9), oN 84 (oM 8), oN 85 (oI .rem 3 84 10 3), oN 86 (oC 139 #[ot 85] #[3]), oN 87 (oB .add 9 83 86 9), oN 88 (.buildSlice 141 1 #[(0, (ot 87))]), oN 89 (oD .append #[ot 74, ot 88] #[141, 141]), oN 3 (oA 89)]
@[go_sem] def r107_24 : List MO := [oN 90 (oM 3), oN 91 (oC 140 #[ot 90, (.const (.string { data := #[10] }))] #[141, 9]), oN 92 (.binOp .add 9 (ot 91) (.const (.string { data := #[10] })) 9), oN 2 (oA 92)]
@[go_sem] def c107 : MC := (.seq (.region [1] r107_0) (.seq (.region [1, 3] r107_1) (.seq (.seq (.region [1, 3, 18, 19, 20] r107_2) (.block 0 (.loop l107_0))) (.seq (.seq (.region [3, 32, 33, 34] r107_7) (.block 2 (.loop l107_1))) (.seq (.region [3, 8] r107_12) (.seq (.seq (.region [3, 8, 46, 47, 48] r107_13) (.block 4 (.loop l107_2))) (.seq (.region [3, 8] r107_22) (.seq (.region [3] r107_23) (.seq (.region [2] r107_24) .ret)))))))))
theorem m107 : Tryz.f107.body.bind (tM 93 c107) = some c107 := by kernel_rfl
theorem n107 : Callable Tryz.prog 107 := ⟨⟨_, Tryz.func107, by kernel_rfl, rfl⟩⟩
@[go_sem] def r108_0 : List MO := [oN 2 (.alloc 29)]
@[go_sem] def r108_2 : List MO := [oN 4 (oM 0), oN 5 (.call { callee := (.value (ot 4)), args := #[], argTypes := #[] })]
@[go_sem] def r108_3 : List MO := [⟨none, none, (.store 29 (ot 2) (oK 0))⟩]
theorem n108 : Callable Tryz.prog 108 := ⟨⟨_, Tryz.func108, by kernel_rfl, rfl⟩⟩
@[go_sem] def r109_0 : List MO := [oN 2 (oL 9 0), oN 3 (oC 110 #[ot 2] #[9]), ⟨none, none, (oS 25 1 3)⟩]
@[go_sem] def c109 : MC := (.region [] r109_0)
theorem m109 : Tryz.f109.body.bind (tM 4 c109) = some c109 := by kernel_rfl
theorem n109 : Callable Tryz.prog 109 := ⟨⟨_, Tryz.func109, by kernel_rfl, rfl⟩⟩
@[go_sem] def r110_0 : List MO := [oN 2 (.alloc 25)]
@[go_sem] def r110_1 : List MO := [oN 10 (oM 0), oN 11 (oC 142 #[ot 10, (.const (.string { data := #[10] }))] #[9, 9]), oN 3 (oA 11)]
@[go_sem] def r110_2 : List MO := [oN 12 (oM 3), oN 13 (oD .len #[ot 12] #[141]), oN 14 (oI .geq 3 13 3 3), oN 15 (oM 0), oN 16 (oC 143 #[ot 14, ot 15] #[4, 9])]
@[go_sem] def r110_3 : List MO := [oN 17 (oM 3), oN 18 (.indexAddr 141 (ot 17) (oK 0)), oN 19 (oL 9 18), oN 20 (oC 144 #[ot 19, oK 0, oK 3] #[9, 3, 3]), oN 4 (oA 20)]
@[go_sem] def r110_4 : List MO := [oN 21 (oM 4), oN 22 (.indexAddr 22 (ot 21) (oK 0)), oN 23 (oL 3 22), oN 24 (oM 4), oN 25 (.indexAddr 22 (ot 24) (oK 1)), oN 26 (oL 3 25), oN 27 (oM 4), oN 28 (.indexAddr 22 (ot 27) (oK 2)), oN 29 (oL 3 28), oN 30 (.build 25 #[(1, (ot 23)), (2, (ot 26)), (3, (ot 29))]), oN 5 (.alloc 25), ⟨none, none, (oS 25 5 30)⟩]
@[go_sem] def r110_5 : List MO := [oN 31 (oM 3), oN 32 (oM 3), oN 33 (oD .len #[ot 32] #[141]), oN 34 (oI .sub 3 33 2 3), oN 35 (.slice 141 (ot 31) (some (oK 1)) (some (ot 34)) none), oN 36 (oD .len #[ot 35] #[141]), oN 37 (.move (oK 0))]
@[go_sem] def r110_6 : List MO := [oN 38 (oB .lss 3 37 36 3)]
@[go_sem] def r110_7 : List MO := [oN 39 (oX 141 35 37), oN 40 (oL 9 39), oN 7 (oA 40)]
@[go_sem] def r110_8 : List MO := [oN 41 (oM 7), oN 42 (oC 146 #[] #[]), oN 43 (.index 181 (ot 42) (oK 1)), oN 44 (oC 145 #[ot 41, ot 43] #[9, 9])]
@[go_sem] def r110_9 : List MO := [oN 45 (oM 7), oN 46 (oC 144 #[ot 45, oK 1, oK 1] #[9, 3, 3]), oN 8 (oA 46)]
@[go_sem] def r110_10 : List MO := [oN 47 (oF 25 5 0), oN 48 (oL 22 47), oN 49 (oM 8), oN 50 (.indexAddr 22 (ot 49) (oK 0)), oN 51 (oL 3 50), oN 52 (.buildSlice 22 1 #[(0, (ot 51))]), oN 53 (oD .append #[ot 48, ot 52] #[22, 22]), oN 54 (oF 25 5 0), ⟨none, none, (oS 22 54 53)⟩]
@[go_sem] def r110_11 : List MO := [oN 55 (oM 7), oN 56 (oC 144 #[ot 55, oK 2, oK 3] #[9, 3, 3]), oN 9 (oA 56)]
@[go_sem] def r110_12 : List MO := [oN 57 (oF 25 5 4), oN 58 (oL 23 57), oN 59 (oM 9), oN 60 (.indexAddr 22 (ot 59) (oK 0)), oN 61 (oL 3 60), oN 62 (oM 9), oN 63 (.indexAddr 22 (ot 62) (oK 1)), oN 64 (oL 3 63), oN 65 (oM 9), oN 66 (.indexAddr 22 (ot 65) (oK 2)), oN 67 (oL 3 66), oN 68 (.build 82 #[(0, (ot 61)), (1, (ot 64)), (2, (ot 67))]), oN 69 (.buildSlice 23 1 #[(0, (ot 68))]), oN 70 (oD .append #[ot 58, ot 69] #[23, 23]), oN 71 (oF 25 5 4), ⟨none, none, (oS 23 71 70)⟩]
@[go_sem] def r110_13 : List MO := [oN 72 (oI .add 3 37 1 3), oN 37 (oM 72)]
def l110_0 : MC := (.seq (.region [0, 2, 5, 35, 36, 37, 38] r110_6) (.seq (.cond (.tmp 38) .skip (.exit 0)) (.seq (.block 1 (.seq (.region [0, 2, 5, 7, 35, 36, 37] r110_7) (.seq (.seq (.region [0, 2, 5, 7, 35, 36, 37, 44] r110_8) (.cond (.tmp 44) (.seq (.region [0, 2, 5, 8, 35, 36, 37] r110_9) (.seq (.draw [0, 2, 5, 35, 36, 37] 6 [] r110_10) (.exit 1))) .skip)) (.seq (.region [0, 2, 5, 9, 35, 36, 37] r110_11) (.draw [0, 2, 5, 35, 36, 37] 13 [] r110_12))))) (.region [0, 2, 5, 35, 36, 37] r110_13))))
@[go_sem] def r110_14 : List MO := [oN 73 (oL 25 5), oN 74 (oC 107 #[ot 73] #[25]), oN 75 (oM 0), oN 76 (oB .eql 9 74 75 9), oN 77 (oM 0), oN 78 (oC 143 #[ot 76, ot 77] #[4, 9])]
@[go_sem] def r110_15 : List MO := [oN 79 (oL 25 5), ⟨none, none, (oS 25 2 79)⟩]
@[go_sem] def c110 : MC := (.seq (.region [0, 2] r110_0) (.seq (.region [0, 2, 3] r110_1) (.seq (.region [0, 2, 3] r110_2) (.seq (.region [0, 2, 3, 4] r110_3) (.seq (.draw [0, 2, 3, 5] 11 [] r110_4) (.seq (.seq (.region [0, 2, 5, 35, 36, 37] r110_5) (.block 0 (.loop l110_0))) (.seq (.region [2, 5] r110_14) (.seq (.region [2] r110_15) .ret))))))))
theorem m110 : Tryz.f110.body.bind (tM 80 c110) = some c110 := by kernel_rfl
theorem n110 : Callable Tryz.prog 110 := ⟨⟨_, Tryz.func110, by kernel_rfl, rfl⟩⟩
@[go_sem] def r111_0 : List MO := [oN 4 (.assign (.const (.string { data := #[] })))]
@[go_sem] def r111_1 : List MO := [oN 5 (.assign (oK 0))]
@[go_sem] def r111_2 : List MO := [oN 6 (oM 5), oN 7 (oM 1), oN 8 (oD .len #[ot 7] #[22]), oN 9 (oB .lss 3 6 8 3)]
@[go_sem] def r111_4 : List MO := [oN 12 (oM 0), oN 13 (.binOp .add 9 (ot 12) (.const (.string { data := #[32] })) 9), oN 14 (oM 1), oN 15 (oM 5), oN 16 (oX 22 14 15), oN 17 (oL 3 16), oN 18 (oC 147 #[ot 17] #[3]), oN 19 (oB .add 9 13 18 9), oN 0 (oA 19)]
@[go_sem] def r111_3 : List MO := [oN 10 (oM 5), oN 11 (oI .add 3 10 1 3), oN 5 (oA 11)]
def l111_0 : MC := (.seq (.seq (.region [0, 1, 5, 9] r111_2) (.cond (.tmp 9) .skip (.exit 0))) (.seq (.block 1 (.region [0, 1, 5] r111_4)) (.region [0, 1, 5] r111_3)))
@[go_sem] def r111_5 : List MO := [oN 20 (oM 0), oN 4 (oA 20)]
@[go_sem] def c111 : MC := (.seq (.region [0, 1] r111_0) (.seq (.seq (.region [0, 1, 5] r111_1) (.block 0 (.loop l111_0))) (.seq (.region [4] r111_5) .ret)))
theorem m111 : Tryz.f111.body.bind (tN 21 [0, 1, 2, 4, 3, 5] c111) = some c111 := by kernel_rfl
theorem n111 : Callable Tryz.prog 111 := ⟨⟨_, Tryz.func111, by kernel_rfl, rfl⟩⟩
@[go_sem] def r112_0 : List MO := [oN 4 (.assign (.const (.string { data := #[] })))]
@[go_sem] def r112_1 : List MO := [oN 5 (.assign (.const (.string { data := #[] }))), oN 6 (.assign (oK 0))]
@[go_sem] def r112_2 : List MO := [oN 7 (.assign (oK 0))]
@[go_sem] def r112_3 : List MO := [oN 9 (oM 7), oN 10 (oM 0), oN 11 (oD .len #[ot 10] #[141]), oN 12 (oB .lss 3 9 11 3)]
@[go_sem] def r112_5 : List MO := [oN 8 (.assign (oK 0))]
@[go_sem] def r112_6 : List MO := [oN 15 (oM 8), oN 16 (oM 0), oN 17 (oM 7), oN 18 (oX 141 16 17), oN 19 (oL 9 18), oN 20 (oD .len #[ot 19] #[9]), oN 21 (oB .lss 3 15 20 3)]
@[go_sem] def r112_8 : List MO := [oN 24 (oM 6), oN 25 (oM 0), oN 26 (oM 7), oN 27 (oX 141 25 26), oN 28 (oL 9 27), oN 29 (oM 8), oN 30 (.index 9 (ot 28) (ot 29)), oN 31 (.convert 5 3 (ot 30)), oN 32 (oM 8), oN 33 (oI .add 3 32 1 3), oN 34 (oB .mul 3 31 33 3), oN 35 (oM 7), oN 36 (oI .add 3 35 1 3), oN 37 (oB .mul 3 34 36 3), oN 38 (oB .add 3 24 37 3), oN 6 (oA 38)]
@[go_sem] def r112_7 : List MO := [oN 22 (oM 8), oN 23 (oI .add 3 22 1 3), oN 8 (oA 23)]
def l112_1 : MC := (.seq (.seq (.region [0, 1, 5, 6, 7, 8, 21] r112_6) (.cond (.tmp 21) .skip (.exit 2))) (.seq (.block 3 (.region [0, 1, 5, 6, 7, 8] r112_8)) (.region [0, 1, 5, 6, 7, 8] r112_7)))
@[go_sem] def r112_9 : List MO := [oN 39 (oM 5), oN 40 (oM 0), oN 41 (oM 7), oN 42 (oX 141 40 41), oN 43 (oL 9 42), oN 44 (oB .add 9 39 43 9), oN 45 (.binOp .add 9 (ot 44) (.const (.string { data := #[10] })) 9), oN 5 (oA 45)]
@[go_sem] def r112_4 : List MO := [oN 13 (oM 7), oN 14 (oI .add 3 13 1 3), oN 7 (oA 14)]
def l112_0 : MC := (.seq (.seq (.region [0, 1, 5, 6, 7, 12] r112_3) (.cond (.tmp 12) .skip (.exit 0))) (.seq (.block 1 (.seq (.seq (.region [0, 1, 5, 6, 7, 8] r112_5) (.block 2 (.loop l112_1))) (.region [0, 1, 5, 6, 7] r112_9))) (.region [0, 1, 5, 6, 7] r112_4)))
@[go_sem] def r112_10 : List MO := [oN 46 (oM 6), oN 47 (oM 1), oN 48 (oB .rem 3 46 47 3), oN 6 (oA 48)]
@[go_sem] def r112_11 : List MO := [oN 49 (oM 5), oN 50 (.binOp .add 9 (ot 49) (.const (.string { data := #[101, 110, 100, 32] })) 9), oN 51 (oM 6), oN 52 (oI .quo 3 51 100 3), oN 53 (oC 147 #[ot 52] #[3]), oN 54 (oB .add 9 50 53 9), oN 55 (oM 6), oN 56 (oI .quo 3 55 10 3), oN 57 (oI .rem 3 56 10 3), oN 58 (oC 147 #[ot 57] #[3]), oN 59 (oB .add 9 54 58 9), oN 60 (oM 6), oN 61 (oI .rem 3 60 10 3), oN 62 (oC 147 #[ot 61] #[3]), oN 63 (oB .add 9 59 62 9), oN 64 (.binOp .add 9 (ot 63) (.const (.string { data := #[10] })) 9), oN 4 (oA 64)]
@[go_sem] def c112 : MC := (.seq (.region [0, 1] r112_0) (.seq (.region [0, 1, 5, 6] r112_1) (.seq (.seq (.region [0, 1, 5, 6, 7] r112_2) (.block 0 (.loop l112_0))) (.seq (.region [5, 6] r112_10) (.seq (.region [4] r112_11) .ret)))))
theorem m112 : Tryz.f112.body.bind (tN 65 [0, 1, 2, 3, 5, 6, 8, 7, 9, 4, 10, 11] c112) = some c112 := by kernel_rfl
theorem n112 : Callable Tryz.prog 112 := ⟨⟨_, Tryz.func112, by kernel_rfl, rfl⟩⟩
@[go_sem] def r115_0 : List MO := [oN 2 (.box 25 (ot 0)), oN 3 (.box 96 (ot 1)), oN 4 (.assign (.const (.bool false)))]
@[go_sem] def r115_1 : List MO := [oN 5 (oF 96 3 0), oN 6 (oL 3 5), oN 7 (oC 127 #[ot 6] #[3]), oN 8 (oM 7), oG 8 9 (oF 96 3 1), oG 8 10 (oL 22 9), oG 8 11 (oD .len #[ot 10] #[22]), oG 8 12 (oF 25 2 0), oG 8 13 (oL 22 12), oG 8 14 (oD .len #[ot 13] #[22]), oG 8 15 (oB .eql 3 11 14 3), oN 16 (oP 8 15 false), oN 17 (oM 16), oG 17 18 (oF 96 3 1), oG 17 19 (oL 22 18), oG 17 20 (.makeFunc (.func 149) #[] #[(ot 2)]), oG 17 21 (oC 123 #[ot 19, ot 20] #[22, 64]), oG 17 22 (.unOp .not 4 (ot 21)), oN 23 (oP 17 22 false), oN 4 (oA 23)]
@[go_sem] def c115 : MC := (.seq (.region [2, 3] r115_0) (.seq (.region [4] r115_1) .ret))
theorem m115 : Tryz.f115.body.bind (tM 24 c115) = some c115 := by kernel_rfl
theorem n115 : Callable Tryz.prog 115 := ⟨⟨_, Tryz.func115, by kernel_rfl, rfl⟩⟩
@[go_sem] def r116_0 : List MO := [oN 2 (oL 25 0), oN 3 (oL 96 1), oN 4 (oC 117 #[ot 2, ot 3] #[25, 96])]
@[go_sem] def c116 : MC := (.region [] r116_0)
theorem m116 : Tryz.f116.body.bind (tM 5 c116) = some c116 := by kernel_rfl
theorem n116 : Callable Tryz.prog 116 := ⟨⟨_, Tryz.func116, by kernel_rfl, rfl⟩⟩
@[go_sem] def r117_0 : List MO := [oN 2 (.box 25 (ot 0)), oN 3 (.box 96 (ot 1))]
@[go_sem] def r117_1 : List MO := [oN 8 (oF 96 3 0), oN 9 (oL 3 8), oN 4 (.alloc 3), ⟨none, none, (oS 3 4 9)⟩, oN 5 (.assign (oK 0))]
@[go_sem] def r117_2 : List MO := [oN 10 (oF 25 2 0), oN 11 (oL 22 10), oN 12 (oD .len #[ot 11] #[22]), oN 13 (oI .add 3 12 1 3), oN 14 (.move (oK 0))]
@[go_sem] def r117_3 : List MO := [oN 15 (oB .lss 3 14 13 3)]
@[go_sem] def r117_4 : List MO := [oN 16 (oM 14), oN 6 (.alloc 3), ⟨none, none, (oS 3 6 16)⟩]
@[go_sem] def r117_5 : List MO := [oN 17 (oL 3 6), oN 18 (oI .gtr 3 17 0 3)]
@[go_sem] def r117_6 : List MO := [oN 19 (oL 3 4), oN 20 (oF 25 2 0), oN 21 (oL 22 20), oN 22 (oL 3 6), oN 23 (oI .sub 3 22 1 3), oN 24 (oX 22 21 23), oN 25 (oL 3 24), oN 26 (oF 96 3 1), oN 27 (oL 22 26), oN 28 (oL 3 6), oN 29 (oI .sub 3 28 1 3), oN 30 (oX 22 27 29), oN 31 (oL 3 30), oN 32 (.buildSlice 22 2 #[(0, (ot 25)), (1, (ot 31))]), oN 33 (oC 130 #[ot 32] #[22]), oN 34 (oB .sub 3 19 33 3), ⟨none, none, (oS 3 4 34)⟩]
@[go_sem] def r117_7 : List MO := [oN 35 (oF 96 3 1), oN 36 (oL 22 35), oN 37 (oL 3 6), oN 38 (oI .sub 3 37 1 3), oN 39 (oX 22 36 38), oN 40 (oL 3 39), oN 41 (oI .gtr 3 40 0 3)]
@[go_sem] def r117_8 : List MO := [oN 42 (oM 5), oN 43 (oI .add 3 42 1 3), oN 5 (oA 43)]
@[go_sem] def r117_9 : List MO := [oN 44 (oF 25 2 4), oN 45 (oL 23 44), oN 46 (.makeFunc (.func 150) #[] #[(ot 6), (ot 4)]), oN 47 (oC 125 #[ot 45, ot 46] #[23, 152]), oN 7 (oA 47)]
@[go_sem] def r117_10 : List MO := [oN 48 (oL 3 4), oN 49 (oI .lss 3 48 0 3), oN 50 (oM 49), oH 50 51 (oM 5), oH 50 52 (oF 25 2 3), oH 50 53 (oL 3 52), oH 50 54 (oB .gtr 3 51 53 3), oN 55 (.pick (ot 50) (.const (.bool true)) (ot 54)), oN 56 (oM 55), oH 56 57 (oM 7), oN 58 (.pick (ot 56) (.const (.bool true)) (ot 57))]
@[go_sem] def r117_11 : List MO := [oN 59 (oL 3 6), oN 60 (.build 174 #[(0, (ot 59))]), oN 61 (.makeInterface 174 (ot 60)), ⟨none, none, (.panic (ot 61))⟩]
@[go_sem] def r117_12 : List MO := [oN 62 (oI .add 3 14 1 3), oN 14 (oM 62)]
def l117_0 : MC := (.seq (.region [2, 3, 4, 5, 13, 14, 15] r117_3) (.seq (.cond (.tmp 15) .skip (.exit 0)) (.seq (.block 1 (.seq (.region [2, 3, 4, 5, 6, 13, 14] r117_4) (.seq (.seq (.region [2, 3, 4, 5, 6, 13, 14, 18] r117_5) (.cond (.tmp 18) (.seq (.draw [2, 3, 4, 5, 6, 13, 14] 15 [] r117_6) (.seq (.region [2, 3, 4, 5, 6, 13, 14, 41] r117_7) (.cond (.tmp 41) (.region [2, 3, 4, 5, 6, 13, 14] r117_8) .skip))) .skip)) (.seq (.region [2, 3, 4, 5, 6, 7, 13, 14] r117_9) (.seq (.region [2, 3, 4, 5, 6, 13, 14, 58] r117_10) (.cond (.tmp 58) (.region [2, 3, 4, 5, 13, 14] r117_11) .skip)))))) (.region [2, 3, 4, 5, 13, 14] r117_12))))
@[go_sem] def c117 : MC := (.seq (.region [2, 3] r117_0) (.seq (.region [2, 3, 4, 5] r117_1) (.seq (.region [2, 3, 4, 5, 13, 14] r117_2) (.block 0 (.loop l117_0)))))
theorem m117 : Tryz.f117.body.bind (tM 63 c117) = some c117 := by kernel_rfl
theorem n117 : Callable Tryz.prog 117 := ⟨⟨_, Tryz.func117, by kernel_rfl, rfl⟩⟩
@[go_sem] def r118_0 : List MO := [oN 1 (.box 25 (ot 0)), oN 2 (.alloc 108)]
@[go_sem] def r118_1 : List MO := [oN 7 (oL 25 1), oN 8 (.build 108 #[(0, (ot 7))]), oN 3 (.alloc 108), ⟨none, none, (oS 108 3 8)⟩]
@[go_sem] def r118_2 : List MO := [oN 9 (oL 25 1), oN 10 (oC 151 #[ot 9] #[25])]
@[go_sem] def r118_3 : List MO := [oN 4 (oA 11)]
@[go_sem] def r118_4 : List MO := [oN 13 (oL 25 1), oN 14 (oM 4), oN 15 (oC 84 #[ot 13, ot 14] #[25, 22]), oN 12 (oM 15), oN 16 (oE 12 0), oN 17 (oE 12 1), oN 5 (oA 16), oN 6 (oA 17)]
@[go_sem] def r118_5 : List MO := [oN 18 (oM 6)]
@[go_sem] def r118_6 : List MO := [oN 19 (oF 108 3 1), oN 20 (oL 106 19), oN 21 (oM 4), oN 22 (oM 5), oN 23 (.build 113 #[(0, (ot 21)), (1, (ot 22))]), oN 24 (.buildSlice 106 1 #[(0, (ot 23))]), oN 25 (oD .append #[ot 20, ot 24] #[106, 106]), oN 26 (oF 108 3 1), ⟨none, none, (oS 106 26 25)⟩]
def a118_0 : MC := (.region [1, 3, 4] r118_3)
def b118_0 : MC := (.block 1 (.seq (.region [3, 4, 5, 6] r118_4) (.seq (.region [3, 4, 5, 18] r118_5) (.cond (.tmp 18) (.region [] r118_6) .skip))))
@[go_sem] def r118_7 : List MO := [oN 27 (oL 108 3), ⟨none, none, (oS 108 2 27)⟩]
@[go_sem] def c118 : MC := (.seq (.region [1, 2] r118_0) (.seq (.region [1, 2, 3] r118_1) (.seq (.seq (.region [1, 2, 3, 10] r118_2) (.block 0 (.rangeFunc (.tmp 10) [11] a118_0 b118_0))) (.seq (.region [2] r118_7) .ret))))
theorem m118 : Tryz.f118.body.bind (tM 28 c118) = some c118 := by kernel_rfl
theorem n118 : Callable Tryz.prog 118 := ⟨⟨_, Tryz.func118, by kernel_rfl, rfl⟩⟩
@[go_sem] def r119_0 : List MO := [oN 4 (.assign (oK 0))]
@[go_sem] def r119_1 : List MO := [oN 6 (oM 0), oN 7 (oD .len #[ot 6] #[22]), oN 8 (.move (oK 0))]
@[go_sem] def r119_2 : List MO := [oN 9 (oB .lss 3 8 7 3)]
@[go_sem] def r119_3 : List MO := [oN 10 (oM 8), oN 5 (oA 10)]
@[go_sem] def r119_4 : List MO := [oN 11 (oM 1), oN 12 (oM 0), oN 13 (oM 5), oN 14 (oX 22 12 13), oN 15 (oL 3 14), oN 16 (oB .eql 3 11 15 3)]
@[go_sem] def r119_5 : List MO := [oN 17 (oM 5), oN 4 (oA 17)]
@[go_sem] def r119_6 : List MO := [oN 18 (oI .add 3 8 1 3), oN 8 (oM 18)]
def l119_0 : MC := (.seq (.region [0, 1, 7, 8, 9] r119_2) (.seq (.cond (.tmp 9) .skip (.exit 0)) (.seq (.block 1 (.seq (.region [0, 1, 5, 7, 8] r119_3) (.seq (.region [0, 1, 5, 7, 8, 16] r119_4) (.cond (.tmp 16) (.seq (.region [4] r119_5) .ret) .skip)))) (.region [0, 1, 7, 8] r119_6))))
@[go_sem] def r119_7 : List MO := [oN 4 (.assign (.const (.int .i64 (-1))))]
@[go_sem] def c119 : MC := (.seq (.region [0, 1] r119_0) (.seq (.seq (.region [0, 1, 7, 8] r119_1) (.block 0 (.loop l119_0))) (.seq (.region [4] r119_7) .ret)))
theorem m119 : Tryz.f119.body.bind (tM 19 c119) = some c119 := by kernel_rfl
theorem n119 : Callable Tryz.prog 119 := ⟨⟨_, Tryz.func119, by kernel_rfl, rfl⟩⟩
@[go_sem] def r120_0 : List MO := [oN 2 (.assign (.const (.slice none 0 0)))]
@[go_sem] def r120_1 : List MO := [oN 3 (.assign (.const (.slice none 0 0)))]
@[go_sem] def r120_2 : List MO := [oN 4 (.assign (oK 0))]
@[go_sem] def r120_3 : List MO := [oN 7 (oM 4), oN 8 (oM 0), oN 9 (oB .leq 3 7 8 3)]
@[go_sem] def r120_5 : List MO := [oN 12 (oM 0), oN 13 (oI .add 3 12 1 3), oN 14 (.makeSlice 22 (ot 13) (ot 13)), oN 5 (oA 14)]
@[go_sem] def r120_6 : List MO := [oN 6 (.assign (oK 0))]
@[go_sem] def r120_7 : List MO := [oN 15 (oM 6), oN 16 (oM 0), oN 17 (oB .leq 3 15 16 3)]
@[go_sem] def r120_9 : List MO := [oN 20 (oM 6), oN 21 (oM 4), oN 22 (oB .neq 3 20 21 3)]
@[go_sem] def r120_10 : List MO := [oN 23 (oM 5), oN 24 (oM 6), oN 25 (oX 22 23 24), ⟨none, none, (.store 3 (ot 25) (oK 400))⟩]
@[go_sem] def r120_11 : List MO := [oN 26 (oM 4), oN 27 (oI .gtr 3 26 0 3), oN 28 (oM 27), oG 28 29 (oM 6), oG 28 30 (oI .eql 3 29 0 3), oN 31 (oP 28 30 false)]
@[go_sem] def r120_12 : List MO := [oN 32 (oM 5), oN 33 (oM 6), oN 34 (oX 22 32 33), ⟨none, none, (.store 3 (ot 34) (oK 0))⟩]
@[go_sem] def r120_8 : List MO := [oN 18 (oM 6), oN 19 (oI .add 3 18 1 3), oN 6 (oA 19)]
def l120_1 : MC := (.seq (.seq (.region [0, 3, 4, 5, 6, 17] r120_7) (.cond (.tmp 17) .skip (.exit 2))) (.seq (.block 3 (.seq (.seq (.region [0, 3, 4, 5, 6, 22] r120_9) (.cond (.tmp 22) (.region [0, 3, 4, 5, 6] r120_10) .skip)) (.seq (.region [0, 3, 4, 5, 6, 31] r120_11) (.cond (.tmp 31) (.region [0, 3, 4, 5, 6] r120_12) .skip)))) (.region [0, 3, 4, 5, 6] r120_8)))
@[go_sem] def r120_13 : List MO := [oN 35 (oM 3), oN 36 (oM 5), oN 37 (.buildSlice 114 1 #[(0, (ot 36))]), oN 38 (oD .append #[ot 35, ot 37] #[114, 114]), oN 3 (oA 38)]
@[go_sem] def r120_4 : List MO := [oN 10 (oM 4), oN 11 (oI .add 3 10 1 3), oN 4 (oA 11)]
def l120_0 : MC := (.seq (.seq (.region [0, 3, 4, 9] r120_3) (.cond (.tmp 9) .skip (.exit 0))) (.seq (.block 1 (.seq (.region [0, 3, 4, 5] r120_5) (.seq (.seq (.region [0, 3, 4, 5, 6] r120_6) (.block 2 (.loop l120_1))) (.region [0, 3, 4] r120_13)))) (.region [0, 3, 4] r120_4)))
@[go_sem] def r120_14 : List MO := [oN 39 (oM 3), oN 2 (oA 39)]
@[go_sem] def c120 : MC := (.seq (.region [0] r120_0) (.seq (.region [0, 3] r120_1) (.seq (.seq (.region [0, 3, 4] r120_2) (.block 0 (.loop l120_0))) (.seq (.region [2] r120_14) .ret))))
theorem m120 : Tryz.f120.body.bind (tN 40 [0, 1, 2, 3, 5, 6, 7, 9, 10, 11, 12, 8, 13, 4, 14] c120) = some c120 := by kernel_rfl
theorem n120 : Callable Tryz.prog 120 := ⟨⟨_, Tryz.func120, by kernel_rfl, rfl⟩⟩
@[go_sem] def r121_0 : List MO := [oN 5 (.box 25 (ot 1))]
@[go_sem] def r121_1 : List MO := [oN 8 (.assign (oK 0))]
@[go_sem] def r121_2 : List MO := [oN 13 (oM 8), oN 14 (oF 25 5 0), oN 15 (oL 22 14), oN 16 (oD .len #[ot 15] #[22]), oN 17 (oB .lss 3 13 16 3)]
@[go_sem] def r121_4 : List MO := [oN 20 (oF 25 5 0), oN 21 (oL 22 20), oN 22 (oM 8), oN 23 (oX 22 21 22), oN 24 (oL 3 23), oN 25 (.unOp .neg 3 (ot 24)), oN 26 (oF 25 5 0), oN 27 (oL 22 26), oN 28 (oM 8), oN 29 (oX 22 27 28), oN 30 (oL 3 29), oN 31 (.unOp .neg 3 (ot 30)), oN 9 (oA 25), oN 10 (oA 31)]
@[go_sem] def r121_5 : List MO := [oN 32 (oM 2), oN 33 (oM 8), oN 34 (oC 77 #[ot 32, ot 33] #[22, 3])]
@[go_sem] def r121_6 : List MO := [oN 35 (oM 9), oN 36 (oF 25 5 2), oN 37 (oL 3 36), oN 38 (oB .sub 3 35 37 3), oN 39 (oM 10), oN 40 (oF 25 5 1), oN 41 (oL 3 40), oN 42 (oB .sub 3 39 41 3), oN 9 (oA 38), oN 10 (oA 42)]
@[go_sem] def r121_7 : List MO := [oN 43 (oM 0), oN 44 (oM 3), oN 45 (oM 8), oN 46 (oB .add 3 44 45 3), oN 47 (oI .add 3 46 1 3), oN 48 (oM 3), oN 49 (oM 8), oN 50 (oB .add 3 48 49 3), oN 51 (oM 9), oN 52 (oM 10), oN 53 (oC 137 #[ot 43, ot 47, ot 50, ot 51, ot 52] #[114, 3, 3, 3, 3])]
@[go_sem] def r121_3 : List MO := [oN 18 (oM 8), oN 19 (oI .add 3 18 1 3), oN 8 (oA 19)]
def l121_0 : MC := (.seq (.seq (.region [0, 2, 3, 5, 8, 17] r121_2) (.cond (.tmp 17) .skip (.exit 0))) (.seq (.block 1 (.seq (.draw [0, 2, 3, 5, 8, 9, 10] 13 [] r121_4) (.seq (.seq (.region [0, 2, 3, 5, 8, 9, 10, 34] r121_5) (.cond (.tmp 34) (.draw [0, 2, 3, 5, 8, 9, 10] 9 [] r121_6) .skip)) (.region [0, 2, 3, 5, 8] r121_7)))) (.region [0, 2, 3, 5, 8] r121_3)))
@[go_sem] def r121_8 : List MO := [oN 11 (.assign (oK 0))]
@[go_sem] def r121_9 : List MO := [oN 54 (oM 11), oN 55 (oF 25 5 4), oN 56 (oL 23 55), oN 57 (oD .len #[ot 56] #[23]), oN 58 (oB .lss 3 54 57 3)]
@[go_sem] def r121_11 : List MO := [oN 61 (oF 25 5 4), oN 62 (oL 23 61), oN 63 (oM 11), oN 64 (oX 23 62 63), oN 65 (oL 82 64), oN 12 (.alloc 82), ⟨none, none, (oS 82 12 65)⟩]
@[go_sem] def r121_12 : List MO := [oN 66 (oM 0), oN 67 (oM 3), oN 68 (oF 82 12 0), oN 69 (oL 3 68), oN 70 (oB .add 3 67 69 3), oN 71 (oF 82 12 1), oN 72 (oL 3 71), oN 73 (oF 82 12 2), oN 74 (oL 3 73), oN 75 (oC 137 #[ot 66, ot 70, oK 0, ot 72, ot 74] #[114, 3, 3, 3, 3])]
@[go_sem] def r121_10 : List MO := [oN 59 (oM 11), oN 60 (oI .add 3 59 1 3), oN 11 (oA 60)]
def l121_1 : MC := (.seq (.seq (.region [0, 3, 5, 11, 58] r121_9) (.cond (.tmp 58) .skip (.exit 2))) (.seq (.block 3 (.seq (.region [0, 3, 5, 11, 12] r121_11) (.region [0, 3, 5, 11] r121_12))) (.region [0, 3, 5, 11] r121_10)))
@[go_sem] def c121 : MC := (.seq (.region [0, 2, 3, 5] r121_0) (.seq (.seq (.region [0, 2, 3, 5, 8] r121_1) (.block 0 (.loop l121_0))) (.seq (.region [0, 3, 5, 11] r121_8) (.block 2 (.loop l121_1)))))
theorem m121 : Tryz.f121.body.bind (tN 76 [0, 1, 2, 4, 5, 6, 7, 3, 8, 9, 11, 12, 10] c121) = some c121 := by kernel_rfl
theorem n121 : Callable Tryz.prog 121 := ⟨⟨_, Tryz.func121, by kernel_rfl, rfl⟩⟩
@[go_sem] def r122_0 : List MO := [oN 2 (.assign (.const (.bool false)))]
@[go_sem] def r122_1 : List MO := [oN 3 (.assign (oK 0))]
@[go_sem] def r122_2 : List MO := [oN 7 (oM 3), oN 8 (oM 0), oN 9 (oD .len #[ot 8] #[114]), oN 10 (oB .lss 3 7 9 3)]
@[go_sem] def r122_4 : List MO := [oN 4 (.assign (oK 0))]
@[go_sem] def r122_5 : List MO := [oN 13 (oM 4), oN 14 (oM 0), oN 15 (oD .len #[ot 14] #[114]), oN 16 (oB .lss 3 13 15 3)]
@[go_sem] def r122_7 : List MO := [oN 5 (.assign (oK 0))]
@[go_sem] def r122_8 : List MO := [oN 19 (oM 5), oN 20 (oM 0), oN 21 (oD .len #[ot 20] #[114]), oN 22 (oB .lss 3 19 21 3)]
@[go_sem] def r122_10 : List MO := [oN 25 (oM 0), oN 26 (oM 4), oN 27 (oX 114 25 26), oN 28 (oL 22 27), oN 29 (oM 5), oN 30 (oM 0), oN 31 (oM 4), oN 32 (oX 114 30 31), oN 33 (oL 22 32), oN 34 (oM 5), oN 35 (oX 22 33 34), oN 36 (oL 3 35), oN 37 (oM 0), oN 38 (oM 4), oN 39 (oX 114 37 38), oN 40 (oL 22 39), oN 41 (oM 3), oN 42 (oX 22 40 41), oN 43 (oL 3 42), oN 44 (oM 0), oN 45 (oM 3), oN 46 (oX 114 44 45), oN 47 (oL 22 46), oN 48 (oM 5), oN 49 (oX 22 47 48), oN 50 (oL 3 49), oN 51 (oB .add 3 43 50 3), oN 52 (oD .min #[ot 36, ot 51] #[3, 3]), oN 53 (oX 22 28 29), ⟨none, none, (oS 3 53 52)⟩]
@[go_sem] def r122_9 : List MO := [oN 23 (oM 5), oN 24 (oI .add 3 23 1 3), oN 5 (oA 24)]
def l122_2 : MC := (.seq (.seq (.region [0, 3, 4, 5, 22] r122_8) (.cond (.tmp 22) .skip (.exit 4))) (.seq (.block 5 (.draw [0, 3, 4, 5] 28 [] r122_10)) (.region [0, 3, 4, 5] r122_9)))
@[go_sem] def r122_6 : List MO := [oN 17 (oM 4), oN 18 (oI .add 3 17 1 3), oN 4 (oA 18)]
def l122_1 : MC := (.seq (.seq (.region [0, 3, 4, 16] r122_5) (.cond (.tmp 16) .skip (.exit 2))) (.seq (.block 3 (.seq (.region [0, 3, 4, 5] r122_7) (.block 4 (.loop l122_2)))) (.region [0, 3, 4] r122_6)))
@[go_sem] def r122_3 : List MO := [oN 11 (oM 3), oN 12 (oI .add 3 11 1 3), oN 3 (oA 12)]
def l122_0 : MC := (.seq (.seq (.region [0, 3, 10] r122_2) (.cond (.tmp 10) .skip (.exit 0))) (.seq (.block 1 (.seq (.region [0, 3, 4] r122_4) (.block 2 (.loop l122_1)))) (.region [0, 3] r122_3)))
@[go_sem] def r122_11 : List MO := [oN 6 (.assign (oK 0))]
@[go_sem] def r122_12 : List MO := [oN 54 (oM 6), oN 55 (oM 0), oN 56 (oD .len #[ot 55] #[114]), oN 57 (oB .lss 3 54 56 3)]
@[go_sem] def r122_14 : List MO := [oN 60 (oM 0), oN 61 (oM 6), oN 62 (oX 114 60 61), oN 63 (oL 22 62), oN 64 (oM 6), oN 65 (oX 22 63 64), oN 66 (oL 3 65), oN 67 (oI .lss 3 66 0 3)]
@[go_sem] def r122_15 : List MO := [oN 2 (.assign (.const (.bool false)))]
@[go_sem] def r122_13 : List MO := [oN 58 (oM 6), oN 59 (oI .add 3 58 1 3), oN 6 (oA 59)]
def l122_3 : MC := (.seq (.seq (.region [0, 6, 57] r122_12) (.cond (.tmp 57) .skip (.exit 6))) (.seq (.block 7 (.seq (.region [0, 6, 67] r122_14) (.cond (.tmp 67) (.seq (.region [2] r122_15) .ret) .skip))) (.region [0, 6] r122_13)))
@[go_sem] def r122_16 : List MO := [oN 2 (.assign (.const (.bool true)))]
@[go_sem] def c122 : MC := (.seq (.region [0] r122_0) (.seq (.seq (.region [0, 3] r122_1) (.block 0 (.loop l122_0))) (.seq (.seq (.region [0, 6] r122_11) (.block 6 (.loop l122_3))) (.seq (.region [2] r122_16) .ret))))
theorem m122 : Tryz.f122.body.bind (tN 68 [0, 1, 2, 4, 5, 7, 8, 10, 9, 6, 3, 11, 12, 14, 15, 13, 16] c122) = some c122 := by kernel_rfl
theorem n122 : Callable Tryz.prog 122 := ⟨⟨_, Tryz.func122, by kernel_rfl, rfl⟩⟩
@[go_sem] def r123_0 : List MO := [oN 4 (.assign (.const (.bool false)))]
@[go_sem] def r123_1 : List MO := [oN 5 (oM 0), oN 6 (oM 1), oN 7 (oC 152 #[ot 5, ot 6] #[22, 64]), oN 8 (oI .geq 3 7 0 3), oN 4 (oA 8)]
@[go_sem] def c123 : MC := (.seq (.region [0, 1] r123_0) (.seq (.region [4] r123_1) .ret))
theorem m123 : Tryz.f123.body.bind (tM 9 c123) = some c123 := by kernel_rfl
theorem n123 : Callable Tryz.prog 123 := ⟨⟨_, Tryz.func123, by kernel_rfl, rfl⟩⟩
@[go_sem] def r124_0 : List MO := [oN 2 (.assign (.const (.bool false)))]
@[go_sem] def r124_1 : List MO := [oN 3 (oM 0), oN 4 (oC 83 #[ot 3, oK 0, oK 60] #[3, 3, 3]), oN 5 (.unOp .not 4 (ot 4)), oN 2 (oA 5)]
@[go_sem] def c124 : MC := (.seq (.region [0] r124_0) (.seq (.region [2] r124_1) .ret))
theorem m124 : Tryz.f124.body.bind (tM 6 c124) = some c124 := by kernel_rfl
theorem n124 : Callable Tryz.prog 124 := ⟨⟨_, Tryz.func124, by kernel_rfl, rfl⟩⟩
@[go_sem] def r125_0 : List MO := [oN 4 (.assign (.const (.bool false)))]
@[go_sem] def r125_1 : List MO := [oN 5 (oM 0), oN 6 (oM 1), oN 7 (oC 153 #[ot 5, ot 6] #[23, 152]), oN 8 (oI .geq 3 7 0 3), oN 4 (oA 8)]
@[go_sem] def c125 : MC := (.seq (.region [0, 1] r125_0) (.seq (.region [4] r125_1) .ret))
theorem m125 : Tryz.f125.body.bind (tM 9 c125) = some c125 := by kernel_rfl
theorem n125 : Callable Tryz.prog 125 := ⟨⟨_, Tryz.func125, by kernel_rfl, rfl⟩⟩
@[go_sem] def r126_0 : List MO := [oN 2 (.box 82 (ot 0)), oN 3 (.assign (.const (.bool false)))]
@[go_sem] def r126_1 : List MO := [oN 4 (oL 25 1), oN 5 (oF 82 2 0), oN 6 (oL 3 5), oN 7 (oC 86 #[ot 4, ot 6] #[25, 3]), oN 8 (.unOp .not 4 (ot 7)), oN 9 (oM 8), oH 9 10 (oF 82 2 1), oH 9 11 (oL 3 10), oH 9 12 (oC 127 #[ot 11] #[3]), oH 9 13 (.unOp .not 4 (ot 12)), oN 14 (.pick (ot 9) (.const (.bool true)) (ot 13)), oN 15 (oM 14), oH 15 16 (oF 82 2 2), oH 15 17 (oL 3 16), oH 15 18 (oC 127 #[ot 17] #[3]), oH 15 19 (.unOp .not 4 (ot 18)), oN 20 (.pick (ot 15) (.const (.bool true)) (ot 19)), oN 21 (oM 20), oH 21 22 (oF 82 2 1), oH 21 23 (oL 3 22), oH 21 24 (oF 82 2 2), oH 21 25 (oL 3 24), oH 21 26 (oB .gtr 3 23 25 3), oN 27 (.pick (ot 21) (.const (.bool true)) (ot 26)), oN 3 (oA 27)]
@[go_sem] def c126 : MC := (.seq (.region [1, 2] r126_0) (.seq (.region [3] r126_1) .ret))
theorem m126 : Tryz.f126.body.bind (tM 28 c126) = some c126 := by kernel_rfl
theorem n126 : Callable Tryz.prog 126 := ⟨⟨_, Tryz.func126, by kernel_rfl, rfl⟩⟩
@[go_sem] def r127_0 : List MO := [oN 2 (.assign (.const (.bool false)))]
@[go_sem] def r127_1 : List MO := [oN 3 (oM 0), oN 4 (oC 83 #[ot 3, oK 0, oK 400] #[3, 3, 3]), oN 2 (oA 4)]
@[go_sem] def c127 : MC := (.seq (.region [0] r127_0) (.seq (.region [2] r127_1) .ret))
theorem m127 : Tryz.f127.body.bind (tM 5 c127) = some c127 := by kernel_rfl
theorem n127 : Callable Tryz.prog 127 := ⟨⟨_, Tryz.func127, by kernel_rfl, rfl⟩⟩
@[go_sem] def r128_0 : List MO := [oN 4 (.assign (.const (.slice none 0 0))), oN 5 (.assign (.const (.bool false)))]
@[go_sem] def r128_1 : List MO := [oN 6 (.assign (.const (.slice none 0 0)))]
@[go_sem] def r128_2 : List MO := [oN 14 (oM 0), oN 15 (.move (oK 0))]
@[go_sem] def r128_3 : List MO := [oN 16 (oB .lss 3 15 14 3)]
@[go_sem] def r128_4 : List MO := [oN 17 (oM 15), oN 7 (oA 17)]
@[go_sem] def r128_5 : List MO := [oN 18 (oM 6), oN 19 (.buildSlice 22 1 #[(0, (oK 1099511627776))]), oN 20 (oM 0), oN 21 (oC 154 #[ot 19, ot 20] #[22, 3]), oN 22 (.buildSlice 111 1 #[(0, (ot 21))]), oN 23 (oD .append #[ot 18, ot 22] #[111, 111]), oN 6 (oA 23)]
@[go_sem] def r128_6 : List MO := [oN 24 (oM 6), oN 25 (oM 7), oN 26 (oX 111 24 25), oN 27 (oL 22 26), oN 28 (oM 7), oN 29 (oX 22 27 28), ⟨none, none, (.store 3 (ot 29) (oK 0))⟩]
@[go_sem] def r128_7 : List MO := [oN 30 (oI .add 3 15 1 3), oN 15 (oM 30)]
def l128_0 : MC := (.seq (.region [0, 1, 6, 14, 15, 16] r128_3) (.seq (.cond (.tmp 16) .skip (.exit 0)) (.seq (.block 1 (.seq (.region [0, 1, 6, 7, 14, 15] r128_4) (.seq (.region [0, 1, 6, 7, 14, 15] r128_5) (.region [0, 1, 6, 14, 15] r128_6)))) (.region [0, 1, 6, 14, 15] r128_7))))
@[go_sem] def r128_8 : List MO := [oN 31 (oM 1), oN 32 (oD .len #[ot 31] #[154]), oN 33 (.move (oK 0))]
@[go_sem] def r128_9 : List MO := [oN 34 (oB .lss 3 33 32 3)]
@[go_sem] def r128_10 : List MO := [oN 35 (oX 154 31 33), oN 36 (oL 191 35), oN 9 (.alloc 191), ⟨none, none, (oS 191 9 36)⟩]
@[go_sem] def r128_11 : List MO := [oN 37 (oM 6), oN 38 (oF 191 9 0), oN 39 (oL 3 38), oN 40 (oX 111 37 39), oN 41 (oL 22 40), oN 42 (oF 191 9 1), oN 43 (oL 3 42), oN 44 (oM 6), oN 45 (oF 191 9 0), oN 46 (oL 3 45), oN 47 (oX 111 44 46), oN 48 (oL 22 47), oN 49 (oF 191 9 1), oN 50 (oL 3 49), oN 51 (oX 22 48 50), oN 52 (oL 3 51), oN 53 (oF 191 9 2), oN 54 (oL 3 53), oN 55 (oD .min #[ot 52, ot 54] #[3, 3]), oN 56 (oX 22 41 43), ⟨none, none, (oS 3 56 55)⟩]
@[go_sem] def r128_12 : List MO := [oN 57 (oI .add 3 33 1 3), oN 33 (oM 57)]
def l128_1 : MC := (.seq (.region [0, 6, 31, 32, 33, 34] r128_9) (.seq (.cond (.tmp 34) .skip (.exit 2)) (.seq (.block 3 (.seq (.region [0, 6, 9, 31, 32, 33] r128_10) (.draw [0, 6, 31, 32, 33] 19 [] r128_11))) (.region [0, 6, 31, 32, 33] r128_12))))
@[go_sem] def r128_13 : List MO := [oN 58 (oM 0), oN 59 (.move (oK 0))]
@[go_sem] def r128_14 : List MO := [oN 60 (oB .lss 3 59 58 3)]
@[go_sem] def r128_15 : List MO := [oN 61 (oM 59), oN 10 (oA 61)]
@[go_sem] def r128_16 : List MO := [oN 62 (oM 0), oN 63 (.move (oK 0))]
@[go_sem] def r128_17 : List MO := [oN 64 (oB .lss 3 63 62 3)]
@[go_sem] def r128_18 : List MO := [oN 65 (oM 63), oN 11 (oA 65)]
@[go_sem] def r128_19 : List MO := [oN 66 (oM 0), oN 67 (.move (oK 0))]
@[go_sem] def r128_20 : List MO := [oN 68 (oB .lss 3 67 66 3)]
@[go_sem] def r128_21 : List MO := [oN 69 (oM 67), oN 12 (oA 69)]
@[go_sem] def r128_22 : List MO := [oN 70 (oM 6), oN 71 (oM 11), oN 72 (oX 111 70 71), oN 73 (oL 22 72), oN 74 (oM 10), oN 75 (oX 22 73 74), oN 76 (oL 3 75), oN 77 (oI .lss 3 76 1099511627776 3), oN 78 (oM 77), oG 78 79 (oM 6), oG 78 80 (oM 10), oG 78 81 (oX 111 79 80), oG 78 82 (oL 22 81), oG 78 83 (oM 12), oG 78 84 (oX 22 82 83), oG 78 85 (oL 3 84), oG 78 86 (oI .lss 3 85 1099511627776 3), oN 87 (oP 78 86 false)]
@[go_sem] def r128_23 : List MO := [oN 88 (oM 6), oN 89 (oM 11), oN 90 (oX 111 88 89), oN 91 (oL 22 90), oN 92 (oM 12), oN 93 (oM 6), oN 94 (oM 11), oN 95 (oX 111 93 94), oN 96 (oL 22 95), oN 97 (oM 12), oN 98 (oX 22 96 97), oN 99 (oL 3 98), oN 100 (oM 6), oN 101 (oM 11), oN 102 (oX 111 100 101), oN 103 (oL 22 102), oN 104 (oM 10), oN 105 (oX 22 103 104), oN 106 (oL 3 105), oN 107 (oM 6), oN 108 (oM 10), oN 109 (oX 111 107 108), oN 110 (oL 22 109), oN 111 (oM 12), oN 112 (oX 22 110 111), oN 113 (oL 3 112), oN 114 (oB .add 3 106 113 3), oN 115 (oD .min #[ot 99, ot 114] #[3, 3]), oN 116 (oX 22 91 92), ⟨none, none, (oS 3 116 115)⟩]
@[go_sem] def r128_24 : List MO := [oN 117 (oI .add 3 67 1 3), oN 67 (oM 117)]
def l128_4 : MC := (.seq (.region [0, 6, 10, 11, 58, 59, 62, 63, 66, 67, 68] r128_20) (.seq (.cond (.tmp 68) .skip (.exit 8)) (.seq (.block 9 (.seq (.region [0, 6, 10, 11, 12, 58, 59, 62, 63, 66, 67] r128_21) (.seq (.region [0, 6, 10, 11, 12, 58, 59, 62, 63, 66, 67, 87] r128_22) (.cond (.tmp 87) (.draw [0, 6, 10, 11, 58, 59, 62, 63, 66, 67] 28 [] r128_23) .skip)))) (.region [0, 6, 10, 11, 58, 59, 62, 63, 66, 67] r128_24))))
@[go_sem] def r128_25 : List MO := [oN 118 (oI .add 3 63 1 3), oN 63 (oM 118)]
def l128_3 : MC := (.seq (.region [0, 6, 10, 58, 59, 62, 63, 64] r128_17) (.seq (.cond (.tmp 64) .skip (.exit 6)) (.seq (.block 7 (.seq (.region [0, 6, 10, 11, 58, 59, 62, 63] r128_18) (.seq (.region [0, 6, 10, 11, 58, 59, 62, 63, 66, 67] r128_19) (.block 8 (.loop l128_4))))) (.region [0, 6, 10, 58, 59, 62, 63] r128_25))))
@[go_sem] def r128_26 : List MO := [oN 119 (oI .add 3 59 1 3), oN 59 (oM 119)]
def l128_2 : MC := (.seq (.region [0, 6, 58, 59, 60] r128_14) (.seq (.cond (.tmp 60) .skip (.exit 4)) (.seq (.block 5 (.seq (.region [0, 6, 10, 58, 59] r128_15) (.seq (.region [0, 6, 10, 58, 59, 62, 63] r128_16) (.block 6 (.loop l128_3))))) (.region [0, 6, 58, 59] r128_26))))
@[go_sem] def r128_27 : List MO := [oN 120 (oM 0), oN 121 (.move (oK 0))]
@[go_sem] def r128_28 : List MO := [oN 122 (oB .lss 3 121 120 3)]
@[go_sem] def r128_29 : List MO := [oN 123 (oM 121), oN 13 (oA 123)]
@[go_sem] def r128_30 : List MO := [oN 124 (oM 6), oN 125 (oM 13), oN 126 (oX 111 124 125), oN 127 (oL 22 126), oN 128 (oM 13), oN 129 (oX 22 127 128), oN 130 (oL 3 129), oN 131 (oI .lss 3 130 0 3)]
@[go_sem] def r128_31 : List MO := [oN 4 (.assign (.const (.slice none 0 0))), oN 5 (.assign (.const (.bool false)))]
@[go_sem] def r128_32 : List MO := [oN 132 (oI .add 3 121 1 3), oN 121 (oM 132)]
def l128_5 : MC := (.seq (.region [6, 120, 121, 122] r128_28) (.seq (.cond (.tmp 122) .skip (.exit 10)) (.seq (.block 11 (.seq (.region [6, 13, 120, 121] r128_29) (.seq (.region [6, 120, 121, 131] r128_30) (.cond (.tmp 131) (.seq (.region [4, 5] r128_31) .ret) .skip)))) (.region [6, 120, 121] r128_32))))
@[go_sem] def r128_33 : List MO := [oN 133 (oM 6), oN 4 (oA 133), oN 5 (.assign (.const (.bool true)))]
@[go_sem] def c128 : MC := (.seq (.region [0, 1] r128_0) (.seq (.region [0, 1, 6] r128_1) (.seq (.seq (.region [0, 1, 6, 14, 15] r128_2) (.block 0 (.loop l128_0))) (.seq (.seq (.region [0, 6, 31, 32, 33] r128_8) (.block 2 (.loop l128_1))) (.seq (.seq (.region [0, 6, 58, 59] r128_13) (.block 4 (.loop l128_2))) (.seq (.seq (.region [6, 120, 121] r128_27) (.block 10 (.loop l128_5))) (.seq (.region [4, 5] r128_33) .ret)))))))
theorem m128 : Tryz.f128.body.bind (tM 134 c128) = some c128 := by kernel_rfl
theorem n128 : Callable Tryz.prog 128 := ⟨⟨_, Tryz.func128, by kernel_rfl, rfl⟩⟩
@[go_sem] def r129_0 : List MO := [oN 4 (.box 25 (ot 0)), oN 8 (.assign (.const (.slice none 0 0)))]
@[go_sem] def r129_1 : List MO := [oN 17 (oM 3), oN 18 (oM 2), oN 19 (.build 191 #[(0, (ot 17)), (1, (ot 18)), (2, (oK 400))]), oN 20 (.buildSlice 154 1 #[(0, (ot 19))]), oN 9 (oA 20)]
@[go_sem] def r129_2 : List MO := [oN 21 (oF 25 4 0), oN 22 (oL 22 21), oN 23 (oD .len #[ot 22] #[22]), oN 24 (.move (oK 0))]
@[go_sem] def r129_3 : List MO := [oN 25 (oB .lss 3 24 23 3)]
@[go_sem] def r129_4 : List MO := [oN 26 (oM 24), oN 27 (oX 22 22 24), oN 28 (oL 3 27), oN 10 (oA 26), oN 11 (oA 28)]
@[go_sem] def r129_5 : List MO := [oN 29 (oM 11), oN 30 (oM 11), oN 12 (oA 29), oN 13 (oA 30)]
@[go_sem] def r129_6 : List MO := [oN 31 (oM 1), oN 32 (oM 10), oN 33 (oC 76 #[ot 31, ot 32] #[22, 3])]
@[go_sem] def r129_7 : List MO := [oN 34 (oM 11), oN 35 (oF 25 4 1), oN 36 (oL 3 35), oN 37 (.buildSlice 22 2 #[(0, (ot 34)), (1, (ot 36))]), oN 38 (oC 130 #[ot 37] #[22]), oN 39 (oM 11), oN 40 (oF 25 4 2), oN 41 (oL 3 40), oN 42 (.buildSlice 22 2 #[(0, (ot 39)), (1, (ot 41))]), oN 43 (oC 130 #[ot 42] #[22]), oN 12 (oA 38), oN 13 (oA 43)]
@[go_sem] def r129_8 : List MO := [oN 44 (oM 9), oN 45 (oM 2), oN 46 (oM 10), oN 47 (oB .add 3 45 46 3), oN 48 (oM 2), oN 49 (oM 10), oN 50 (oB .add 3 48 49 3), oN 51 (oI .add 3 50 1 3), oN 52 (oM 12), oN 53 (.unOp .neg 3 (ot 52)), oN 54 (.build 191 #[(0, (ot 47)), (1, (ot 51)), (2, (ot 53))]), oN 55 (oM 2), oN 56 (oM 10), oN 57 (oB .add 3 55 56 3), oN 58 (oI .add 3 57 1 3), oN 59 (oM 2), oN 60 (oM 10), oN 61 (oB .add 3 59 60 3), oN 62 (oM 13), oN 63 (.build 191 #[(0, (ot 58)), (1, (ot 61)), (2, (ot 62))]), oN 64 (.buildSlice 154 2 #[(0, (ot 54)), (1, (ot 63))]), oN 65 (oD .append #[ot 44, ot 64] #[154, 154]), oN 9 (oA 65)]
@[go_sem] def r129_9 : List MO := [oN 66 (oI .add 3 24 1 3), oN 24 (oM 66)]
def l129_0 : MC := (.seq (.region [1, 2, 3, 4, 9, 22, 23, 24, 25] r129_3) (.seq (.cond (.tmp 25) .skip (.exit 0)) (.seq (.block 1 (.seq (.region [1, 2, 3, 4, 9, 10, 11, 22, 23, 24] r129_4) (.seq (.region [1, 2, 3, 4, 9, 10, 11, 12, 13, 22, 23, 24] r129_5) (.seq (.seq (.region [1, 2, 3, 4, 9, 10, 11, 12, 13, 22, 23, 24, 33] r129_6) (.cond (.tmp 33) (.draw [1, 2, 3, 4, 9, 10, 12, 13, 22, 23, 24] 9 [] r129_7) .skip)) (.region [1, 2, 3, 4, 9, 22, 23, 24] r129_8))))) (.region [1, 2, 3, 4, 9, 22, 23, 24] r129_9))))
@[go_sem] def r129_10 : List MO := [oN 67 (oF 25 4 0), oN 68 (oL 22 67), oN 69 (oD .len #[ot 68] #[22]), oN 70 (oI .add 3 69 1 3), oN 71 (.move (oK 0))]
@[go_sem] def r129_11 : List MO := [oN 72 (oB .lss 3 71 70 3)]
@[go_sem] def r129_12 : List MO := [oN 73 (oM 71), oN 14 (oA 73)]
@[go_sem] def r129_13 : List MO := [oN 74 (oM 9), oN 75 (oM 2), oN 76 (oM 14), oN 77 (oB .add 3 75 76 3), oN 78 (oM 3), oN 79 (.build 191 #[(0, (ot 77)), (1, (ot 78)), (2, (oK 0))]), oN 80 (.buildSlice 154 1 #[(0, (ot 79))]), oN 81 (oD .append #[ot 74, ot 80] #[154, 154]), oN 9 (oA 81)]
@[go_sem] def r129_14 : List MO := [oN 82 (oI .add 3 71 1 3), oN 71 (oM 82)]
def l129_1 : MC := (.seq (.region [2, 3, 4, 9, 70, 71, 72] r129_11) (.seq (.cond (.tmp 72) .skip (.exit 2)) (.seq (.block 3 (.seq (.region [2, 3, 4, 9, 14, 70, 71] r129_12) (.region [2, 3, 4, 9, 70, 71] r129_13))) (.region [2, 3, 4, 9, 70, 71] r129_14))))
@[go_sem] def r129_15 : List MO := [oN 83 (oF 25 4 4), oN 84 (oL 23 83), oN 85 (oD .len #[ot 84] #[23]), oN 86 (.move (oK 0))]
@[go_sem] def r129_16 : List MO := [oN 87 (oB .lss 3 86 85 3)]
@[go_sem] def r129_17 : List MO := [oN 88 (oX 23 84 86), oN 89 (oL 82 88), oN 16 (.alloc 82), ⟨none, none, (oS 82 16 89)⟩]
@[go_sem] def r129_18 : List MO := [oN 90 (oM 9), oN 91 (oM 3), oN 92 (oM 2), oN 93 (oF 82 16 0), oN 94 (oL 3 93), oN 95 (oB .add 3 92 94 3), oN 96 (oF 82 16 2), oN 97 (oL 3 96), oN 98 (.build 191 #[(0, (ot 91)), (1, (ot 95)), (2, (ot 97))]), oN 99 (oM 2), oN 100 (oF 82 16 0), oN 101 (oL 3 100), oN 102 (oB .add 3 99 101 3), oN 103 (oM 3), oN 104 (oF 82 16 1), oN 105 (oL 3 104), oN 106 (.unOp .neg 3 (ot 105)), oN 107 (.build 191 #[(0, (ot 102)), (1, (ot 103)), (2, (ot 106))]), oN 108 (.buildSlice 154 2 #[(0, (ot 98)), (1, (ot 107))]), oN 109 (oD .append #[ot 90, ot 108] #[154, 154]), oN 9 (oA 109)]
@[go_sem] def r129_19 : List MO := [oN 110 (oI .add 3 86 1 3), oN 86 (oM 110)]
def l129_2 : MC := (.seq (.region [2, 3, 9, 84, 85, 86, 87] r129_16) (.seq (.cond (.tmp 87) .skip (.exit 4)) (.seq (.block 5 (.seq (.region [2, 3, 9, 16, 84, 85, 86] r129_17) (.region [2, 3, 9, 84, 85, 86] r129_18))) (.region [2, 3, 9, 84, 85, 86] r129_19))))
@[go_sem] def r129_20 : List MO := [oN 111 (oM 9), oN 8 (oA 111)]
@[go_sem] def c129 : MC := (.seq (.region [1, 2, 3, 4] r129_0) (.seq (.region [1, 2, 3, 4, 9] r129_1) (.seq (.seq (.region [1, 2, 3, 4, 9, 22, 23, 24] r129_2) (.block 0 (.loop l129_0))) (.seq (.seq (.region [2, 3, 4, 9, 70, 71] r129_10) (.block 2 (.loop l129_1))) (.seq (.seq (.region [2, 3, 9, 84, 85, 86] r129_15) (.block 4 (.loop l129_2))) (.seq (.region [8] r129_20) .ret))))))
theorem m129 : Tryz.f129.body.bind (tM 112 c129) = some c129 := by kernel_rfl
theorem n129 : Callable Tryz.prog 129 := ⟨⟨_, Tryz.func129, by kernel_rfl, rfl⟩⟩
@[go_sem] def r130_0 : List MO := [oN 2 (.assign (oK 0))]
@[go_sem] def r130_1 : List MO := [oN 3 (.assign (oK 0))]
@[go_sem] def r130_2 : List MO := [oN 6 (oM 0), oN 7 (oD .len #[ot 6] #[22]), oN 8 (.move (oK 0))]
@[go_sem] def r130_3 : List MO := [oN 9 (oB .lss 3 8 7 3)]
@[go_sem] def r130_4 : List MO := [oN 10 (oX 22 6 8), oN 11 (oL 3 10), oN 5 (oA 11)]
@[go_sem] def r130_5 : List MO := [oN 12 (oM 3), oN 13 (oM 5), oN 14 (oB .add 3 12 13 3), oN 3 (oA 14)]
@[go_sem] def r130_6 : List MO := [oN 15 (oI .add 3 8 1 3), oN 8 (oM 15)]
def l130_0 : MC := (.seq (.region [3, 6, 7, 8, 9] r130_3) (.seq (.cond (.tmp 9) .skip (.exit 0)) (.seq (.block 1 (.seq (.region [3, 5, 6, 7, 8] r130_4) (.region [3, 6, 7, 8] r130_5))) (.region [3, 6, 7, 8] r130_6))))
@[go_sem] def r130_7 : List MO := [oN 16 (oM 3), oN 2 (oA 16)]
@[go_sem] def c130 : MC := (.seq (.region [0] r130_0) (.seq (.region [0, 3] r130_1) (.seq (.seq (.region [3, 6, 7, 8] r130_2) (.block 0 (.loop l130_0))) (.seq (.region [2] r130_7) .ret))))
theorem m130 : Tryz.f130.body.bind (tM 17 c130) = some c130 := by kernel_rfl
theorem n130 : Callable Tryz.prog 130 := ⟨⟨_, Tryz.func130, by kernel_rfl, rfl⟩⟩
@[go_sem] def r131_0 : List MO := [oN 6 (.assign (oK 0))]
@[go_sem] def r131_1 : List MO := [oN 7 (oM 0), oN 8 (oM 2), oN 9 (oX 111 7 8), oN 10 (oL 22 9), oN 11 (oM 1), oN 12 (oX 22 10 11), oN 13 (oL 3 12), oN 14 (.unOp .neg 3 (ot 13)), oN 6 (oA 14)]
@[go_sem] def c131 : MC := (.seq (.region [0, 1, 2] r131_0) (.seq (.region [6] r131_1) .ret))
theorem m131 : Tryz.f131.body.bind (tM 15 c131) = some c131 := by kernel_rfl
theorem n131 : Callable Tryz.prog 131 := ⟨⟨_, Tryz.func131, by kernel_rfl, rfl⟩⟩
@[go_sem] def r132_0 : List MO := [oN 6 (.assign (oK 0))]
@[go_sem] def r132_1 : List MO := [oN 7 (oM 0), oN 8 (oM 1), oN 9 (oX 111 7 8), oN 10 (oL 22 9), oN 11 (oM 2), oN 12 (oX 22 10 11), oN 13 (oL 3 12), oN 6 (oA 13)]
@[go_sem] def c132 : MC := (.seq (.region [0, 1, 2] r132_0) (.seq (.region [6] r132_1) .ret))
theorem m132 : Tryz.f132.body.bind (tM 14 c132) = some c132 := by kernel_rfl
theorem n132 : Callable Tryz.prog 132 := ⟨⟨_, Tryz.func132, by kernel_rfl, rfl⟩⟩
@[go_sem] def r134_0 : List MO := [oN 5 (.box 108 (ot 0)), oN 6 (.box 113 (ot 1)), oN 7 (.box 113 (ot 2)), oN 10 (.assign (.const (.bool false)))]
@[go_sem] def r134_1 : List MO := [oN 17 (oF 108 5 0), oN 18 (oF 25 17 0), oN 19 (oL 22 18), oN 20 (oD .len #[ot 19] #[22]), oN 21 (oI .add 3 20 1 3), oN 11 (oA 21)]
@[go_sem] def r134_2 : List MO := [oN 22 (oF 108 5 0), oN 23 (oL 25 22), oN 24 (oF 113 6 0), oN 25 (oL 22 24), oN 26 (oM 11), oN 27 (.binOp .mul 3 (oK 2) (ot 26) 3), oN 28 (oC 129 #[ot 23, ot 25, oK 0, ot 27] #[25, 22, 3, 3]), oN 29 (oF 108 5 0), oN 30 (oL 25 29), oN 31 (oF 113 7 0), oN 32 (oL 22 31), oN 33 (oM 11), oN 34 (oM 11), oN 35 (.binOp .mul 3 (oK 2) (ot 34) 3), oN 36 (oC 129 #[ot 30, ot 32, ot 33, ot 35] #[25, 22, 3, 3]), oN 37 (oD .append #[ot 28, ot 36] #[154, 154]), oN 12 (oA 37)]
@[go_sem] def r134_3 : List MO := [oN 38 (oM 3), oN 39 (oD .len #[ot 38] #[22]), oN 40 (.move (oK 0))]
@[go_sem] def r134_4 : List MO := [oN 41 (oB .lss 3 40 39 3)]
@[go_sem] def r134_5 : List MO := [oN 42 (oX 22 38 40), oN 43 (oL 3 42), oN 14 (oA 43)]
@[go_sem] def r134_6 : List MO := [oN 44 (oM 12), oN 45 (oM 14), oN 46 (oM 11), oN 47 (oM 14), oN 48 (oB .add 3 46 47 3), oN 49 (oM 4), oN 50 (.binOp .mul 3 (oK 2) (ot 49) 3), oN 51 (.build 191 #[(0, (ot 45)), (1, (ot 48)), (2, (ot 50))]), oN 52 (oM 11), oN 53 (oM 14), oN 54 (oB .add 3 52 53 3), oN 55 (oM 14), oN 56 (oM 4), oN 57 (.binOp .mul 3 (oK 2) (ot 56) 3), oN 58 (.build 191 #[(0, (ot 54)), (1, (ot 55)), (2, (ot 57))]), oN 59 (.buildSlice 154 2 #[(0, (ot 51)), (1, (ot 58))]), oN 60 (oD .append #[ot 44, ot 59] #[154, 154]), oN 12 (oA 60)]
@[go_sem] def r134_7 : List MO := [oN 61 (oI .add 3 40 1 3), oN 40 (oM 61)]
def l134_0 : MC := (.seq (.region [4, 11, 12, 38, 39, 40, 41] r134_4) (.seq (.cond (.tmp 41) .skip (.exit 0)) (.seq (.block 1 (.seq (.region [4, 11, 12, 14, 38, 39, 40] r134_5) (.region [4, 11, 12, 38, 39, 40] r134_6))) (.region [4, 11, 12, 38, 39, 40] r134_7))))
@[go_sem] def r134_8 : List MO := [oN 63 (oM 11), oN 64 (.binOp .mul 3 (oK 2) (ot 63) 3), oN 65 (oI .add 3 64 1 3), oN 66 (oM 12), oN 67 (oC 128 #[ot 65, ot 66] #[3, 154]), oN 62 (oM 67), oN 68 (oE 62 0), oN 69 (oE 62 1), oN 15 (oA 68), oN 16 (oA 69)]
@[go_sem] def r134_9 : List MO := [oN 70 (oM 16), oN 10 (oA 70)]
@[go_sem] def c134 : MC := (.seq (.region [3, 4, 5, 6, 7] r134_0) (.seq (.region [3, 4, 5, 6, 7, 11] r134_1) (.seq (.draw [3, 4, 11, 12] 14 [] r134_2) (.seq (.seq (.region [4, 11, 12, 38, 39, 40] r134_3) (.block 0 (.loop l134_0))) (.seq (.region [16] r134_8) (.seq (.region [10] r134_9) .ret))))))
theorem m134 : Tryz.f134.body.bind (tM 71 c134) = some c134 := by kernel_rfl
theorem n134 : Callable Tryz.prog 134 := ⟨⟨_, Tryz.func134, by kernel_rfl, rfl⟩⟩
@[go_sem] def r135_0 : List MO := [oN 10 (.assign (.const (.bool false)))]
@[go_sem] def r135_1 : List MO := [oN 12 (oM 2), oN 13 (oI .eql 3 12 0 3)]
@[go_sem] def r135_2 : List MO := [oN 14 (oM 0), ⟨none, none, (oS 22 3 14)⟩]
@[go_sem] def r135_3 : List MO := [oN 15 (oL 134 4), oN 16 (oM 0), oN 17 (.call { callee := (.value (ot 15)), args := #[(ot 16)], argTypes := #[22] }), oN 10 (oA 17)]
@[go_sem] def r135_4 : List MO := [oN 18 (oM 1), oN 11 (oA 18)]
@[go_sem] def r135_5 : List MO := [oN 19 (oM 11), oN 20 (oM 2), oN 21 (oB .add 3 19 20 3), oN 22 (oL 3 5), oN 23 (oB .leq 3 21 22 3)]
@[go_sem] def r135_7 : List MO := [oN 26 (oL 162 6), oN 27 (oM 0), oN 28 (oC 136 #[ot 27] #[22]), oN 29 (oM 11), oN 30 (.buildSlice 22 1 #[(0, (ot 29))]), oN 31 (oD .append #[ot 28, ot 30] #[22, 22]), oN 32 (oM 11), oN 33 (oI .add 3 32 1 3), oN 34 (oM 2), oN 35 (oI .sub 3 34 1 3), oN 36 (.call { callee := (.value (ot 26)), args := #[(ot 31), (ot 33), (ot 35)], argTypes := #[22, 3, 3] })]
@[go_sem] def r135_8 : List MO := [oN 10 (.assign (.const (.bool true)))]
@[go_sem] def r135_6 : List MO := [oN 24 (oM 11), oN 25 (oI .add 3 24 1 3), oN 11 (oA 25)]
def l135_0 : MC := (.seq (.seq (.region [0, 2, 5, 6, 11, 23] r135_5) (.cond (.tmp 23) .skip (.exit 0))) (.seq (.block 1 (.seq (.draw [0, 2, 5, 6, 11, 36] 10 [] r135_7) (.cond (.tmp 36) (.seq (.region [10] r135_8) .ret) .skip))) (.region [0, 2, 5, 6, 11] r135_6)))
@[go_sem] def r135_9 : List MO := [oN 10 (.assign (.const (.bool false)))]
@[go_sem] def c135 : MC := (.seq (.region [0, 1, 2, 3, 4, 5, 6] r135_0) (.seq (.seq (.region [0, 1, 2, 3, 4, 5, 6, 13] r135_1) (.cond (.tmp 13) (.seq (.region [0, 4] r135_2) (.seq (.region [10] r135_3) .ret)) .skip)) (.seq (.seq (.region [0, 2, 5, 6, 11] r135_4) (.block 0 (.loop l135_0))) (.seq (.region [10] r135_9) .ret))))
theorem m135 : Tryz.f135.body.bind (tN 37 [0, 1, 2, 3, 4, 5, 7, 8, 6, 9] c135) = some c135 := by kernel_rfl
theorem n135 : Callable Tryz.prog 135 := ⟨⟨_, Tryz.func135, by kernel_rfl, rfl⟩⟩
@[go_sem] def r136_0 : List MO := [oN 2 (.assign (.const (.slice none 0 0)))]
@[go_sem] def r136_1 : List MO := [oN 3 (oM 0), oN 4 (.binOp .eql 22 (ot 3) (.const (.slice none 0 0)) 22)]
@[go_sem] def r136_2 : List MO := [oN 2 (.assign (.const (.slice none 0 0)))]
@[go_sem] def r136_3 : List MO := [oN 5 (.buildSlice 22 0 #[]), oN 6 (oM 0), oN 7 (oD .append #[ot 5, ot 6] #[22, 22]), oN 2 (oA 7)]
@[go_sem] def c136 : MC := (.seq (.region [0] r136_0) (.seq (.seq (.region [0, 4] r136_1) (.cond (.tmp 4) (.seq (.region [2] r136_2) .ret) .skip)) (.seq (.region [2] r136_3) .ret)))
theorem m136 : Tryz.f136.body.bind (tM 8 c136) = some c136 := by kernel_rfl
theorem n136 : Callable Tryz.prog 136 := ⟨⟨_, Tryz.func136, by kernel_rfl, rfl⟩⟩
@[go_sem] def r137_0 : List MO := [oN 10 (oM 0), oN 11 (oM 2), oN 12 (oX 114 10 11), oN 13 (oL 22 12), oN 14 (oM 1), oN 15 (oM 0), oN 16 (oM 2), oN 17 (oX 114 15 16), oN 18 (oL 22 17), oN 19 (oM 1), oN 20 (oX 22 18 19), oN 21 (oL 3 20), oN 22 (oM 4), oN 23 (oD .min #[ot 21, ot 22] #[3, 3]), oN 24 (oX 22 13 14), ⟨none, none, (oS 3 24 23)⟩]
@[go_sem] def r137_1 : List MO := [oN 25 (oM 0), oN 26 (oM 1), oN 27 (oX 114 25 26), oN 28 (oL 22 27), oN 29 (oM 2), oN 30 (oM 0), oN 31 (oM 1), oN 32 (oX 114 30 31), oN 33 (oL 22 32), oN 34 (oM 2), oN 35 (oX 22 33 34), oN 36 (oL 3 35), oN 37 (oM 3), oN 38 (.unOp .neg 3 (ot 37)), oN 39 (oD .min #[ot 36, ot 38] #[3, 3]), oN 40 (oX 22 28 29), ⟨none, none, (oS 3 40 39)⟩]
@[go_sem] def c137 : MC := (.seq (.draw [0, 1, 2, 3] 14 [] r137_0) (.draw [] 15 [] r137_1))
theorem m137 : Tryz.f137.body.bind (tM 41 c137) = some c137 := by kernel_rfl
theorem n137 : Callable Tryz.prog 137 := ⟨⟨_, Tryz.func137, by kernel_rfl, rfl⟩⟩
@[go_sem] def r138_0 : List MO := [oN 2 (.assign (.const (.string { data := #[] })))]
@[go_sem] def r138_1 : List MO := [oN 3 (.assign (oK 0))]
@[go_sem] def r138_2 : List MO := [oN 7 (oM 0)]
@[go_sem] def r138_3 : List MO := [oN 8 (.typeAssert (ot 7) 193 168 true), oN 9 (oE 8 1), oN 10 (oE 8 0)]
@[go_sem] def r138_4 : List MO := [oN 3 (.assign (oK 1))]
@[go_sem] def r138_5 : List MO := [oN 11 (.typeAssert (ot 7) 193 170 true), oN 12 (oE 11 1), oN 13 (oE 11 0)]
@[go_sem] def r138_6 : List MO := [oN 3 (.assign (oK 2))]
@[go_sem] def r138_7 : List MO := [oN 14 (oC 146 #[] #[]), oN 15 (oM 3), oN 16 (.index 181 (ot 14) (ot 15)), oN 4 (oA 16)]
@[go_sem] def r138_8 : List MO := [oN 17 (oM 0), oN 18 (.call { callee := (.invoke (ot 17) "quinaria/leak.numbers"), args := #[], argTypes := #[] }), oN 19 (oD .len #[ot 18] #[22]), oN 20 (.move (oK 0))]
@[go_sem] def r138_9 : List MO := [oN 21 (oB .lss 3 20 19 3)]
@[go_sem] def r138_10 : List MO := [oN 22 (oX 22 18 20), oN 23 (oL 3 22), oN 6 (oA 23)]
@[go_sem] def r138_11 : List MO := [oN 24 (oM 4), oN 25 (oM 6), oN 26 (oC 139 #[ot 25] #[3]), oN 27 (.binOp .add 9 (.const (.string { data := #[32] })) (ot 26) 9), oN 28 (oB .add 9 24 27 9), oN 4 (oA 28)]
@[go_sem] def r138_12 : List MO := [oN 29 (oI .add 3 20 1 3), oN 20 (oM 29)]
def l138_0 : MC := (.seq (.region [4, 18, 19, 20, 21] r138_9) (.seq (.cond (.tmp 21) .skip (.exit 1)) (.seq (.block 2 (.seq (.region [4, 6, 18, 19, 20] r138_10) (.region [4, 18, 19, 20] r138_11))) (.region [4, 18, 19, 20] r138_12))))
@[go_sem] def r138_13 : List MO := [oN 30 (oM 4), oN 2 (oA 30)]
@[go_sem] def c138 : MC := (.seq (.region [0] r138_0) (.seq (.region [0, 3] r138_1) (.seq (.seq (.region [0, 3, 7] r138_2) (.block 0 (.seq (.region [0, 3, 7, 9] r138_3) (.cond (.tmp 9) (.region [0, 3] r138_4) (.seq (.region [0, 3, 12] r138_5) (.cond (.tmp 12) (.region [0, 3] r138_6) .skip)))))) (.seq (.region [0, 4] r138_7) (.seq (.seq (.region [4, 18, 19, 20] r138_8) (.block 1 (.loop l138_0))) (.seq (.region [2] r138_13) .ret))))))
theorem m138 : Tryz.f138.body.bind (tM 31 c138) = some c138 := by kernel_rfl
theorem n138 : Callable Tryz.prog 138 := ⟨⟨_, Tryz.func138, by kernel_rfl, rfl⟩⟩
theorem n139 : Callable Tryz.prog 139 := ⟨⟨_, Tryz.func139, by kernel_rfl, rfl⟩⟩
theorem n140 : Callable Tryz.prog 140 := ⟨⟨_, Tryz.func140, by kernel_rfl, rfl⟩⟩
@[go_sem] def r141_3 : List MO := [oN 7 (.binOp .eql 20 (ot 5) (.const .nilIface) 20)]
@[go_sem] def r141_4 : List MO := [oN 1 (oA 5)]
@[go_sem] def r141_5 : List MO := [oN 8 (.typeAssert (ot 5) 20 174 true), oN 9 (oE 8 1), oN 10 (oE 8 0)]
@[go_sem] def r141_6 : List MO := [oN 2 (.alloc 174), ⟨none, none, (oS 174 2 10)⟩]
@[go_sem] def r141_7 : List MO := [⟨none, none, (.store 29 (ot 0) (oK 7))⟩]
@[go_sem] def r141_8 : List MO := [oN 11 (.typeAssert (ot 5) 20 176 true), oN 12 (oE 11 1), oN 13 (oE 11 0)]
@[go_sem] def r141_9 : List MO := [oN 3 (.alloc 176), ⟨none, none, (oS 176 3 13)⟩]
@[go_sem] def r141_10 : List MO := [⟨none, none, (.store 29 (ot 0) (oK 4))⟩]
@[go_sem] def r141_1 : List MO := [oN 4 (oA 5)]
@[go_sem] def r141_2 : List MO := [oN 6 (oM 4), ⟨none, none, (.panic (ot 6))⟩]
theorem n141 : Callable Tryz.prog 141 := ⟨⟨_, Tryz.func141, by kernel_rfl, rfl⟩⟩
@[go_sem] def r142_0 : List MO := [oN 4 (.assign (.const (.slice none 0 0)))]
@[go_sem] def r142_1 : List MO := [oN 5 (oM 0), oN 6 (oM 1), oN 7 (oC 159 #[ot 5, ot 6, oK 0, (.const (.int .i64 (-1)))] #[9, 9, 3, 3]), oN 4 (oA 7)]
@[go_sem] def c142 : MC := (.seq (.region [0, 1] r142_0) (.seq (.region [4] r142_1) .ret))
theorem m142 : Tryz.f142.body.bind (tM 8 c142) = some c142 := by kernel_rfl
theorem n142 : Callable Tryz.prog 142 := ⟨⟨_, Tryz.func142, by kernel_rfl, rfl⟩⟩
@[go_sem] def r143_0 : List MO := [oN 4 (oM 0), oN 5 (.unOp .not 4 (ot 4))]
@[go_sem] def r143_1 : List MO := [oN 6 (oM 1), oN 7 (.build 176 #[(0, (ot 6))]), oN 8 (.makeInterface 176 (ot 7)), ⟨none, none, (.panic (ot 8))⟩]
@[go_sem] def c143 : MC := (.seq (.region [1, 5] r143_0) (.cond (.tmp 5) (.region [] r143_1) .skip))
theorem m143 : Tryz.f143.body.bind (tM 9 c143) = some c143 := by kernel_rfl
theorem n143 : Callable Tryz.prog 143 := ⟨⟨_, Tryz.func143, by kernel_rfl, rfl⟩⟩
@[go_sem] def r144_0 : List MO := [oN 6 (.assign (.const (.slice none 0 0)))]
@[go_sem] def r144_1 : List MO := [oN 14 (oM 0), oN 15 (oC 142 #[ot 14, (.const (.string { data := #[32] }))] #[9, 9]), oN 7 (oA 15)]
@[go_sem] def r144_2 : List MO := [oN 16 (oM 7), oN 17 (oD .len #[ot 16] #[141]), oN 18 (oM 2), oN 19 (oI .add 3 18 1 3), oN 20 (oB .eql 3 17 19 3), oN 21 (oM 20), oG 21 22 (oM 7), oG 21 23 (.indexAddr 141 (ot 22) (oK 0)), oG 21 24 (oL 9 23), oG 21 25 (oC 146 #[] #[]), oG 21 26 (oM 1), oG 21 27 (.index 181 (ot 25) (ot 26)), oG 21 28 (oB .eql 9 24 27 9), oN 29 (oP 21 28 false), oN 30 (oM 0), oN 31 (oC 143 #[ot 29, ot 30] #[4, 9])]
@[go_sem] def r144_3 : List MO := [oN 8 (.assign (.const (.slice none 0 0)))]
@[go_sem] def r144_4 : List MO := [oN 32 (oM 7), oN 33 (.slice 141 (ot 32) (some (oK 1)) none none), oN 34 (oD .len #[ot 33] #[141]), oN 35 (.move (oK 0))]
@[go_sem] def r144_5 : List MO := [oN 36 (oB .lss 3 35 34 3)]
@[go_sem] def r144_6 : List MO := [oN 37 (oX 141 33 35), oN 38 (oL 9 37), oN 10 (oA 38)]
@[go_sem] def r144_7 : List MO := [oN 11 (.assign (oK 0))]
@[go_sem] def r144_8 : List MO := [oN 39 (oM 10), oN 40 (.range 9 (ot 39))]
@[go_sem] def r144_9 : List MO := [oN 41 (.next (ot 40) true), oN 42 (oE 41 0)]
@[go_sem] def r144_10 : List MO := [oN 43 (oE 41 2), oN 13 (oA 43)]
@[go_sem] def r144_11 : List MO := [oN 44 (oM 13), oN 45 (.binOp .geq 21 (ot 44) (.const (.int .i32 48)) 21), oN 46 (oM 45), oG 46 47 (oM 13), oG 46 48 (.binOp .leq 21 (ot 47) (.const (.int .i32 57)) 21), oN 49 (oP 46 48 false), oN 50 (oM 49), oG 50 51 (oM 10), oG 50 52 (oD .len #[ot 51] #[9]), oG 50 53 (oI .leq 3 52 3 3), oN 54 (oP 50 53 false), oN 55 (oM 10), oN 56 (oC 143 #[ot 54, ot 55] #[4, 9])]
@[go_sem] def r144_12 : List MO := [oN 57 (oM 11), oN 58 (.binOp .mul 3 (oK 10) (ot 57) 3), oN 59 (oM 13), oN 60 (.binOp .sub 21 (ot 59) (.const (.int .i32 48)) 21), oN 61 (.convert 21 3 (ot 60)), oN 62 (oB .add 3 58 61 3), oN 11 (oA 62)]
def l144_1 : MC := (.seq (.region [8, 10, 11, 33, 34, 35, 40, 41, 42] r144_9) (.seq (.cond (.tmp 42) .skip (.exit 2)) (.block 3 (.seq (.region [8, 10, 11, 13, 33, 34, 35, 40] r144_10) (.seq (.region [8, 10, 11, 13, 33, 34, 35, 40] r144_11) (.region [8, 10, 11, 33, 34, 35, 40] r144_12))))))
@[go_sem] def r144_13 : List MO := [oN 63 (oM 10), oN 64 (.binOp .neq 9 (ot 63) (.const (.string { data := #[] })) 9), oN 65 (oM 64), oG 65 66 (oM 11), oG 65 67 (oC 139 #[ot 66] #[3]), oG 65 68 (oM 10), oG 65 69 (oB .eql 9 67 68 9), oN 70 (oP 65 69 false), oN 71 (oM 10), oN 72 (oC 143 #[ot 70, ot 71] #[4, 9])]
@[go_sem] def r144_14 : List MO := [oN 73 (oM 8), oN 74 (oM 11), oN 75 (.buildSlice 22 1 #[(0, (ot 74))]), oN 76 (oD .append #[ot 73, ot 75] #[22, 22]), oN 8 (oA 76)]
@[go_sem] def r144_15 : List MO := [oN 77 (oI .add 3 35 1 3), oN 35 (oM 77)]
def l144_0 : MC := (.seq (.region [8, 33, 34, 35, 36] r144_5) (.seq (.cond (.tmp 36) .skip (.exit 0)) (.seq (.block 1 (.seq (.region [8, 10, 33, 34, 35] r144_6) (.seq (.region [8, 10, 11, 33, 34, 35] r144_7) (.seq (.seq (.region [8, 10, 11, 33, 34, 35, 40] r144_8) (.block 2 (.loop l144_1))) (.seq (.region [8, 11, 33, 34, 35] r144_13) (.region [8, 33, 34, 35] r144_14)))))) (.region [8, 33, 34, 35] r144_15))))
@[go_sem] def r144_16 : List MO := [oN 78 (oM 8), oN 6 (oA 78)]
@[go_sem] def c144 : MC := (.seq (.region [0, 1, 2] r144_0) (.seq (.region [0, 1, 2, 7] r144_1) (.seq (.draw [7] 15 [] r144_2) (.seq (.region [7, 8] r144_3) (.seq (.seq (.region [8, 33, 34, 35] r144_4) (.block 0 (.loop l144_0))) (.seq (.region [6] r144_16) .ret))))))
theorem m144 : Tryz.f144.body.bind (tM 79 c144) = some c144 := by kernel_rfl
theorem n144 : Callable Tryz.prog 144 := ⟨⟨_, Tryz.func144, by kernel_rfl, rfl⟩⟩
theorem n145 : Callable Tryz.prog 145 := ⟨⟨_, Tryz.func145, by kernel_rfl, rfl⟩⟩
@[go_sem] def r146_0 : List MO := [oN 0 (.alloc 181)]
@[go_sem] def r146_1 : List MO := [oN 1 (.build 181 #[(0, (.const (.string { data := #[108, 105, 110, 101] }))), (1, (.const (.string { data := #[115, 116, 114, 101, 116, 99, 104] }))), (2, (.const (.string { data := #[99, 111, 117, 110, 116] })))]), ⟨none, none, (oS 181 0 1)⟩]
@[go_sem] def c146 : MC := (.seq (.region [0] r146_0) (.seq (.region [0] r146_1) .ret))
theorem m146 : Tryz.f146.body.bind (tM 2 c146) = some c146 := by kernel_rfl
theorem n146 : Callable Tryz.prog 146 := ⟨⟨_, Tryz.func146, by kernel_rfl, rfl⟩⟩
@[go_sem] def r147_0 : List MO := [oN 2 (.assign (.const (.string { data := #[] })))]
@[go_sem] def r147_1 : List MO := [oN 3 (oM 0), oN 4 (oI .gtr 3 3 (-10) 3), oN 5 (oM 4), oG 5 6 (oM 0), oG 5 7 (oI .lss 3 6 0 3), oN 8 (oP 5 7 false)]
@[go_sem] def r147_2 : List MO := [oN 9 (oM 0), oN 10 (.binOp .sub 3 (oK 48) (ot 9) 3), oN 11 (.convert 3 5 (ot 10)), oN 12 (.buildSlice 93 1 #[(0, (ot 11))]), oN 13 (.convert 93 9 (ot 12)), oN 14 (.binOp .add 9 (.const (.string { data := #[45] })) (ot 13) 9), oN 2 (oA 14)]
@[go_sem] def r147_3 : List MO := [oN 15 (oM 0), oN 16 (oI .lss 3 15 0 3)]
@[go_sem] def r147_4 : List MO := [oN 17 (oM 0), oN 18 (oI .quo 3 17 10 3), oN 19 (oC 147 #[ot 18] #[3]), oN 20 (oM 0), oN 21 (oI .rem 3 20 10 3), oN 22 (.binOp .sub 3 (oK 48) (ot 21) 3), oN 23 (.convert 3 5 (ot 22)), oN 24 (.buildSlice 93 1 #[(0, (ot 23))]), oN 25 (.convert 93 9 (ot 24)), oN 26 (oB .add 9 19 25 9), oN 2 (oA 26)]
@[go_sem] def r147_5 : List MO := [oN 27 (oM 0), oN 28 (oI .lss 3 27 10 3)]
@[go_sem] def r147_6 : List MO := [oN 29 (oM 0), oN 30 (.binOp .add 3 (oK 48) (ot 29) 3), oN 31 (.convert 3 5 (ot 30)), oN 32 (.buildSlice 93 1 #[(0, (ot 31))]), oN 33 (.convert 93 9 (ot 32)), oN 2 (oA 33)]
@[go_sem] def r147_7 : List MO := [oN 34 (oM 0), oN 35 (oI .quo 3 34 10 3), oN 36 (oC 147 #[ot 35] #[3]), oN 37 (oM 0), oN 38 (oI .rem 3 37 10 3), oN 39 (.binOp .add 3 (oK 48) (ot 38) 3), oN 40 (.convert 3 5 (ot 39)), oN 41 (.buildSlice 93 1 #[(0, (ot 40))]), oN 42 (.convert 93 9 (ot 41)), oN 43 (oB .add 9 36 42 9), oN 2 (oA 43)]
@[go_sem] def c147 : MC := (.seq (.region [0] r147_0) (.seq (.seq (.region [0, 8] r147_1) (.cond (.tmp 8) (.seq (.region [2] r147_2) .ret) .skip)) (.seq (.seq (.region [0, 16] r147_3) (.cond (.tmp 16) (.seq (.draw [2] 9 [] r147_4) .ret) .skip)) (.seq (.seq (.region [0, 28] r147_5) (.cond (.tmp 28) (.seq (.region [2] r147_6) .ret) .skip)) (.seq (.draw [2] 9 [] r147_7) .ret)))))
theorem m147 : Tryz.f147.body.bind (tM 44 c147) = some c147 := by kernel_rfl
theorem n147 : Callable Tryz.prog 147 := ⟨⟨_, Tryz.func147, by kernel_rfl, rfl⟩⟩
@[go_sem] def r149_0 : List MO := [oN 3 (.assign (.const (.bool false)))]
@[go_sem] def r149_1 : List MO := [oN 4 (oM 0), oN 5 (oI .neq 3 4 0 3), oN 6 (oM 5), oG 6 7 (oM 0), oG 6 8 (oF 25 1 1), oG 6 9 (oL 3 8), oG 6 10 (oF 25 1 2), oG 6 11 (oL 3 10), oG 6 12 (oC 83 #[ot 7, ot 9, ot 11] #[3, 3, 3]), oG 6 13 (.unOp .not 4 (ot 12)), oN 14 (oP 6 13 false), oN 3 (oA 14)]
@[go_sem] def c149 : MC := (.seq (.region [0, 1] r149_0) (.seq (.region [3] r149_1) .ret))
theorem m149 : Tryz.f149.body.bind (tM 15 c149) = some c149 := by kernel_rfl
theorem n149 : Callable Tryz.prog 149 := ⟨⟨_, Tryz.func149, by kernel_rfl, rfl⟩⟩
@[go_sem] def r150_0 : List MO := [oN 3 (.box 82 (ot 0)), oN 4 (.assign (.const (.bool false)))]
@[go_sem] def r150_1 : List MO := [oN 5 (oF 82 3 0), oN 6 (oL 3 5), oN 7 (oL 3 1), oN 8 (oB .eql 3 6 7 3), oN 9 (oM 8), oG 9 10 (oL 3 2), oG 9 11 (oF 82 3 1), oG 9 12 (oL 3 11), oG 9 13 (oF 82 3 2), oG 9 14 (oL 3 13), oG 9 15 (oC 83 #[ot 10, ot 12, ot 14] #[3, 3, 3]), oG 9 16 (.unOp .not 4 (ot 15)), oN 17 (oP 9 16 false), oN 4 (oA 17)]
@[go_sem] def c150 : MC := (.seq (.region [1, 2, 3] r150_0) (.seq (.region [4] r150_1) .ret))
theorem m150 : Tryz.f150.body.bind (tM 18 c150) = some c150 := by kernel_rfl
theorem n150 : Callable Tryz.prog 150 := ⟨⟨_, Tryz.func150, by kernel_rfl, rfl⟩⟩
@[go_sem] def r151_0 : List MO := [oN 1 (.box 25 (ot 0)), oN 2 (.assign (.const .nilFunc))]
@[go_sem] def r151_1 : List MO := [oN 3 (.makeFunc (.func 161) #[] #[(ot 1)]), oN 2 (oA 3)]
@[go_sem] def c151 : MC := (.seq (.region [1] r151_0) (.seq (.region [2] r151_1) .ret))
theorem m151 : Tryz.f151.body.bind (tM 4 c151) = some c151 := by kernel_rfl
theorem n151 : Callable Tryz.prog 151 := ⟨⟨_, Tryz.func151, by kernel_rfl, rfl⟩⟩
@[go_sem] def r152_0 : List MO := [oN 4 (.assign (oK 0))]
@[go_sem] def r152_1 : List MO := [oN 6 (oM 0), oN 7 (oD .len #[ot 6] #[22]), oN 8 (.move (oK 0))]
@[go_sem] def r152_2 : List MO := [oN 9 (oB .lss 3 8 7 3)]
@[go_sem] def r152_3 : List MO := [oN 10 (oM 8), oN 5 (oA 10)]
@[go_sem] def r152_4 : List MO := [oN 11 (oM 1), oN 12 (oM 0), oN 13 (oM 5), oN 14 (oX 22 12 13), oN 15 (oL 3 14), oN 16 (.call { callee := (.value (ot 11)), args := #[(ot 15)], argTypes := #[3] })]
@[go_sem] def r152_5 : List MO := [oN 17 (oM 5), oN 4 (oA 17)]
@[go_sem] def r152_6 : List MO := [oN 18 (oI .add 3 8 1 3), oN 8 (oM 18)]
def l152_0 : MC := (.seq (.region [0, 1, 7, 8, 9] r152_2) (.seq (.cond (.tmp 9) .skip (.exit 0)) (.seq (.block 1 (.seq (.region [0, 1, 5, 7, 8] r152_3) (.seq (.region [0, 1, 5, 7, 8, 16] r152_4) (.cond (.tmp 16) (.seq (.region [4] r152_5) .ret) .skip)))) (.region [0, 1, 7, 8] r152_6))))
@[go_sem] def r152_7 : List MO := [oN 4 (.assign (.const (.int .i64 (-1))))]
@[go_sem] def c152 : MC := (.seq (.region [0, 1] r152_0) (.seq (.seq (.region [0, 1, 7, 8] r152_1) (.block 0 (.loop l152_0))) (.seq (.region [4] r152_7) .ret)))
theorem m152 : Tryz.f152.body.bind (tM 19 c152) = some c152 := by kernel_rfl
theorem n152 : Callable Tryz.prog 152 := ⟨⟨_, Tryz.func152, by kernel_rfl, rfl⟩⟩
@[go_sem] def r153_0 : List MO := [oN 4 (.assign (oK 0))]
@[go_sem] def r153_1 : List MO := [oN 6 (oM 0), oN 7 (oD .len #[ot 6] #[23]), oN 8 (.move (oK 0))]
@[go_sem] def r153_2 : List MO := [oN 9 (oB .lss 3 8 7 3)]
@[go_sem] def r153_3 : List MO := [oN 10 (oM 8), oN 5 (oA 10)]
@[go_sem] def r153_4 : List MO := [oN 11 (oM 1), oN 12 (oM 0), oN 13 (oM 5), oN 14 (oX 23 12 13), oN 15 (oL 82 14), oN 16 (.call { callee := (.value (ot 11)), args := #[(ot 15)], argTypes := #[82] })]
@[go_sem] def r153_5 : List MO := [oN 17 (oM 5), oN 4 (oA 17)]
@[go_sem] def r153_6 : List MO := [oN 18 (oI .add 3 8 1 3), oN 8 (oM 18)]
def l153_0 : MC := (.seq (.region [0, 1, 7, 8, 9] r153_2) (.seq (.cond (.tmp 9) .skip (.exit 0)) (.seq (.block 1 (.seq (.region [0, 1, 5, 7, 8] r153_3) (.seq (.region [0, 1, 5, 7, 8, 16] r153_4) (.cond (.tmp 16) (.seq (.region [4] r153_5) .ret) .skip)))) (.region [0, 1, 7, 8] r153_6))))
@[go_sem] def r153_7 : List MO := [oN 4 (.assign (.const (.int .i64 (-1))))]
@[go_sem] def c153 : MC := (.seq (.region [0, 1] r153_0) (.seq (.seq (.region [0, 1, 7, 8] r153_1) (.block 0 (.loop l153_0))) (.seq (.region [4] r153_7) .ret)))
theorem m153 : Tryz.f153.body.bind (tM 19 c153) = some c153 := by kernel_rfl
theorem n153 : Callable Tryz.prog 153 := ⟨⟨_, Tryz.func153, by kernel_rfl, rfl⟩⟩
@[go_sem] def r154_0 : List MO := [oN 4 (.assign (.const (.slice none 0 0)))]
@[go_sem] def r154_1 : List MO := [oN 9 (oM 1), oN 10 (oI .lss 3 9 0 3)]
@[go_sem] def r154_2 : List MO := [oN 11 (.makeInterface 9 (.const (.string { data := #[99, 97, 110, 110, 111, 116, 32, 98, 101, 32, 110, 101, 103, 97, 116, 105, 118, 101] }))), ⟨none, none, (.panic (ot 11))⟩]
@[go_sem] def r154_3 : List MO := [oN 13 (oM 0), oN 14 (oD .len #[ot 13] #[22]), oN 15 (.convert 3 205 (ot 14)), oN 16 (oM 1), oN 17 (.convert 3 205 (ot 16)), oN 18 (oC 162 #[ot 15, ot 17] #[205, 205]), oN 12 (oM 18), oN 19 (oE 12 0), oN 20 (oE 12 1), oN 5 (oA 19), oN 6 (oA 20)]
@[go_sem] def r154_4 : List MO := [oN 21 (oM 5), oN 22 (.binOp .gtr 205 (ot 21) (.const (.int .u64 0)) 205), oN 23 (oM 22), oH 23 24 (oM 6), oH 23 25 (.binOp .gtr 205 (ot 24) (.const (.int .u64 9223372036854775807)) 205), oN 26 (.pick (ot 23) (.const (.bool true)) (ot 25))]
@[go_sem] def r154_5 : List MO := [oN 27 (.makeInterface 9 (.const (.string { data := #[116, 104, 101, 32, 114, 101, 115, 117, 108, 116, 32, 111, 102, 32, 40, 108, 101, 110, 40, 120, 41, 32, 42, 32, 99, 111, 117, 110, 116, 41, 32, 111, 118, 101, 114, 102, 108, 111, 119, 115] }))), ⟨none, none, (.panic (ot 27))⟩]
@[go_sem] def r154_6 : List MO := [oN 28 (oM 6), oN 29 (.convert 205 3 (ot 28)), oN 30 (.makeSlice 22 (ot 29) (ot 29)), oN 7 (oA 30)]
@[go_sem] def r154_7 : List MO := [oN 31 (oM 7), oN 32 (oM 0), oN 33 (oD .copy #[ot 31, ot 32] #[22, 22]), oN 8 (oA 33)]
@[go_sem] def r154_8 : List MO := [oN 34 (oM 8), oN 35 (oM 7), oN 36 (oD .len #[ot 35] #[22]), oN 37 (oB .lss 3 34 36 3)]
@[go_sem] def r154_9 : List MO := [oN 38 (oM 8), oN 39 (oM 7), oN 40 (oM 8), oN 41 (.slice 22 (ot 39) (some (ot 40)) none none), oN 42 (oM 7), oN 43 (oM 8), oN 44 (.slice 22 (ot 42) none (some (ot 43)) none), oN 45 (oD .copy #[ot 41, ot 44] #[22, 22]), oN 46 (oB .add 3 38 45 3), oN 8 (oA 46)]
def l154_0 : MC := (.seq (.seq (.region [7, 8, 37] r154_8) (.cond (.tmp 37) .skip (.exit 0))) (.block 1 (.draw [7, 8] 8 [true, false, false, false, false, false, false, false] r154_9)))
@[go_sem] def r154_10 : List MO := [oN 47 (oM 7), oN 4 (oA 47)]
@[go_sem] def c154 : MC := (.seq (.region [0, 1] r154_0) (.seq (.seq (.region [0, 1, 10] r154_1) (.cond (.tmp 10) (.region [0, 1] r154_2) .skip)) (.seq (.region [0, 5, 6] r154_3) (.seq (.seq (.region [0, 6, 26] r154_4) (.cond (.tmp 26) (.region [0, 6] r154_5) .skip)) (.seq (.region [0, 7] r154_6) (.seq (.region [7, 8] r154_7) (.seq (.block 0 (.loop l154_0)) (.seq (.region [4] r154_10) .ret))))))))
theorem m154 : Tryz.f154.body.bind (tM 48 c154) = some c154 := by kernel_rfl
theorem n154 : Callable Tryz.prog 154 := ⟨⟨_, Tryz.func154, by kernel_rfl, rfl⟩⟩
@[go_sem] def r161_0 : List MO := [oN 6 (oM 0), oN 7 (.call { callee := (.value (ot 6)), args := #[(.const (.slice none 0 0))], argTypes := #[22] }), oN 8 (.unOp .not 4 (ot 7))]
@[go_sem] def r161_1 : List MO := [oN 9 (oF 25 1 0), oN 10 (oL 22 9), oN 11 (oD .len #[ot 10] #[22]), oN 12 (.move (oK 0))]
@[go_sem] def r161_2 : List MO := [oN 13 (oB .lss 3 12 11 3)]
@[go_sem] def r161_3 : List MO := [oN 14 (oM 12), oN 3 (oA 14)]
@[go_sem] def r161_4 : List MO := [oN 15 (oM 0), oN 16 (oM 3), oN 17 (.buildSlice 22 1 #[(0, (ot 16))]), oN 18 (.call { callee := (.value (ot 15)), args := #[(ot 17)], argTypes := #[22] }), oN 19 (.unOp .not 4 (ot 18))]
@[go_sem] def r161_5 : List MO := [oN 20 (oI .add 3 12 1 3), oN 12 (oM 20)]
def l161_0 : MC := (.seq (.region [0, 1, 11, 12, 13] r161_2) (.seq (.cond (.tmp 13) .skip (.exit 0)) (.seq (.block 1 (.seq (.region [0, 1, 3, 11, 12] r161_3) (.seq (.region [0, 1, 11, 12, 19] r161_4) (.cond (.tmp 19) .ret .skip)))) (.region [0, 1, 11, 12] r161_5))))
@[go_sem] def r161_6 : List MO := [oN 21 (oF 25 1 0), oN 22 (oL 22 21), oN 23 (oD .len #[ot 22] #[22]), oN 24 (.move (oK 0))]
@[go_sem] def r161_7 : List MO := [oN 25 (oB .lss 3 24 23 3)]
@[go_sem] def r161_8 : List MO := [oN 26 (oM 24), oN 4 (oA 26)]
@[go_sem] def r161_9 : List MO := [oN 27 (oM 4), oN 28 (oI .add 3 27 1 3), oN 5 (oA 28)]
@[go_sem] def r161_10 : List MO := [oN 29 (oM 5), oN 30 (oF 25 1 0), oN 31 (oL 22 30), oN 32 (oD .len #[ot 31] #[22]), oN 33 (oB .lss 3 29 32 3)]
@[go_sem] def r161_12 : List MO := [oN 36 (oM 0), oN 37 (oM 4), oN 38 (oM 5), oN 39 (.buildSlice 22 2 #[(0, (ot 37)), (1, (ot 38))]), oN 40 (.call { callee := (.value (ot 36)), args := #[(ot 39)], argTypes := #[22] }), oN 41 (.unOp .not 4 (ot 40))]
@[go_sem] def r161_11 : List MO := [oN 34 (oM 5), oN 35 (oI .add 3 34 1 3), oN 5 (oA 35)]
def l161_2 : MC := (.seq (.seq (.region [0, 1, 4, 5, 23, 24, 33] r161_10) (.cond (.tmp 33) .skip (.exit 4))) (.seq (.block 5 (.seq (.region [0, 1, 4, 5, 23, 24, 41] r161_12) (.cond (.tmp 41) .ret .skip))) (.region [0, 1, 4, 5, 23, 24] r161_11)))
@[go_sem] def r161_13 : List MO := [oN 42 (oI .add 3 24 1 3), oN 24 (oM 42)]
def l161_1 : MC := (.seq (.region [0, 1, 23, 24, 25] r161_7) (.seq (.cond (.tmp 25) .skip (.exit 2)) (.seq (.block 3 (.seq (.region [0, 1, 4, 23, 24] r161_8) (.seq (.region [0, 1, 4, 5, 23, 24] r161_9) (.block 4 (.loop l161_2))))) (.region [0, 1, 23, 24] r161_13))))
@[go_sem] def c161 : MC := (.seq (.seq (.region [0, 1, 8] r161_0) (.cond (.tmp 8) .ret .skip)) (.seq (.seq (.region [0, 1, 11, 12] r161_1) (.block 0 (.loop l161_0))) (.seq (.region [0, 1, 23, 24] r161_6) (.block 2 (.loop l161_1)))))
theorem m161 : Tryz.f161.body.bind (tN 43 [0, 1, 2, 3, 4, 5, 6, 7, 8, 9, 10, 12, 11, 13] c161) = some c161 := by kernel_rfl
theorem n161 : Callable Tryz.prog 161 := ⟨⟨_, Tryz.func161, by kernel_rfl, rfl⟩⟩
@[go_sem] def r162_0 : List MO := [oN 4 (.assign (.const (.int .u64 0))), oN 5 (.assign (.const (.int .u64 0)))]
@[go_sem] def r162_1 : List MO := [oN 11 (oM 0), oN 12 (.convert 205 212 (ot 11)), oN 13 (oM 1), oN 14 (.convert 205 212 (ot 13)), oN 15 (oC 169 #[ot 12, ot 14] #[212, 212]), oN 10 (oM 15), oN 16 (oE 10 0), oN 17 (oE 10 1), oN 6 (oA 16), oN 7 (oA 17)]
@[go_sem] def r162_2 : List MO := [oN 18 (oM 6), oN 19 (.convert 212 205 (ot 18)), oN 20 (oM 7), oN 21 (.convert 212 205 (ot 20)), oN 4 (oA 19), oN 5 (oA 21)]
@[go_sem] def r162_3 : List MO := [oN 23 (oM 0), oN 24 (oM 1), oN 25 (oC 170 #[ot 23, ot 24] #[215, 215]), oN 22 (oM 25), oN 26 (oE 22 0), oN 27 (oE 22 1), oN 8 (oA 26), oN 9 (oA 27)]
@[go_sem] def r162_4 : List MO := [oN 28 (oM 8), oN 29 (oM 9), oN 4 (oA 28), oN 5 (oA 29)]
@[go_sem] def c162 : MC := (.seq (.region [0, 1] r162_0) (.seq (.cond (.const (.bool false)) (.seq (.region [6, 7] r162_1) (.seq (.region [4, 5] r162_2) .ret)) .skip) (.seq (.region [8, 9] r162_3) (.seq (.region [4, 5] r162_4) .ret))))
theorem m162 : Tryz.f162.body.bind (tM 30 c162) = some c162 := by kernel_rfl
theorem n162 : Callable Tryz.prog 162 := ⟨⟨_, Tryz.func162, by kernel_rfl, rfl⟩⟩
@[go_sem] def r170_0 : List MO := [oN 4 (.assign (.const (.int .u64 0))), oN 5 (.assign (.const (.int .u64 0)))]
@[go_sem] def r170_1 : List MO := [oN 14 (oM 0), oN 15 (.binOp .and 215 (ot 14) (.const (.int .u64 4294967295)) 215), oN 6 (oA 15)]
@[go_sem] def r170_2 : List MO := [oN 16 (oM 0), oN 17 (.binOp .shr 215 (ot 16) (.const (.int .u64 32)) 205), oN 7 (oA 17)]
@[go_sem] def r170_3 : List MO := [oN 18 (oM 1), oN 19 (.binOp .and 215 (ot 18) (.const (.int .u64 4294967295)) 215), oN 8 (oA 19)]
@[go_sem] def r170_4 : List MO := [oN 20 (oM 1), oN 21 (.binOp .shr 215 (ot 20) (.const (.int .u64 32)) 205), oN 9 (oA 21)]
@[go_sem] def r170_5 : List MO := [oN 22 (oM 6), oN 23 (oM 8), oN 24 (oB .mul 215 22 23 215), oN 10 (oA 24)]
@[go_sem] def r170_6 : List MO := [oN 25 (oM 7), oN 26 (oM 8), oN 27 (oB .mul 215 25 26 215), oN 28 (oM 10), oN 29 (.binOp .shr 215 (ot 28) (.const (.int .u64 32)) 205), oN 30 (oB .add 215 27 29 215), oN 11 (oA 30)]
@[go_sem] def r170_7 : List MO := [oN 31 (oM 11), oN 32 (.binOp .and 215 (ot 31) (.const (.int .u64 4294967295)) 215), oN 12 (oA 32)]
@[go_sem] def r170_8 : List MO := [oN 33 (oM 11), oN 34 (.binOp .shr 215 (ot 33) (.const (.int .u64 32)) 205), oN 13 (oA 34)]
@[go_sem] def r170_9 : List MO := [oN 35 (oM 12), oN 36 (oM 6), oN 37 (oM 9), oN 38 (oB .mul 215 36 37 215), oN 39 (oB .add 215 35 38 215), oN 12 (oA 39)]
@[go_sem] def r170_10 : List MO := [oN 40 (oM 7), oN 41 (oM 9), oN 42 (oB .mul 215 40 41 215), oN 43 (oM 13), oN 44 (oB .add 215 42 43 215), oN 45 (oM 12), oN 46 (.binOp .shr 215 (ot 45) (.const (.int .u64 32)) 205), oN 47 (oB .add 215 44 46 215), oN 4 (oA 47)]
@[go_sem] def r170_11 : List MO := [oN 48 (oM 0), oN 49 (oM 1), oN 50 (oB .mul 215 48 49 215), oN 5 (oA 50)]
@[go_sem] def c170 : MC := (.seq (.region [0, 1] r170_0) (.seq (.region [0, 1, 6] r170_1) (.seq (.region [0, 1, 6, 7] r170_2) (.seq (.region [0, 1, 6, 7, 8] r170_3) (.seq (.region [0, 1, 6, 7, 8, 9] r170_4) (.seq (.region [0, 1, 6, 7, 8, 9, 10] r170_5) (.seq (.region [0, 1, 6, 7, 9, 11] r170_6) (.seq (.region [0, 1, 6, 7, 9, 11, 12] r170_7) (.seq (.region [0, 1, 6, 7, 9, 12, 13] r170_8) (.seq (.region [0, 1, 7, 9, 12, 13] r170_9) (.seq (.region [0, 1, 4] r170_10) (.seq (.region [4, 5] r170_11) .ret))))))))))))
theorem m170 : Tryz.f170.body.bind (tM 51 c170) = some c170 := by kernel_rfl
theorem n170 : Callable Tryz.prog 170 := ⟨⟨_, Tryz.func170, by kernel_rfl, rfl⟩⟩
@[go_sem] def r210_0 : List MO := [oN 1 (.box 167 (ot 0)), oN 2 (.assign (.const (.slice none 0 0)))]
@[go_sem] def r210_1 : List MO := [oN 3 (oF 167 1 0), oN 4 (oF 25 3 1), oN 5 (oL 3 4), oN 6 (oF 167 1 0), oN 7 (oF 25 6 2), oN 8 (oL 3 7), oN 9 (oF 167 1 0), oN 10 (oF 25 9 3), oN 11 (oL 3 10), oN 12 (.buildSlice 22 3 #[(0, (ot 5)), (1, (ot 8)), (2, (ot 11))]), oN 2 (oA 12)]
@[go_sem] def c210 : MC := (.seq (.region [1] r210_0) (.seq (.region [2] r210_1) .ret))
theorem m210 : Tryz.f210.body.bind (tM 13 c210) = some c210 := by kernel_rfl
theorem n210 : Callable Tryz.prog 210 := ⟨⟨_, Tryz.func210, by kernel_rfl, rfl⟩⟩
@[go_sem] def r211_0 : List MO := [oN 2 (.assign (.const (.slice none 0 0)))]
@[go_sem] def r211_1 : List MO := [oN 3 (oM 0), oN 4 (.buildSlice 22 1 #[(0, (ot 3))]), oN 2 (oA 4)]
@[go_sem] def c211 : MC := (.seq (.region [0] r211_0) (.seq (.region [2] r211_1) .ret))
theorem m211 : Tryz.f211.body.bind (tM 5 c211) = some c211 := by kernel_rfl
theorem n211 : Callable Tryz.prog 211 := ⟨⟨_, Tryz.func211, by kernel_rfl, rfl⟩⟩
@[go_sem] def r212_0 : List MO := [oN 1 (.box 170 (ot 0)), oN 2 (.assign (.const (.slice none 0 0)))]
@[go_sem] def r212_1 : List MO := [oN 3 (oF 170 1 0), oN 4 (oF 82 3 0), oN 5 (oL 3 4), oN 6 (oF 170 1 0), oN 7 (oF 82 6 1), oN 8 (oL 3 7), oN 9 (oF 170 1 0), oN 10 (oF 82 9 2), oN 11 (oL 3 10), oN 12 (.buildSlice 22 3 #[(0, (ot 5)), (1, (ot 8)), (2, (ot 11))]), oN 2 (oA 12)]
@[go_sem] def c212 : MC := (.seq (.region [1] r212_0) (.seq (.region [2] r212_1) .ret))
theorem m212 : Tryz.f212.body.bind (tM 13 c212) = some c212 := by kernel_rfl
theorem n212 : Callable Tryz.prog 212 := ⟨⟨_, Tryz.func212, by kernel_rfl, rfl⟩⟩
end Go.Av.Fx
end

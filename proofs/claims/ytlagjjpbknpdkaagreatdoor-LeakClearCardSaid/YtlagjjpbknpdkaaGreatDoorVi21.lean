/- Part 21 of the proof. -/
import Derived.Shelf.Strings.OnBuilder
import Derived.Shelf.LaysM
import Derived.Shelf.Strconv.Itoa3
import Derived.Shelf.Strings.Prefix
import Derived.Shelf.Strings.Split
import Derived.Test.YtlagjjpbknpdkaaGreatDoorProg
import Derived.Test.YtlagjjpbknpdkaaGreatDoorVi11
import Derived.Test.YtlagjjpbknpdkaaGreatDoorVi20
import Derived.Lib.ItoaLen
set_option linter.all false
set_option linter.unusedVariables false
set_option linter.unusedSimpArgs false
set_option linter.unusedSectionVars false
open Nat (reduceEqDiff reduceAdd reduceLeDiff)
section
namespace Go.Proofs
open Go.Shelf
def Tryz.lays156_ren : Go.Shelf.Ren := ⟨fun | 156 => 140 | 165 => 156 | 166 => 157 | 169 => 158 | 240 => 164 | 241 => 165 | 276 => 175 | 277 => 176 | n => n, fun | 31 => 141 | 9 => 9 | 3 => 3 | 4 => 4 | 0 => 0 | 20 => 20 | 72 => 197 | 76 => 201 | 70 => 195 | 37 => 93 | 75 => 200 | 127 => 209 | 164 => 223 | 5 => 5 | 80 => 203 | n => n, fun | n => n⟩
theorem Tryz.lays156 : Go.Proofs.Lays.n156 Tryz.prog Tryz.lays156_ren := {
 mixed := by kernel_rfl
 f156 := Tryz.func140.trans (congrArg some (by kernel_rfl))
 f165 := Tryz.func156.trans (congrArg some (by kernel_rfl))
 f166 := Tryz.func157.trans (congrArg some (by kernel_rfl))
 f169 := Tryz.func158.trans (congrArg some (by kernel_rfl))
 f240 := Tryz.func164.trans (congrArg some (by kernel_rfl))
 f241 := Tryz.func165.trans (congrArg some (by kernel_rfl))
 f276 := Tryz.func175.trans (congrArg some (by kernel_rfl))
 f277 := Tryz.func176.trans (congrArg some (by kernel_rfl))
 t0 := Tryz.underlying0
 a0 := Tryz.isAgg0
 z0 := Tryz.sizeOf0
 v0 := Tryz.zeroValue0
 t3 := Tryz.underlying3
 a3 := Tryz.isAgg3
 z3 := Tryz.sizeOf3
 v3 := Tryz.zeroValue3
 t4 := Tryz.underlying4
 a4 := Tryz.isAgg4
 z4 := Tryz.sizeOf4
 v4 := Tryz.zeroValue4
 t9 := Tryz.underlying9
 a9 := Tryz.isAgg9
 z9 := Tryz.sizeOf9
 v9 := Tryz.zeroValue9
 t20 := Tryz.underlying20
 a20 := Tryz.isAgg20
 z20 := Tryz.sizeOf20
 v20 := Tryz.zeroValue20
 t31 := Tryz.underlying141
 a31 := Tryz.isAgg141
 z31 := Tryz.sizeOf141
 v31 := Tryz.zeroValue141
 t37 := Tryz.underlying93
 a37 := Tryz.isAgg93
 z37 := Tryz.sizeOf93
 v37 := Tryz.zeroValue93
 t70 := Tryz.underlying195
 a70 := Tryz.isAgg195
 z70 := Tryz.sizeOf195
 v70 := Tryz.zeroValue195
 t72 := Tryz.underlying197
 a72 := Tryz.isAgg197
 z72 := Tryz.sizeOf197
 v72 := Tryz.zeroValue197
 t75 := Tryz.underlying200
 a75 := Tryz.isAgg200
 z75 := Tryz.sizeOf200
 v75 := Tryz.zeroValue200
 t76 := Tryz.underlying201
 a76 := Tryz.isAgg201
 z76 := Tryz.sizeOf201
 v76 := Tryz.zeroValue201
 t127 := Tryz.underlying209
 a127 := Tryz.isAgg209
 z127 := Tryz.sizeOf209
 v127 := Tryz.zeroValue209
 t164 := Tryz.underlying223
 a164 := Tryz.isAgg223
 z164 := Tryz.sizeOf223
 v164 := Tryz.zeroValue223 }
theorem Tryz.Builder_Extra_156 : Builder.Extra Tryz.prog Tryz.lays156_ren := {
 sizeBuilder := by kernel_rfl
 liesBuilder := by kernel_rfl
 t5 := Tryz.underlying5
 a5 := Tryz.isAgg5
 z5 := Tryz.sizeOf5
 v5 := Tryz.zeroValue5
 infoByte := by kernel_rfl
 cellsByte := by kernel_rfl
 sizeByte := by kernel_rfl
 neB5 := by decide }
open Go.RowKit in
theorem Tryz.strings_Join_none (a : Option Addr) (c : Nat) (sep : ByteArray) (w : World) :
  Calls Tryz.prog 140 #[.slice a 0 c, .string sep] w fun e w' => e = .returned (.string ⟨#[]⟩) ∧ w' = w := Any.strings_Join_none Tryz.lays156 Tryz.Builder_Extra_156 a c sep w
open Go.RowKit in
theorem Tryz.strings_Join (bk o c : Nat) (xs : List ByteArray) (sep : ByteArray) (w : World) (hcells : ∀ (j : Nat) x, xs[j]? = some x → w.cell? ⟨bk, o + j, none⟩ = some (.string x)) (hbk : bk < w.heap.size) (hN : xs.length ≤ 140737488355328) (hcap : xs.length ≤ c) (hlen : (Lib.join (xs.map (·.data.toList)) sep.data.toList).length ≤ 140737488355328) :
  Calls Tryz.prog 140 #[.slice (some ⟨bk, o, none⟩) xs.length c, .string sep] w fun e w' => e = .returned (.string ⟨(Lib.join (xs.map (·.data.toList)) sep.data.toList).toArray⟩) ∧ Below w.heap.size w w' := Any.strings_Join Tryz.lays156 Tryz.Builder_Extra_156 bk o c xs sep w hcells hbk hN hcap hlen
def Tryz.laysM171_ren : Go.Shelf.Ren := ⟨fun | 171 => 139 | 243 => 155 | 246 => 163 | 283 => 171 | 284 => 172 | 285 => 173 | 286 => 174 | 129 => 182 | 317 => 181 | 318 => 183 | 319 => 184 | 320 => 185 | 337 => 191 | 338 => 192 | n => n, fun | 3 => 3 | 9 => 9 | 2 => 2 | 4 => 4 | 171 => 218 | 0 => 0 | 53 => 215 | 37 => 93 | 5 => 5 | 173 => 221 | 212 => 232 | 51 => 212 | 20 => 20 | 213 => 233 | 46 => 205 | 232 => 241 | 233 => 242 | n => n, fun | 17 => 0 | 18 => 4 | 19 => 5 | n => n⟩
theorem Tryz.laysM171 : Go.Proofs.LaysM.n171 Tryz.prog Tryz.laysM171_ren := {
 mixed := by kernel_rfl
 f129 := Tryz.func182.trans (congrArg some (by kernel_rfl))
 f171 := Tryz.func139.trans (congrArg some (by kernel_rfl))
 f243 := Tryz.func155.trans (congrArg some (by kernel_rfl))
 f246 := Tryz.func163.trans (congrArg some (by kernel_rfl))
 f283 := Tryz.func171.trans (congrArg some (by kernel_rfl))
 f284 := Tryz.func172.trans (congrArg some (by kernel_rfl))
 f285 := Tryz.func173.trans (congrArg some (by kernel_rfl))
 f286 := Tryz.func174.trans (congrArg some (by kernel_rfl))
 f317 := Tryz.func181.trans (congrArg some (by kernel_rfl))
 f318 := Tryz.func183.trans (congrArg some (by kernel_rfl))
 f319 := Tryz.func184.trans (congrArg some (by kernel_rfl))
 f320 := Tryz.func185.trans (congrArg some (by kernel_rfl))
 f337 := Tryz.func191.trans (congrArg some (by kernel_rfl))
 f338 := Tryz.func192.trans (congrArg some (by kernel_rfl))
 t0 := Tryz.underlying0
 a0 := Tryz.isAgg0
 z0 := Tryz.sizeOf0
 v0 := Tryz.zeroValue0
 t2 := Tryz.underlying2
 a2 := Tryz.isAgg2
 z2 := Tryz.sizeOf2
 v2 := Tryz.zeroValue2
 t3 := Tryz.underlying3
 a3 := Tryz.isAgg3
 z3 := Tryz.sizeOf3
 v3 := Tryz.zeroValue3
 t4 := Tryz.underlying4
 a4 := Tryz.isAgg4
 z4 := Tryz.sizeOf4
 v4 := Tryz.zeroValue4
 t5 := Tryz.underlying5
 a5 := Tryz.isAgg5
 z5 := Tryz.sizeOf5
 v5 := Tryz.zeroValue5
 t9 := Tryz.underlying9
 a9 := Tryz.isAgg9
 z9 := Tryz.sizeOf9
 v9 := Tryz.zeroValue9
 t20 := Tryz.underlying20
 a20 := Tryz.isAgg20
 z20 := Tryz.sizeOf20
 v20 := Tryz.zeroValue20
 t37 := Tryz.underlying93
 a37 := Tryz.isAgg93
 z37 := Tryz.sizeOf93
 v37 := Tryz.zeroValue93
 t46 := Tryz.underlying205
 a46 := Tryz.isAgg205
 z46 := Tryz.sizeOf205
 v46 := Tryz.zeroValue205
 t51 := Tryz.underlying212
 a51 := Tryz.isAgg212
 z51 := Tryz.sizeOf212
 v51 := Tryz.zeroValue212
 t53 := Tryz.underlying215
 a53 := Tryz.isAgg215
 z53 := Tryz.sizeOf215
 v53 := Tryz.zeroValue215
 t171 := Tryz.underlying218
 a171 := Tryz.isAgg218
 z171 := Tryz.sizeOf218
 v171 := Tryz.zeroValue218
 t173 := Tryz.underlying221
 a173 := Tryz.isAgg221
 z173 := Tryz.sizeOf221
 v173 := Tryz.zeroValue221
 t212 := Tryz.underlying232
 a212 := Tryz.isAgg232
 z212 := Tryz.sizeOf232
 v212 := Tryz.zeroValue232
 t213 := Tryz.underlying233
 a213 := Tryz.isAgg233
 z213 := Tryz.sizeOf233
 t232 := Tryz.underlying241
 a232 := Tryz.isAgg241
 z232 := Tryz.sizeOf241
 v232 := Tryz.zeroValue241
 t233 := Tryz.underlying242
 a233 := Tryz.isAgg242
 z233 := Tryz.sizeOf242
 v233 := Tryz.zeroValue242
 g17 := by kernel_rfl
 g18 := by kernel_rfl
 g19 := by kernel_rfl
 i0 := by kernel_rfl
 i2 := by kernel_rfl
 i3 := by kernel_rfl
 i4 := by kernel_rfl
 i5 := by kernel_rfl
 i9 := by kernel_rfl
 i20 := by kernel_rfl
 i37 := by kernel_rfl
 i46 := by kernel_rfl
 i51 := by kernel_rfl
 i53 := by kernel_rfl
 i171 := by kernel_rfl
 i173 := by kernel_rfl
 i212 := by kernel_rfl
 i232 := by kernel_rfl
 i233 := by kernel_rfl
 m17 := by kernel_rfl
 m18 := by kernel_rfl
 m19 := by kernel_rfl }
open Go.RowKit Go.Sort Go.Lib in
theorem Tryz.strconv_Itoa (n : Int) (h0 : -9223372036854775808 ≤ n) (h1 : n ≤ 9223372036854775807) (w : World) (htab : Lib.TabIs Tryz.prog w "internal/strconv.uint64pow10" .u64 Lib.pow10Tab) :
  Calls Tryz.prog 139 #[.int .i64 n] w fun e w' => e = .returned (.string ⟨(Lib.itoa n).toArray⟩) ∧ ∃ k os, w' = grow (w.drewN k) os := Any.strconv_Itoa Tryz.laysM171 n h0 h1 w htab
def Tryz.lays143_ren : Go.Shelf.Ren := ⟨fun | 143 => 168 | 219 => 180 | 217 => 187 | 225 => 188 | 224 => 189 | 267 => 190 | 266 => 193 | 314 => 194 | n => n, fun | 9 => 9 | 3 => 3 | 4 => 4 | 5 => 5 | 46 => 205 | 146 => 213 | 51 => 212 | n => n, fun | 1 => 1 | n => n⟩
theorem Tryz.lays143 : Go.Proofs.Lays.n143 Tryz.prog Tryz.lays143_ren := {
 mixed := by kernel_rfl
 f143 := Tryz.func168.trans (congrArg some (by kernel_rfl))
 f217 := Tryz.func187.trans (congrArg some (by kernel_rfl))
 f219 := Tryz.func180.trans (congrArg some (by kernel_rfl))
 f224 := Tryz.func189.trans (congrArg some (by kernel_rfl))
 f225 := Tryz.func188.trans (congrArg some (by kernel_rfl))
 f266 := Tryz.func193.trans (congrArg some (by kernel_rfl))
 f267 := Tryz.func190.trans (congrArg some (by kernel_rfl))
 f314 := Tryz.func194.trans (congrArg some (by kernel_rfl))
 t3 := Tryz.underlying3
 a3 := Tryz.isAgg3
 z3 := Tryz.sizeOf3
 v3 := Tryz.zeroValue3
 t4 := Tryz.underlying4
 a4 := Tryz.isAgg4
 z4 := Tryz.sizeOf4
 v4 := Tryz.zeroValue4
 t5 := Tryz.underlying5
 a5 := Tryz.isAgg5
 z5 := Tryz.sizeOf5
 v5 := Tryz.zeroValue5
 t9 := Tryz.underlying9
 a9 := Tryz.isAgg9
 z9 := Tryz.sizeOf9
 v9 := Tryz.zeroValue9
 t46 := Tryz.underlying205
 a46 := Tryz.isAgg205
 z46 := Tryz.sizeOf205
 v46 := Tryz.zeroValue205
 t51 := Tryz.underlying212
 a51 := Tryz.isAgg212
 z51 := Tryz.sizeOf212
 v51 := Tryz.zeroValue212
 t146 := Tryz.underlying213
 a146 := Tryz.isAgg213
 z146 := Tryz.sizeOf213
 v146 := Tryz.zeroValue213
 g1 := by kernel_rfl }
open Go.RowKit Go.Lib in
theorem Tryz.strings_Index_one (s : ByteArray) (c : UInt8) (w : World) :
  Calls Tryz.prog 168 #[.string s, .string ⟨#[c]⟩] w fun e w' => e = .returned (.int .i64 (Lib.indexByte s.data.toList c)) ∧ w' = w := Any.strings_Index_one Tryz.lays143 s c w
def Tryz.lays138_ren : Go.Shelf.Ren := ⟨fun | 138 => 167 | 195 => 177 | 218 => 179 | 143 => 168 | 219 => 180 | 217 => 187 | 225 => 188 | 224 => 189 | 267 => 190 | 266 => 193 | 314 => 194 | n => n, fun | 9 => 9 | 3 => 3 | 4 => 4 | 5 => 5 | 0 => 0 | 46 => 205 | 146 => 213 | 51 => 212 | n => n, fun | 1 => 1 | n => n⟩
theorem Tryz.lays138 : Go.Proofs.Lays.n138 Tryz.prog Tryz.lays138_ren := {
 mixed := by kernel_rfl
 f138 := Tryz.func167.trans (congrArg some (by kernel_rfl))
 f143 := Tryz.func168.trans (congrArg some (by kernel_rfl))
 f195 := Tryz.func177.trans (congrArg some (by kernel_rfl))
 f217 := Tryz.func187.trans (congrArg some (by kernel_rfl))
 f218 := Tryz.func179.trans (congrArg some (by kernel_rfl))
 f219 := Tryz.func180.trans (congrArg some (by kernel_rfl))
 f224 := Tryz.func189.trans (congrArg some (by kernel_rfl))
 f225 := Tryz.func188.trans (congrArg some (by kernel_rfl))
 f266 := Tryz.func193.trans (congrArg some (by kernel_rfl))
 f267 := Tryz.func190.trans (congrArg some (by kernel_rfl))
 f314 := Tryz.func194.trans (congrArg some (by kernel_rfl))
 t0 := Tryz.underlying0
 a0 := Tryz.isAgg0
 z0 := Tryz.sizeOf0
 v0 := Tryz.zeroValue0
 t3 := Tryz.underlying3
 a3 := Tryz.isAgg3
 z3 := Tryz.sizeOf3
 v3 := Tryz.zeroValue3
 t4 := Tryz.underlying4
 a4 := Tryz.isAgg4
 z4 := Tryz.sizeOf4
 v4 := Tryz.zeroValue4
 t5 := Tryz.underlying5
 a5 := Tryz.isAgg5
 z5 := Tryz.sizeOf5
 v5 := Tryz.zeroValue5
 t9 := Tryz.underlying9
 a9 := Tryz.isAgg9
 z9 := Tryz.sizeOf9
 v9 := Tryz.zeroValue9
 t46 := Tryz.underlying205
 a46 := Tryz.isAgg205
 z46 := Tryz.sizeOf205
 v46 := Tryz.zeroValue205
 t51 := Tryz.underlying212
 a51 := Tryz.isAgg212
 z51 := Tryz.sizeOf212
 v51 := Tryz.zeroValue212
 t146 := Tryz.underlying213
 a146 := Tryz.isAgg213
 z146 := Tryz.sizeOf213
 v146 := Tryz.zeroValue213
 g1 := by kernel_rfl }
open Go.RowKit Go.Lib in
theorem Tryz.strings_Count_one (s : ByteArray) (c : UInt8) (w : World) :
  Calls Tryz.prog 167 #[.string s, .string ⟨#[c]⟩] w fun e w' => e = .returned (.int .i64 (Lib.countByte s.data.toList c)) ∧ w' = w := Any.strings_Count_one Tryz.lays138 s c w
def Tryz.lays99_ren : Go.Shelf.Ren := ⟨fun | 99 => 145 | 206 => 160 | n => n, fun | 9 => 9 | 4 => 4 | 3 => 3 | n => n, fun | n => n⟩
theorem Tryz.lays99 : Go.Proofs.Lays.n99 Tryz.prog Tryz.lays99_ren := {
 mixed := by kernel_rfl
 f99 := Tryz.func145.trans (congrArg some (by kernel_rfl))
 f206 := Tryz.func160.trans (congrArg some (by kernel_rfl))
 t3 := Tryz.underlying3
 a3 := Tryz.isAgg3
 z3 := Tryz.sizeOf3
 v3 := Tryz.zeroValue3
 t4 := Tryz.underlying4
 a4 := Tryz.isAgg4
 z4 := Tryz.sizeOf4
 v4 := Tryz.zeroValue4
 t9 := Tryz.underlying9
 a9 := Tryz.isAgg9
 z9 := Tryz.sizeOf9
 v9 := Tryz.zeroValue9 }
open Go.RowKit Go.Lib in
theorem Tryz.strings_HasPrefix (s p : ByteArray) (w : World) :
  Calls Tryz.prog 145 #[.string s, .string p] w fun e w' => e = .returned (.bool (Lib.hasPrefix s.data.toList p.data.toList)) ∧ w' = w := Any.strings_HasPrefix Tryz.lays99 s p w
def Tryz.lays221_ren : Go.Shelf.Ren := ⟨fun | 221 => 159 | 268 => 166 | 138 => 167 | 143 => 168 | 195 => 177 | 197 => 178 | 218 => 179 | 219 => 180 | 260 => 186 | 217 => 187 | 225 => 188 | 224 => 189 | 267 => 190 | 266 => 193 | 314 => 194 | n => n, fun | 9 => 9 | 3 => 3 | 31 => 141 | 4 => 4 | 0 => 0 | 105 => 227 | 21 => 21 | 5 => 5 | 46 => 205 | 119 => 236 | 139 => 239 | 138 => 238 | 146 => 213 | 51 => 212 | n => n, fun | 1 => 1 | 3 => 2 | 4 => 3 | n => n⟩
theorem Tryz.lays221 : Go.Proofs.Lays.n221 Tryz.prog Tryz.lays221_ren := {
 mixed := by kernel_rfl
 f138 := Tryz.func167.trans (congrArg some (by kernel_rfl))
 f143 := Tryz.func168.trans (congrArg some (by kernel_rfl))
 f195 := Tryz.func177.trans (congrArg some (by kernel_rfl))
 f197 := Tryz.func178.trans (congrArg some (by kernel_rfl))
 f217 := Tryz.func187.trans (congrArg some (by kernel_rfl))
 f218 := Tryz.func179.trans (congrArg some (by kernel_rfl))
 f219 := Tryz.func180.trans (congrArg some (by kernel_rfl))
 f221 := Tryz.func159.trans (congrArg some (by kernel_rfl))
 f224 := Tryz.func189.trans (congrArg some (by kernel_rfl))
 f225 := Tryz.func188.trans (congrArg some (by kernel_rfl))
 f260 := Tryz.func186.trans (congrArg some (by kernel_rfl))
 f266 := Tryz.func193.trans (congrArg some (by kernel_rfl))
 f267 := Tryz.func190.trans (congrArg some (by kernel_rfl))
 f268 := Tryz.func166.trans (congrArg some (by kernel_rfl))
 f314 := Tryz.func194.trans (congrArg some (by kernel_rfl))
 t0 := Tryz.underlying0
 a0 := Tryz.isAgg0
 z0 := Tryz.sizeOf0
 v0 := Tryz.zeroValue0
 t3 := Tryz.underlying3
 a3 := Tryz.isAgg3
 z3 := Tryz.sizeOf3
 v3 := Tryz.zeroValue3
 t4 := Tryz.underlying4
 a4 := Tryz.isAgg4
 z4 := Tryz.sizeOf4
 v4 := Tryz.zeroValue4
 t5 := Tryz.underlying5
 a5 := Tryz.isAgg5
 z5 := Tryz.sizeOf5
 v5 := Tryz.zeroValue5
 t9 := Tryz.underlying9
 a9 := Tryz.isAgg9
 z9 := Tryz.sizeOf9
 v9 := Tryz.zeroValue9
 t21 := Tryz.underlying21
 a21 := Tryz.isAgg21
 z21 := Tryz.sizeOf21
 v21 := Tryz.zeroValue21
 t31 := Tryz.underlying141
 a31 := Tryz.isAgg141
 z31 := Tryz.sizeOf141
 v31 := Tryz.zeroValue141
 t46 := Tryz.underlying205
 a46 := Tryz.isAgg205
 z46 := Tryz.sizeOf205
 v46 := Tryz.zeroValue205
 t51 := Tryz.underlying212
 a51 := Tryz.isAgg212
 z51 := Tryz.sizeOf212
 v51 := Tryz.zeroValue212
 t105 := Tryz.underlying227
 a105 := Tryz.isAgg227
 z105 := Tryz.sizeOf227
 v105 := Tryz.zeroValue227
 t119 := Tryz.underlying236
 a119 := Tryz.isAgg236
 z119 := Tryz.sizeOf236
 t138 := Tryz.underlying238
 a138 := Tryz.isAgg238
 z138 := Tryz.sizeOf238
 v138 := Tryz.zeroValue238
 t139 := Tryz.underlying239
 a139 := Tryz.isAgg239
 z139 := Tryz.sizeOf239
 v139 := Tryz.zeroValue239
 t146 := Tryz.underlying213
 a146 := Tryz.isAgg213
 z146 := Tryz.sizeOf213
 v146 := Tryz.zeroValue213
 g1 := by kernel_rfl
 g3 := by kernel_rfl
 g4 := by kernel_rfl }
end Go.Proofs
end
section
namespace Go.Av
open Go Go.Proofs Go.RowKit Go.Sort
theorem Chg.below {w w' : World} (h : Below w.heap.size w w') : Chg w w' (fun _ _ => False) (fun _ => False) := by
  have cell : ∀ b o v, w.cell? ⟨b, o, none⟩ = some v → w'.cell? ⟨b, o, none⟩ = some v := fun b o v e => by
    have hb := cell?_isSome_lt e
    unfold World.cell? at e ⊢
    rw [h.block b hb]; exact e
  refine ⟨fun b o v e _ => cell b o v e, fun b o v e => ⟨v, cell b o v e⟩, fun b o hb => ?_, fun b ob e _ _ => ?_, h.size, fun b x e => ?_, ⟨h.os, h.output, fun b cs t fr e => ⟨cs, by rw [h.block b (Array.getElem?_eq_some_iff.1 e).1]; exact e, rfl⟩⟩⟩
  · unfold World.frozen?; rw [h.block b hb]
  · rw [h.block b (Array.getElem?_eq_some_iff.1 e).1]; exact e
  · have hb : b < w.heap.size := by
      rcases Nat.lt_or_ge b w.heap.size with h' | h'
      · exact h'
      · unfold World.shape? at e; rw [Array.getElem?_eq_none h'] at e; cases e
    unfold World.shape? at e ⊢
    rw [h.block b hb]; exact e
theorem StRel.below {c : Cx} {S : St} {w w' : World} (h : StRel c S w) (hb : Below w.heap.size w w') : StRel c S w' :=
  h.chg (Chg.below hb) (fun _ _ e => e.elim) (fun _ e => e.elim) (fun _ _ _ _ _ => ⟨fun _ _ e => e, fun _ e => e⟩)
theorem StRel.grow {c : Cx} {S : St} {w : World} (h : StRel c S w) (k : Nat) (os : Array Obj) : StRel c S (grow (w.drewN k) os) := by
  have h0 : (w.drewN k).heap = w.heap := rfl
  have hb : ∀ b, b < w.heap.size → (Go.Sort.grow (w.drewN k) os).heap[b]? = w.heap[b]? := fun b hb => by
    show (w.heap ++ os)[b]? = _
    exact Array.getElem?_append_left hb
  have cell : ∀ b o v, w.cell? ⟨b, o, none⟩ = some v → (Go.Sort.grow (w.drewN k) os).cell? ⟨b, o, none⟩ = some v := fun b o v e => by
    have hl := cell?_isSome_lt e
    unfold World.cell? at e ⊢
    rw [hb b hl]; exact e
  refine h.chg (R := fun _ _ => False) (RO := fun _ => False) ⟨fun b o v e _ => cell b o v e, fun b o v e => ⟨v, cell b o v e⟩, fun b o hl => ?_, fun b ob e _ _ => ?_, ?_, fun b x e => ?_, ⟨rfl, rfl, fun b cs t fr e => ⟨cs, by rw [hb b (Array.getElem?_eq_some_iff.1 e).1]; exact e, rfl⟩⟩⟩ (fun _ _ e => e.elim) (fun _ e => e.elim) (fun _ _ _ _ _ => ⟨fun _ _ e => e, fun _ e => e⟩)
  · unfold World.frozen?; rw [hb b hl]
  · rw [hb b (Array.getElem?_eq_some_iff.1 e).1]; exact e
  · show w.heap.size ≤ (w.heap ++ os).size
    simp
  · have hl : b < w.heap.size := by
      rcases Nat.lt_or_ge b w.heap.size with h' | h'
      · exact h'
      · unfold World.shape? at e; rw [Array.getElem?_eq_none h'] at e; cases e
    unfold World.shape? at e ⊢
    rw [hb b hl]; exact e
theorem StRel.tabIs {c : Cx} {S : St} {w : World} (h : StRel c S w) : Lib.TabIs Tryz.prog w "internal/strconv.uint64pow10" .u64 Lib.pow10Tab := by
  have hg : Tryz.prog.globalNamed "internal/strconv.uint64pow10" = some tabB := by kernel_rfl
  obtain ⟨t, ht⟩ := h.tsh
  unfold Lib.TabIs World.var?
  rw [hg]
  unfold World.shape? at ht
  show (match w.heap[tabB]? with | some (.cells cs _ _) => some cs | _ => none) = _
  cases hw : w.heap[tabB]? with
  | none => rw [hw] at ht; cases ht
  | some ob =>
    rw [hw] at ht
    cases ob <;> simp at ht ⊢
    rename_i cs e f
    obtain ⟨_, hs⟩ := ht
    apply Array.ext
    · simp [hs, Lib.pow10Tab]
    · intro i h1 h2
      have hi : i < 20 := hs ▸ h1
      have hk := h.K _ _ _ (h.tab i hi)
      unfold World.cell? at hk
      simp only [hw] at hk
      simp at hk
      rw [Array.getElem?_eq_getElem h1] at hk
      simp only [Option.some.injEq] at hk
      rw [hk]
      simp [tabV, Lib.pow10Tab]
theorem VRel.of_str {c : Cx} {s : ByteArray} {x : Value} (h : VRel c (.str s) x) : x = .string s := by cases h; rfl
theorem VRel.of_int {c : Cx} {k : IntKind} {n : Int} {x : Value} (h : VRel c (.int k n) x) : x = .int k n := by cases h; rfl
theorem LRel.one {c : Cx} {x : AV} {vs : List Value} (h : LRel c [x] vs) : ∃ v, vs = [v] ∧ VRel c x v := by
  obtain ⟨v, vs', rfl, h1, h2⟩ := h.tail
  cases vs' with
  | nil => exact ⟨v, rfl, h1⟩
  | cons a b => simp [LRel] at h2
theorem LRel.two {c : Cx} {x y : AV} {vs : List Value} (h : LRel c [x, y] vs) : ∃ u v, vs = [u, v] ∧ VRel c x u ∧ VRel c y v := by
  obtain ⟨u, vs', rfl, h1, h2⟩ := h.tail
  obtain ⟨v, rfl, h3⟩ := h2.one
  exact ⟨u, v, rfl, h1, h3⟩
theorem LRel.four {c : Cx} {a b x y : AV} {vs : List Value} (h : LRel c [a, b, x, y] vs) : ∃ t s u v, vs = [t, s, u, v] ∧ VRel c a t ∧ VRel c b s ∧ VRel c x u ∧ VRel c y v := by
  obtain ⟨t, vs', rfl, h1, h2⟩ := h.tail
  obtain ⟨s, vs'', rfl, h3, h4⟩ := h2.tail
  obtain ⟨u, v, rfl, h5, h6⟩ := h4.two
  exact ⟨t, s, u, v, rfl, h1, h3, h5, h6⟩
def itoaB (n : Int) : ByteArray := ⟨(Lib.itoa n).toArray⟩
theorem Itoa_pc (n : Int) (h0 : -9223372036854775808 ≤ n) (h1 : n ≤ 9223372036854775807) : PC Tryz.prog 139 [.int .i64 n] (.pure (.str (itoaB n))) := by
  intro c S w vs hs hl
  obtain ⟨v, rfl, hv⟩ := hl.one
  cases hv.of_int
  refine (Tryz.strconv_Itoa n h0 h1 w hs.tabIs).mono ?_
  rintro e w' ⟨rfl, k, os, rfl⟩
  exact ⟨_, rfl, c, Cx.le.refl c, rfl, rfl, hs.grow k os, .str _⟩
theorem HasPrefix_pc (s p : ByteArray) : PC Tryz.prog 145 [.str s, .str p] (.pure (.bool (Lib.hasPrefix s.data.toList p.data.toList))) := by
  intro c S w vs hs hl
  obtain ⟨u, v, rfl, hu, hv⟩ := hl.two
  cases hu.of_str; cases hv.of_str
  refine (Tryz.strings_HasPrefix s p w).mono ?_
  rintro e w' ⟨rfl, rfl⟩
  exact ⟨_, rfl, Post.same hs (.bool _)⟩
def joinB (xs : List ByteArray) (sep : ByteArray) : ByteArray := ⟨(Lib.join (xs.map (·.data.toList)) sep.data.toList).toArray⟩
theorem Join_pc (xs : List ByteArray) (sep : ByteArray) (t : Tail) (hN : xs.length ≤ 140737488355328) (hlen : (Lib.join (xs.map (·.data.toList)) sep.data.toList).length ≤ 140737488355328) :
    PC Tryz.prog 140 [.slice (xs.map AV.str) xs.length t, .str sep] (.pure (.str (joinB xs sep))) := by
  intro c S w vs hs hl
  obtain ⟨u, v, rfl, hu, hv⟩ := hl.two
  cases hv.of_str
  generalize hL : xs.map AV.str = L at hu
  generalize hn : xs.length = n at hu hN
  cases hu with
  | sliceNil _ ht =>
    have : xs = [] := List.eq_nil_of_length_eq_zero hn
    subst this
    refine (Tryz.strings_Join_none none 0 sep w).mono ?_
    rintro e w' ⟨rfl, rfl⟩
    exact ⟨_, rfl, Post.same hs (.str _)⟩
  | slice _ _ _ b off cap us hc hk hr he ht =>
    subst hL
    by_cases h0 : xs = []
    · subst h0
      cases hn
      refine (Tryz.strings_Join_none _ _ sep w).mono ?_
      rintro e w' ⟨rfl, rfl⟩
      exact ⟨_, rfl, Post.same hs (.str _)⟩
    have hcells : ∀ (j : Nat) x, xs[j]? = some x → w.cell? ⟨b, off + j, none⟩ = some (.string x) := by
      intro j x hx
      have hj : j < xs.length := by
        rcases Nat.lt_or_ge j xs.length with h' | h'
        · exact h'
        · rw [List.getElem?_eq_none h'] at hx; cases hx
      have h1 := hr j (.str x) (by rw [List.getElem?_map, hx]; rfl)
      have h2 := h1.of_str
      have h3 := hs.K _ _ _ (hk j (by simpa using hj))
      rw [h2] at h3; exact h3
    have hpos : 0 < xs.length := List.length_pos_iff.2 h0
    have hb : b < w.heap.size := cell?_isSome_lt (hcells 0 xs[0] (List.getElem?_eq_getElem hpos))
    subst hn
    refine (Tryz.strings_Join b off cap xs sep w hcells hb hN hc hlen).mono ?_
    rintro e w' ⟨rfl, hw⟩
    exact ⟨_, rfl, c, Cx.le.refl c, rfl, rfl, hs.below hw, .str _⟩
def splitL (s : ByteArray) (c : UInt8) : List ByteArray := Lib.splitB ⟨#[c]⟩ 0 (Lib.countB s ⟨#[c]⟩) s
theorem genSplit_pc (s : ByteArray) (b : UInt8) (hs : s.size < 4294967281) : PC Tryz.prog 159 [.str s, .str ⟨#[b]⟩, .int .i64 0, .int .i64 (-1)] (.pure (.slice ((splitL s b).map AV.str) (splitL s b).length .exact)) := by
  intro c S w vs hst hl
  obtain ⟨v1, v2, v3, v4, rfl, h1, h2, h3, h4⟩ := hl.four
  cases h1.of_str; cases h2.of_str; cases h3.of_int; cases h4.of_int
  have hle := Lib.countB_le ⟨#[b]⟩ (Nat.le_refl 1) s.size s (Nat.le_refl _)
  have hlen := Lib.splitB_all ⟨#[b]⟩ (Nat.le_refl 1) 0 _ s rfl
  have c1 := Any.strings_genSplit_core Tryz.lays221 (by kernel_rfl) s ⟨#[b]⟩ 0 (-1) (Lib.countB s ⟨#[b]⟩ + 1) w hs (Nat.le_refl 1) (Nat.zero_le _)
    (fun x cc hx => by
      have h := Tryz.strings_Index_one x b (w.alloc (.cells cc 9))
      rw [← Lib.index_one] at h
      exact h)
    (by have h := Tryz.strings_Count_one s b w
        unfold Lib.countByte at h
        rw [← Lib.count_one] at h
        exact h) (by decide) (by decide) (by rw [if_pos (by decide)]; omega)
  rw [Nat.add_sub_cancel, hlen] at c1
  refine Calls.mono c1 ?_
  rintro e w' ⟨rfl, rfl⟩
  refine ⟨_, rfl, ?_⟩
  have e2 : Lib.cellsOf (Lib.splitB ⟨#[b]⟩ 0 (Lib.countB s ⟨#[b]⟩) s) (Lib.countB s ⟨#[b]⟩ + 1) = ((splitL s b).map Value.string).toArray := by rw [← hlen]; exact Lib.cellsOf_full _
  rw [e2]
  have hln : Lib.countB s ⟨#[b]⟩ + 1 = (splitL s b).length := hlen.symm
  rw [hln]
  exact Post.newImm hst (l := (splitL s b).map AV.str) (arr := ((splitL s b).map Value.string).toArray) 9 ⟨by simp, fun j x v e1 e2 => by
    simp only [List.getElem?_map] at e1 e2
    cases hj : (splitL s b)[j]? with
    | none => rw [hj] at e1; cases e1
    | some y => rw [hj] at e1 e2; cases e1; cases e2; exact .str _⟩ _
end Go.Av
end
section
namespace Go.Av.Fx
open Go Go.Av Go.Av.Tb Go.Proofs
def meths (t : TypeId) (s : String) : Option FuncId := if s = "quinaria/leak.numbers" then (if t = 167 then some 210 else if t = 168 then some 211 else if t = 170 then some 212 else none) else none
theorem meths_ok : ∀ t name f, meths t name = some f → ∀ v w, (Go.method (Tryz.prog.types.size + Made.depth) t v name).run Tryz.prog w = Result.ok (f, v) w := by
 intro t name f h v w
 unfold meths at h
 split at h
 ·rename_i e; subst e
  split at h
  ·rename_i e; subst e; cases h; kernel_rfl
  split at h
  ·rename_i e; subst e; cases h; kernel_rfl
  split at h
  ·rename_i e; subst e; cases h; kernel_rfl
  ·cases h
 ·cases h
noncomputable def Em (n : Nat) : Env := { E n with M := meths }
theorem Em_ok (n : Nat) : (Em n).Ok := ⟨(E_ok n).T, meths_ok, (E_ok n).Cle, (E_ok n).Y⟩
@[go_sem] theorem Em_T (n : Nat) : (Em n).T = T := rfl
@[go_sem] theorem Em_P (n : Nat) : (Em n).P = Tryz.prog := rfl
@[go_sem] theorem Em_M (n : Nat) : (Em n).M = meths := rfl
@[go_sem] theorem ta168_0 (v : AV) : typeAssertA T (.iface 167 v) 168 true = some (.tuple [.int .i64 0, .bool false]) := rfl
@[go_sem] theorem ta168_1 (v : AV) : typeAssertA T (.iface 168 v) 168 true = some (.tuple [v, .bool true]) := rfl
@[go_sem] theorem ta168_2 (v : AV) : typeAssertA T (.iface 170 v) 168 true = some (.tuple [.int .i64 0, .bool false]) := rfl
@[go_sem] theorem ta170_0 (v : AV) : typeAssertA T (.iface 167 v) 170 true = some (.tuple [.agg [.int .i64 0, .int .i64 0, .int .i64 0], .bool false]) := rfl
@[go_sem] theorem ta170_2 (v : AV) : typeAssertA T (.iface 170 v) 170 true = some (.tuple [v, .bool true]) := rfl
@[go_sem] theorem ix181_0 (a b c : AV) : indexA T 181 (.agg [a, b, c]) (.int .i64 0) = some a := rfl
@[go_sem] theorem ix181_1 (a b c : AV) : indexA T 181 (.agg [a, b, c]) (.int .i64 1) = some b := rfl
@[go_sem] theorem ix181_2 (a b c : AV) : indexA T 181 (.agg [a, b, c]) (.int .i64 2) = some c := rfl
def wordB (k : Nat) : ByteArray := [⟨#[108, 105, 110, 101]⟩, ⟨#[115, 116, 114, 101, 116, 99, 104]⟩, ⟨#[99, 111, 117, 110, 116]⟩].getD k ByteArray.empty
theorem words_pc : PC Tryz.prog 146 [] (.pure (.agg [.str (wordB 0), .str (wordB 1), .str (wordB 2)])) := by
 refine PC.of_empty (AC.run (E_ok _) mix Tryz.func146 m146 rfl rfl rfl (Nat.le_of_ble_eq_true rfl) ?_) rfl rfl
 have hb : buildA T 181 [(0, AV.str ⟨#[108, 105, 110, 101]⟩), (1, AV.str ⟨#[115, 116, 114, 101, 116, 99, 104]⟩), (2, AV.str ⟨#[99, 111, 117, 110, 116]⟩)] = some (.agg [.str (wordB 0), .str (wordB 1), .str (wordB 2)]) := by rfl
 simp only [go_sem, hb, Tryz.f146, reduceEqDiff, Nat.reduceBEq, reduceAdd, reduceIte, reduceCtorEq, reduceLeDiff]
theorem head_pc (l : LLine) : PC Tryz.prog 210 [.agg (lineC l)] (.pure (.slice [.int .i64 l.least, .int .i64 l.most, .int .i64 l.taps] 3 .exact)) := by
 refine PC.of_empty (AC.run (E_ok _) mix Tryz.func210 m210 rfl rfl rfl (Nat.le_of_ble_eq_true rfl) ?_) (by simp [bndL, AV.bnd]) rfl
 simp only [go_sem, boxA, Tryz.f210, reduceEqDiff, Nat.reduceBEq, reduceAdd, reduceIte, reduceCtorEq, reduceLeDiff]
theorem stretch_pc (n : Int) : PC Tryz.prog 211 [.int .i64 n] (.pure (.slice [.int .i64 n] 1 .exact)) := by
 refine PC.of_empty (AC.run (E_ok _) mix Tryz.func211 m211 rfl rfl rfl (Nat.le_of_ble_eq_true rfl) ?_) (by simp [bndL, AV.bnd]) rfl
 simp only [go_sem, boxA, Tryz.f211, reduceEqDiff, Nat.reduceBEq, reduceAdd, reduceIte, reduceCtorEq, reduceLeDiff]
theorem count_pc (c : Cnt) : PC Tryz.prog 212 [.agg [.int .i64 c.point, .int .i64 c.low, .int .i64 c.high]] (.pure (.slice [.int .i64 c.point, .int .i64 c.low, .int .i64 c.high] 3 .exact)) := by
 refine PC.of_empty (AC.run (E_ok _) mix Tryz.func212 m212 rfl rfl rfl (Nat.le_of_ble_eq_true rfl) ?_) (by simp [bndL, AV.bnd]) rfl
 simp only [go_sem, boxA, Tryz.f212, reduceEqDiff, Nat.reduceBEq, reduceAdd, reduceIte, reduceCtorEq, reduceLeDiff]
inductive Ent where
 | head (l : LLine)
 | stretch (n : Int)
 | count (c : Cnt)
def Ent.av : Ent → AV
 | .head l => .iface 167 (.agg (lineC l))
 | .stretch n => .iface 168 (.int .i64 n)
 | .count c => .iface 170 (.agg (cntC c))
def Ent.k : Ent → Nat
 | .head _ => 0
 | .stretch _ => 1
 | .count _ => 2
def Ent.ns : Ent → List Int
 | .head l => [l.least, l.most, l.taps]
 | .stretch n => [n]
 | .count c => [c.point, c.low, c.high]
def i64 (n : Int) : Prop := -9223372036854775808 ≤ n ∧ n ≤ 9223372036854775807
def sp : ByteArray := ⟨#[32]⟩
def rowN (o : ByteArray) (ns : List Int) : ByteArray := ns.foldl (fun o n => o ++ (sp ++ itoaB n)) o
def rowB (k : Nat) (ns : List Int) : ByteArray := rowN (wordB k) ns
@[go_sem] theorem meths0 : meths 167 "quinaria/leak.numbers" = some 210 := rfl
@[go_sem] theorem meths1 : meths 168 "quinaria/leak.numbers" = some 211 := rfl
@[go_sem] theorem meths2 : meths 170 "quinaria/leak.numbers" = some 212 := rfl
theorem itoaB_size {n : Int} (h : i64 n) : (itoaB n).size ≤ 21 := by
 have := Lib.itoa_length_le n h.1 h.2
 simpa [itoaB, ByteArray.size] using this
theorem rowN_size : ∀ (ns : List Int) (o : ByteArray), (∀ n ∈ ns, i64 n) → (rowN o ns).size ≤ o.size + 22 * ns.length
 | [], o, _ => Nat.le_refl _
 | n :: ns, o, h => by
  have h1 := rowN_size ns (o ++ (sp ++ itoaB n)) fun m hm => h m (List.mem_cons_of_mem _ hm)
  have h2 := itoaB_size (h n List.mem_cons_self)
  have h3 : (o ++ (sp ++ itoaB n)).size = o.size + (1 + (itoaB n).size) := by rw [ByteArray.size_append, ByteArray.size_append]; rfl
  show (rowN (o ++ (sp ++ itoaB n)) ns).size ≤ _
  simp only [List.length_cons]; omega
theorem rowN_take (o : ByteArray) (ns : List Int) (k : Nat) (h : k < ns.length) : rowN o (ns.take (k + 1)) = rowN o (ns.take k) ++ (sp ++ itoaB ns[k]) := by
 unfold rowN
 rw [List.take_add_one, List.getElem?_eq_getElem h, List.foldl_append]
 rfl
theorem wordB_size (k : Nat) : (wordB k).size ≤ 7 := by
 match k with
 | 0 => decide
 | 1 => decide
 | 2 => decide
 | k + 3 => simp [wordB]
theorem addS {a b : ByteArray} (h : a.size + b.size ≤ 4611686018427387904) : binA T .add 9 (.str a) (.str b) = some (.str (a ++ b)) := by
 show (if a.size + b.size ≤ 4611686018427387904 then some (AV.str (a ++ b)) else none) = _
 rw [if_pos h]
theorem row_loop (kk : Nat) (ns : List Int) (hn : ns.length ≤ 3) (h : ∀ n ∈ ns, i64 n) (Q : AQ)
  (hQ : Q (.exit 1) [(4, .str (rowB kk ns)), (18, .slice (ints ns) ns.length .exact), (19, .int .i64 ns.length), (20, .int .i64 ns.length), (21, .bool false)] St.empty) :
  WC (Em 31) (.loop l138_0) Q [(4, .str (wordB kk)), (18, .slice (ints ns) ns.length .exact), (19, .int .i64 ns.length), (20, .int .i64 0)] St.empty := by
 refine wc_for ns.length (fun k => [(4, .str (rowN (wordB kk) (ns.take k))), (18, .slice (ints ns) ns.length .exact), (19, .int .i64 ns.length), (20, .int .i64 k)]) (fun _ => St.empty) rfl rfl ?_
 intro k hk I hI
 by_cases h' : k < ns.length
 ·have h1 : (k : Int) < ns.length := by omega
  have h2 : 0 ≤ (k : Int) ∧ (k : Int) < ns.length := by omega
  have h3 : ns[k]? = some ns[k] := List.getElem?_eq_getElem h'
  have h4 : IntKind.i64.wrap ((k : Int) + 1) = (k + 1 : Nat) := wrap64 (by omega)
  have hm := h _ (List.getElem_mem h')
  have h5 := itoaB_size hm
  have h6 := rowN_size (ns.take k) (wordB kk) fun m hm => h m (List.mem_of_mem_take hm)
  have h7 := wordB_size kk
  have h8 : (ns.take k).length ≤ 3 := by simp; omega
  have h9 : sp.size + (itoaB ns[k]).size ≤ 4611686018427387904 := by show 1 + _ ≤ _; omega
  have h10 : (rowN (wordB kk) (ns.take k)).size + (sp ++ itoaB ns[k]).size ≤ 4611686018427387904 := by rw [ByteArray.size_append]; show _ + (1 + _) ≤ _; omega
  simp only [go_sem, l138_0, builtinA, h1, decide_true, h2, ints_get, h3, reduceEqDiff, Nat.reduceBEq, reduceAdd, reduceIte, reduceCtorEq, reduceLeDiff]
  refine call_pure (E := Em _) n139 (Itoa_pc _ hm.1 hm.2) (SubL.refl _) ?_
  have h11 : binA T .add 9 (.str ⟨#[32]⟩) (.str (itoaB ns[k])) = some (.str (sp ++ itoaB ns[k])) := addS h9
  have h12 := addS h10
  simp only [go_sem, h11, h12, h4, reduceEqDiff, Nat.reduceBEq, reduceAdd, reduceIte, reduceCtorEq, reduceLeDiff]
  have := hI h'
  rw [rowN_take _ _ _ h'] at this
  exact this
 ·have h1 : ¬ (k : Int) < ns.length := by omega
  have e : k = ns.length := by omega
  subst e
  simp only [go_sem, l138_0, builtinA, h1, decide_false, List.take_length, reduceEqDiff, Nat.reduceBEq, reduceAdd, reduceIte, reduceCtorEq, reduceLeDiff]
  exact hQ
theorem row_pc (e : Ent) (h : ∀ n ∈ e.ns, i64 n) : PC Tryz.prog 138 [e.av] (.pure (.str (rowB e.k e.ns))) := by
 refine PC.of_empty (AC.run (Em_ok _) mix Tryz.func138 m138 rfl rfl rfl (Nat.le_of_ble_eq_true rfl) ?_) (by cases e <;> simp [bndL, AV.bnd, Ent.av]) rfl
 cases e with
 | head l =>
  simp only [go_sem, Ent.av, extractA, reduceEqDiff, Nat.reduceBEq, reduceAdd, reduceIte, reduceCtorEq, reduceLeDiff]
  refine call_pure (E := Em _) n146 words_pc (SubL.refl _) ?_
  simp only [go_sem, Ent.av, extractA, reduceEqDiff, Nat.reduceBEq, reduceAdd, reduceIte, reduceCtorEq, reduceLeDiff]
  refine call_pure (E := Em _) n210 (head_pc l) (SubL.refl _) ?_
  simp only [go_sem, Ent.av, extractA, builtinA, reduceEqDiff, Nat.reduceBEq, reduceAdd, reduceIte, reduceCtorEq, reduceLeDiff]
  refine row_loop 0 [l.least, l.most, l.taps] (Nat.le_refl _) h _ ?_
  simp only [go_sem, Tryz.f138, reduceEqDiff, Nat.reduceBEq, reduceAdd, reduceIte, reduceCtorEq, reduceLeDiff]
  rfl
 | stretch n =>
  simp only [go_sem, Ent.av, extractA, reduceEqDiff, Nat.reduceBEq, reduceAdd, reduceIte, reduceCtorEq, reduceLeDiff]
  refine call_pure (E := Em _) n146 words_pc (SubL.refl _) ?_
  simp only [go_sem, Ent.av, extractA, reduceEqDiff, Nat.reduceBEq, reduceAdd, reduceIte, reduceCtorEq, reduceLeDiff]
  refine call_pure (E := Em _) n211 (stretch_pc n) (SubL.refl _) ?_
  simp only [go_sem, Ent.av, extractA, builtinA, reduceEqDiff, Nat.reduceBEq, reduceAdd, reduceIte, reduceCtorEq, reduceLeDiff]
  refine row_loop 1 [n] (Nat.le_of_ble_eq_true rfl) h _ ?_
  simp only [go_sem, Tryz.f138, reduceEqDiff, Nat.reduceBEq, reduceAdd, reduceIte, reduceCtorEq, reduceLeDiff]
  rfl
 | count c =>
  simp only [go_sem, Ent.av, extractA, reduceEqDiff, Nat.reduceBEq, reduceAdd, reduceIte, reduceCtorEq, reduceLeDiff]
  refine call_pure (E := Em _) n146 words_pc (SubL.refl _) ?_
  simp only [go_sem, Ent.av, extractA, reduceEqDiff, Nat.reduceBEq, reduceAdd, reduceIte, reduceCtorEq, reduceLeDiff]
  refine call_pure (E := Em _) n212 (count_pc c) (SubL.refl _) ?_
  simp only [go_sem, Ent.av, extractA, builtinA, reduceEqDiff, Nat.reduceBEq, reduceAdd, reduceIte, reduceCtorEq, reduceLeDiff]
  refine row_loop 2 [c.point, c.low, c.high] (Nat.le_refl _) h _ ?_
  simp only [go_sem, Tryz.f138, reduceEqDiff, Nat.reduceBEq, reduceAdd, reduceIte, reduceCtorEq, reduceLeDiff]
  rfl
end Go.Av.Fx
end
section
namespace Go.Av.Fx
open Go Go.Av Go.Av.Tb Go.Proofs
def lf : ByteArray := ⟨#[10]⟩
def strs (l : List ByteArray) : List AV := l.map .str
@[simp] theorem strs_len (l : List ByteArray) : (strs l).length = l.length := by simp [strs]
@[simp] theorem strs_get (l : List ByteArray) (i : Nat) : (strs l)[i]? = (l[i]?).map .str := by simp [strs]
@[simp] theorem strs_bnd (n k : Nat) (l : List ByteArray) : bndL n k (strs l) = true := bndL_map _ (fun _ => rfl) l
def rowsL (l : LLine) : List ByteArray := rowB 0 [l.least, l.most, l.taps] :: (l.gives.map (fun n => rowB 1 [n]) ++ l.counts.map fun c => rowB 2 [c.point, c.low, c.high])
def rs (r : ByteArray) : Nat → Int
 | 0 => 0
 | k + 1 => rs r k + (((r[k]?).getD 0).toNat : Int) * (k + 1 : Nat)
def ck (rows : List ByteArray) : Nat → Int
 | 0 => 0
 | i + 1 => ck rows i + rs (rows.getD i ByteArray.empty) (rows.getD i ByteArray.empty).size * (i + 1 : Nat)
def endW : ByteArray := ⟨#[101, 110, 100, 32]⟩
def endB (c : Int) : ByteArray := ((endW ++ itoaB (c.tdiv 100)) ++ itoaB ((c.tdiv 10).tmod 10)) ++ itoaB (c.tmod 10)
def ckL (l : LLine) : Int := (ck (rowsL l) (rowsL l).length).tmod 157
def textB (l : LLine) : ByteArray := joinB (rowsL l ++ [endB (ckL l)]) lf ++ lf
@[go_sem] theorem bs141_1 (a : ByteArray) : buildSliceA T 141 1 [(0, .str a)] = some (.slice [.str a] 1 .exact) := rfl
@[go_sem] theorem bd167 (l : LLine) : buildA T 167 [(0, .agg (lineC l))] = some (.agg (lineC l)) := rfl
@[go_sem] theorem bd170 (c : Cnt) : buildA T 170 [(0, .agg (cntC c))] = some (.agg (cntC c)) := rfl
theorem sr_app141 {K : AV → St → Prop} {hK : Hold K} {h : List (Option Blk)} {k n : Nat} {l : List ByteArray} (x : ByteArray) (hn : l.length = n) (h7 : n ≤ 1000000)
  (next : K (.slice (strs (l ++ [x])) (n + 1) (tailN (k + 1))) ⟨h, k + 1, toksN (k + 1)⟩) : sr K hK (appendA T ⟨h, k, toksN k⟩ 141 (.slice (strs l) n (tailN k)) (.slice [.str x] 1 .exact)) ⟨h, k, toksN k⟩ := by
 subst hn
 have e : strs (l ++ [x]) = strs l ++ [.str x] := by simp [strs]
 rw [e] at next
 rw [app_gen (e := 9) (ei := ti9) (lx := [.str x]) (nx := 1) rfl rfl (by decide) (by simp [heldA, ti9]) (by decide) rfl (by show (l.length + 1) * 16 ≤ _; omega) (by omega) (by simp [ti9])]
 cases k with
 | zero => rw [tailN, sr_tok]; exact next
 | succ k =>
  rw [tailN, sr_tok_some]
  refine ⟨List.mem_cons_self, ?_⟩
  have : killTok (toksN (k + 1)) (some k) = [] := by simp [killTok, toksN]
  show K (.slice (strs l ++ [.str x]) (l.length + 1) (.tok (k + 1))) ⟨h, k + 1 + 1, (k + 1) :: killTok (toksN (k + 1)) (some k)⟩
  rw [this]; exact next
structure Plain (l : LLine) : Prop where
 gives : l.gives.length ≤ 1000
 counts : l.counts.length ≤ 1000
 head : ∀ n ∈ [l.least, l.most, l.taps], i64 n
 give : ∀ n ∈ l.gives, i64 n
 count : ∀ c ∈ l.counts, ∀ n ∈ [c.point, c.low, c.high], i64 n
@[go_sem] theorem d167 : descOf T 167 = some ti167.desc := rfl
@[go_sem] theorem i167 : isIface ti167.desc = false := rfl
@[go_sem] theorem d168 : descOf T 168 = some ti168.desc := rfl
@[go_sem] theorem i168 : isIface ti168.desc = false := rfl
@[go_sem] theorem d170 : descOf T 170 = some ti170.desc := rfl
@[go_sem] theorem i170 : isIface ti170.desc = false := rfl
@[go_sem] theorem isIface_int (k : IntKind) : isIface (.int k) = false := rfl
def headR (l : LLine) : ByteArray := rowB 0 [l.least, l.most, l.taps]
def gsR (l : LLine) (k : Nat) : List ByteArray := (l.gives.take k).map fun n => rowB 1 [n]
def csR (l : LLine) (k : Nat) : List ByteArray := (l.counts.take k).map fun c => rowB 2 [c.point, c.low, c.high]
theorem gsR_succ (l : LLine) (k : Nat) (h : k < l.gives.length) : gsR l (k + 1) = gsR l k ++ [rowB 1 [l.gives[k]]] := by
 unfold gsR; rw [List.take_succ_eq_append_getElem h, List.map_append]; rfl
theorem csR_succ (l : LLine) (k : Nat) (h : k < l.counts.length) : csR l (k + 1) = csR l k ++ [rowB 2 [l.counts[k].point, l.counts[k].low, l.counts[k].high]] := by
 unfold csR; rw [List.take_succ_eq_append_getElem h, List.map_append]; rfl
theorem gsR_len (l : LLine) (k : Nat) (h : k ≤ l.gives.length) : (gsR l k).length = k := by simp [gsR]; omega
theorem csR_len (l : LLine) (k : Nat) (h : k ≤ l.counts.length) : (csR l k).length = k := by simp [csR]; omega
theorem rowsL_eq (l : LLine) : rowsL l = (headR l :: gsR l l.gives.length) ++ csR l l.counts.length := by simp [rowsL, headR, gsR, csR]
theorem rowsL_len (l : LLine) : (rowsL l).length = 1 + l.gives.length + l.counts.length := by simp [rowsL]; omega
theorem rs_bd (r : ByteArray) : ∀ k, 0 ≤ rs r k ∧ rs r k ≤ 255 * (k * k : Nat)
 | 0 => ⟨Int.le_refl _, by simp [rs]⟩
 | k + 1 => by
  have ih := rs_bd r k
  have hb : ((r[k]?).getD 0).toNat ≤ 255 := Nat.le_of_lt_succ (UInt8.toNat_lt _)
  have h1 : ((r[k]?).getD 0).toNat * (k + 1) ≤ 255 * (k + 1) := Nat.mul_le_mul_right _ hb
  have h2 : rs r (k + 1) = rs r k + ((((r[k]?).getD 0).toNat * (k + 1) : Nat) : Int) := by simp [rs]
  have h3 : (k + 1) * (k + 1) = k * k + 2 * k + 1 := by rw [Nat.add_mul, Nat.mul_add]; omega
  rw [h2, h3]; omega
theorem rs_bd100 (r : ByteArray) {k : Nat} (h : k ≤ 100) : 0 ≤ rs r k ∧ rs r k ≤ 2550000 := by
 have h1 := rs_bd r k
 have h2 : k * k ≤ 100 * 100 := Nat.mul_le_mul h h
 omega
theorem ck_bd {R : List ByteArray} (h : ∀ r ∈ R, r.size ≤ 100) : ∀ i, i ≤ 3000 → 0 ≤ ck R i ∧ ck R i ≤ 7650000000 * i
 | 0, _ => ⟨Int.le_refl _, by simp [ck]⟩
 | i + 1, hi => by
  have ih := ck_bd h i (by omega)
  have hs : (R.getD i ByteArray.empty).size ≤ 100 := by
   rw [List.getD_eq_getElem?_getD]
   cases e : R[i]? with
   | none => exact Nat.zero_le _
   | some r => exact h r (List.mem_of_getElem? e)
  have h1 := rs_bd100 (R.getD i ByteArray.empty) hs
  have h2 : 0 ≤ rs (R.getD i ByteArray.empty) (R.getD i ByteArray.empty).size * (i + 1 : Nat) := Int.mul_nonneg h1.1 (by omega)
  have h3 : rs (R.getD i ByteArray.empty) (R.getD i ByteArray.empty).size * (i + 1 : Nat) ≤ 2550000 * (3000 : Int) := Int.mul_le_mul h1.2 (by omega) (by omega) (by omega)
  show 0 ≤ ck R i + _ ∧ ck R i + _ ≤ _
  omega
theorem rowsL_size {l : LLine} (h : Plain l) : ∀ r ∈ rowsL l, r.size ≤ 100 := by
 have key : ∀ k ns, ns.length ≤ 3 → (∀ n ∈ ns, i64 n) → (rowB k ns).size ≤ 100 := by
  intro k ns h1 h2
  have a := rowN_size ns (wordB k) h2
  have b := wordB_size k
  show (rowN (wordB k) ns).size ≤ _
  omega
 intro r hr
 simp only [rowsL, List.mem_cons, List.mem_append, List.mem_map] at hr
 rcases hr with rfl | ⟨n, hn, rfl⟩ | ⟨c, hc, rfl⟩
 ·exact key _ _ (Nat.le_refl _) h.head
 ·exact key _ _ (Nat.le_of_ble_eq_true rfl) fun m hm => by simp at hm; subst hm; exact h.give _ hn
 ·exact key _ _ (Nat.le_refl _) (h.count c hc)
theorem joinTail_len (sep : ByteArray) : ∀ (R : List ByteArray) (n : Nat), (∀ r ∈ R, r.size ≤ n) → (Lib.joinTail sep.data.toList (R.map (·.data.toList))).length ≤ (n + sep.size) * R.length
 | [], n, _ => by simp [Lib.joinTail]
 | a :: R, n, h => by
  have h1 := joinTail_len sep R n fun r hr => h r (List.mem_cons_of_mem _ hr)
  have h2 : a.data.toList.length ≤ n := h a List.mem_cons_self
  have h3 : sep.data.toList.length = sep.size := rfl
  simp only [Lib.joinTail, List.map_cons, List.flatten_cons, List.length_append, List.length_cons, Nat.mul_add, Nat.mul_one] at h1 ⊢
  omega
theorem join_len (sep : ByteArray) (R : List ByteArray) (n : Nat) (h : ∀ r ∈ R, r.size ≤ n) : (Lib.join (R.map (·.data.toList)) sep.data.toList).length ≤ (n + sep.size) * R.length := by
 cases R with
 | nil => simp [Lib.join_nil]
 | cons a R =>
  have h1 := joinTail_len sep R n fun r hr => h r (List.mem_cons_of_mem _ hr)
  have h2 : a.data.toList.length ≤ n := h a List.mem_cons_self
  rw [List.map_cons, Lib.join_cons]
  simp only [List.length_append, List.length_cons, Nat.mul_add, Nat.mul_one]
  omega
theorem text_pc (l : LLine) (h : Plain l) : PC Tryz.prog 107 [lineA l] (.pure (.str (textB l))) := by
 have hG := h.gives
 have hC := h.counts
 refine PC.of_empty (AC.run (E_ok _) mix Tryz.func107 m107 rfl rfl rfl (Nat.le_of_ble_eq_true rfl) ?_) (by simp [bndL, AV.bnd]) rfl
 simp only [go_sem, boxA, reduceEqDiff, Nat.reduceBEq, reduceAdd, reduceIte, reduceCtorEq, reduceLeDiff]
 refine cp n138 (row_pc (.head l) h.head) (SubL.refl _) ?_
 simp only [go_sem, builtinA, reduceEqDiff, Nat.reduceBEq, reduceAdd, reduceIte, reduceCtorEq, reduceLeDiff]
 refine wc_for l.gives.length (fun k => [(1, .ref 0 0), (3, .slice (strs (headR l :: gsR l k)) (headR l :: gsR l k).length (tailN k)), (18, sl l.gives), (19, .int .i64 l.gives.length), (20, .int .i64 k)]) (fun k => ⟨[some (.cells (lineC l))], k, toksN k⟩) rfl rfl ?_
 intro k hk I hI
 have eg := gsR_len l k hk
 by_cases h' : k < l.gives.length
 ·have h1 : (k : Int) < l.gives.length := by omega
  have h2 : 0 ≤ (k : Int) ∧ (k : Int) < l.gives.length := by omega
  have h3 : l.gives[k]? = some l.gives[k] := List.getElem?_eq_getElem h'
  have h4 : IntKind.i64.wrap ((k : Int) + 1) = (k + 1 : Nat) := wrap64 (by omega)
  simp only [go_sem, l107_0, builtinA, h1, decide_true, h2, ints_get, h3, reduceEqDiff, Nat.reduceBEq, reduceAdd, reduceIte, reduceCtorEq, reduceLeDiff]
  refine cp n138 (row_pc (.stretch l.gives[k]) (by intro n hn; simp [Ent.ns] at hn; subst hn; exact h.give _ (List.getElem_mem h'))) (SubL.refl _) ?_
  simp only [go_sem, builtinA, reduceEqDiff, Nat.reduceBEq, reduceAdd, reduceIte, reduceCtorEq, reduceLeDiff]
  refine sr_app141 (l := headR l :: gsR l k) _ rfl (by simp; omega) ?_
  simp only [go_sem, builtinA, h4, reduceEqDiff, Nat.reduceBEq, reduceAdd, reduceIte, reduceCtorEq, reduceLeDiff]
  have := hI h'
  rw [gsR_succ l k h'] at this
  simp only [List.length_cons, List.length_append, List.length_nil] at this
  exact this
 have h1 : ¬ (k : Int) < l.gives.length := by omega
 have e : k = l.gives.length := by omega
 subst e
 clear hI hk h'
 simp only [go_sem, l107_0, builtinA, h1, decide_false, reduceEqDiff, Nat.reduceBEq, reduceAdd, reduceIte, reduceCtorEq, reduceLeDiff]
 rw [eg]
 refine wc_forG l.counts.length (fun k => [(3, .slice (strs ((headR l :: gsR l l.gives.length) ++ csR l k)) (l.gives.length + 1 + k) (tailN (l.gives.length + k))), (32, .slice (cnts l.counts) l.counts.length .unk), (33, .int .i64 l.counts.length), (34, .int .i64 k)]) (fun k => ⟨[some (.cells (lineC l))], l.gives.length + k, toksN (l.gives.length + k)⟩) (by simp [csR]) rfl (fun k hk => ?_) ?_
 ·refine ⟨Nat.zero_le _, Nat.zero_le _, by cases h : l.gives.length + k <;> simp [bndTS, AV.bnd, tailN], fun i B hB => ?_, fun t ht => toksN_lt ht⟩
  cases i with
  | zero => simp at hB; subst hB; simp [Blk.bnd, bndL, AV.bnd]
  | succ i => simp at hB
 intro k hk I hI
 have ec := csR_len l k hk
 by_cases h' : k < l.counts.length
 ·have h1 : (k : Int) < l.counts.length := by omega
  have h2 : 0 ≤ (k : Int) ∧ (k : Int) < l.counts.length := by omega
  have h3 : k * 3 + 3 ≤ (cnts l.counts).length := by rw [cnts_len]; omega
  have h5 := cnts_at l.counts k h'
  have h4 : IntKind.i64.wrap ((k : Int) + 1) = (k + 1 : Nat) := wrap64 (by omega)
  have hm := List.getElem_mem h'
  simp only [go_sem, l107_1, builtinA, h1, decide_true, h2, h3, h5, reduceEqDiff, Nat.reduceBEq, reduceAdd, reduceIte, reduceCtorEq, reduceLeDiff]
  refine cp n138 (row_pc (.count l.counts[k]) (h.count _ hm)) (SubL.refl _) ?_
  simp only [go_sem, builtinA, reduceEqDiff, Nat.reduceBEq, reduceAdd, reduceIte, reduceCtorEq, reduceLeDiff]
  refine sr_app141 (k := l.gives.length + k) (l := (headR l :: gsR l l.gives.length) ++ csR l k) _ (by simp [eg, ec]; omega) (by omega) ?_
  simp only [go_sem, builtinA, h4, reduceEqDiff, Nat.reduceBEq, reduceAdd, reduceIte, reduceCtorEq, reduceLeDiff]
  have := hI h' [some (.cells (cntC l.counts[k]))]
  rw [csR_succ l k h'] at this
  simp only [← Nat.add_assoc, List.append_assoc, List.cons_append, List.nil_append] at this
  exact this
 have h1 : ¬ (k : Int) < l.counts.length := by omega
 have e : k = l.counts.length := by omega
 subst e
 clear hI hk h'
 rw [← rowsL_eq, show l.gives.length + 1 + l.counts.length = (rowsL l).length by rw [rowsL_len]; omega]
 simp only [go_sem, l107_1, builtinA, h1, decide_false, reduceEqDiff, Nat.reduceBEq, reduceAdd, reduceIte, reduceCtorEq, reduceLeDiff]
 have hR : ∀ r ∈ rowsL l, r.size ≤ 100 := rowsL_size h
 have hN := rowsL_len l
 have hfin : textB l = joinB (rowsL l ++ [endB ((ck (rowsL l) (rowsL l).length).tmod 157)]) lf ++ lf := rfl
 rw [hfin]
 clear hfin
 generalize l.gives.length + l.counts.length = m at *
 generalize rowsL l = R at *
 refine wc_for R.length (fun i => [(3, .slice (strs R) R.length (tailN m)), (8, .int .i64 (ck R i)), (46, .slice (strs R) R.length (tailN m)), (47, .int .i64 R.length), (48, .int .i64 i)]) (fun _ => ⟨[some (.cells (lineC l))], m, toksN m⟩) rfl rfl ?_
 intro i hi I hI
 by_cases h' : i < R.length
 ·have h1 : (i : Int) < R.length := by omega
  have h2 : 0 ≤ (i : Int) ∧ (i : Int) < R.length := by omega
  have h3 : R[i]? = some R[i] := List.getElem?_eq_getElem h'
  have h4 : IntKind.i64.wrap ((i : Int) + 1) = (i + 1 : Nat) := wrap64 (by omega)
  have hr := hR _ (List.getElem_mem h')
  simp only [go_sem, l107_2, builtinA, h1, decide_true, h2, strs_get, h3, reduceEqDiff, Nat.reduceBEq, reduceAdd, reduceIte, reduceCtorEq, reduceLeDiff]
  have hck : ck R (i + 1) = ck R i + rs R[i] R[i].size * (i + 1 : Nat) := by
   show ck R i + rs (R.getD i _) (R.getD i _).size * _ = _
   rw [List.getD_eq_getElem?_getD, h3]; rfl
  have hb := ck_bd hR i (by omega)
  generalize R[i] = r at *
  refine wc_for r.size (fun k => [(3, .slice (strs R) R.length (tailN m)), (8, .int .i64 (ck R i + rs r k * (i + 1 : Nat))), (46, .slice (strs R) R.length (tailN m)), (47, .int .i64 R.length), (48, .int .i64 i), (9, .int .i64 i), (10, .str r), (54, .int .i64 r.size), (55, .int .i64 k)]) (fun _ => ⟨[some (.cells (lineC l))], m, toksN m⟩) (by simp only [rs, Int.zero_mul, Int.add_zero]; rfl) rfl ?_
  intro k hk I2 hI2
  by_cases h'' : k < r.size
  ·have g1 : (k : Int) < r.size := by omega
   have g4 : IntKind.i64.wrap ((k : Int) + 1) = (k + 1 : Nat) := wrap64 (by omega)
   simp only [go_sem, l107_3, g1, decide_true, reduceEqDiff, Nat.reduceBEq, reduceAdd, reduceIte, reduceCtorEq, reduceLeDiff]
   have hbt : r[k]? = some r[k] := by simp [h'']
   have hB : r[k].toNat ≤ 255 := Nat.le_of_lt_succ (UInt8.toNat_lt _)
   have hrs : rs r (k + 1) = rs r k + (r[k].toNat : Int) * (k + 1 : Nat) := by
    show rs r k + (((r[k]?).getD 0).toNat : Int) * _ = _
    rw [hbt]; rfl
   have hb2 := rs_bd100 r (k := k) (by omega)
   have p1 : 0 ≤ (r[k].toNat : Int) * (k + 1 : Nat) := Int.mul_nonneg (by omega) (by omega)
   have p2 : (r[k].toNat : Int) * (k + 1 : Nat) ≤ 255 * (100 : Int) := Int.mul_le_mul (by omega) (by omega) (by omega) (by omega)
   have p3 : 0 ≤ (r[k].toNat : Int) * (k + 1 : Nat) * (i + 1 : Nat) := Int.mul_nonneg p1 (by omega)
   have p4 : (r[k].toNat : Int) * (k + 1 : Nat) * (i + 1 : Nat) ≤ 25500 * (3000 : Int) := Int.mul_le_mul (by omega) (by omega) (by omega) (by omega)
   have p5 : 0 ≤ rs r k * (i + 1 : Nat) := Int.mul_nonneg hb2.1 (by omega)
   have p6 : rs r k * (i + 1 : Nat) ≤ 2550000 * (3000 : Int) := Int.mul_le_mul hb2.2 (by omega) (by omega) (by omega)
   have w1 : IntKind.i64.wrap (r[k].toNat : Int) = r[k].toNat := wrap64 (by omega)
   have w2 : IntKind.i64.wrap ((r[k].toNat : Int) * (k + 1 : Nat)) = (r[k].toNat : Int) * (k + 1 : Nat) := wrap64 (by omega)
   have w3 : IntKind.i64.wrap ((r[k].toNat : Int) * (k + 1 : Nat) * (i + 1 : Nat)) = (r[k].toNat : Int) * (k + 1 : Nat) * (i + 1 : Nat) := wrap64 (by omega)
   have w4 : IntKind.i64.wrap (ck R i + rs r k * (i + 1 : Nat) + (r[k].toNat : Int) * (k + 1 : Nat) * (i + 1 : Nat)) = ck R i + rs r k * (i + 1 : Nat) + (r[k].toNat : Int) * (k + 1 : Nat) * (i + 1 : Nat) := wrap64 (by omega)
   have hz : 0 ≤ (k : Int) := by omega
   simp only [go_sem, hz, hbt, convA, w1, w2, w3, w4, g4, h4, reduceEqDiff, Nat.reduceBEq, reduceAdd, reduceIte, reduceCtorEq, reduceLeDiff]
   have := hI2 h''
   rw [hrs, Int.add_mul, ← Int.add_assoc] at this
   exact this
  have g1 : ¬ (k : Int) < r.size := by omega
  have e : k = r.size := by omega
  subst e
  clear hI2 hk h''
  simp only [go_sem, l107_3, builtinA, g1, decide_false, h4, reduceEqDiff, Nat.reduceBEq, reduceAdd, reduceIte, reduceCtorEq, reduceLeDiff]
  have := hI h'
  rw [hck] at this
  exact this
 have h1 : ¬ (i : Int) < R.length := by omega
 have e : i = R.length := by omega
 subst e
 clear hI hi h'
 simp only [go_sem, l107_2, builtinA, h1, decide_false, reduceEqDiff, Nat.reduceBEq, reduceAdd, reduceIte, reduceCtorEq, reduceLeDiff]
 have hb := ck_bd hR R.length (by omega)
 generalize ck R R.length = C at *
 have e1 : intOp .rem .i64 C 157 = some (.int .i64 (C.tmod 157)) := rfl
 have hc0 : 0 ≤ C.tmod 157 := Int.tmod_nonneg _ hb.1
 have hc1 : C.tmod 157 < 157 := Int.tmod_lt_of_pos _ (by decide)
 generalize C.tmod 157 = c at *
 have d1 : c.tdiv 100 = c / 100 := Int.tdiv_eq_ediv_of_nonneg hc0
 have d2 : c.tdiv 10 = c / 10 := Int.tdiv_eq_ediv_of_nonneg hc0
 have d3 : (c.tdiv 10).tmod 10 = c / 10 % 10 := by rw [d2]; exact Int.tmod_eq_emod_of_nonneg (by omega)
 have d4 : c.tmod 10 = c % 10 := Int.tmod_eq_emod_of_nonneg hc0
 have e2 : intOp .quo .i64 c 100 = some (.int .i64 (c.tdiv 100)) := by
  show some (AV.int .i64 (IntKind.i64.wrap (c.tdiv 100))) = _
  rw [wrap64 (by omega)]
 have e3 : intOp .quo .i64 c 10 = some (.int .i64 (c.tdiv 10)) := by
  show some (AV.int .i64 (IntKind.i64.wrap (c.tdiv 10))) = _
  rw [wrap64 (by omega)]
 have e4 : intOp .rem .i64 (c.tdiv 10) 10 = some (.int .i64 ((c.tdiv 10).tmod 10)) := rfl
 have e5 : intOp .rem .i64 c 10 = some (.int .i64 (c.tmod 10)) := rfl
 have i1 : i64 (c.tdiv 100) := ⟨by omega, by omega⟩
 have i2 : i64 ((c.tdiv 10).tmod 10) := ⟨by omega, by omega⟩
 have i3 : i64 (c.tmod 10) := ⟨by omega, by omega⟩
 have z1 := itoaB_size i1
 have z2 := itoaB_size i2
 have z3 := itoaB_size i3
 have s1 : endW.size + (itoaB (c.tdiv 100)).size ≤ 4611686018427387904 := by show 4 + _ ≤ _; omega
 have s2 : (endW ++ itoaB (c.tdiv 100)).size + (itoaB ((c.tdiv 10).tmod 10)).size ≤ 4611686018427387904 := by rw [ByteArray.size_append]; show 4 + _ + _ ≤ _; omega
 have s3 : (endW ++ itoaB (c.tdiv 100) ++ itoaB ((c.tdiv 10).tmod 10)).size + (itoaB (c.tmod 10)).size ≤ 4611686018427387904 := by rw [ByteArray.size_append, ByteArray.size_append]; show 4 + _ + _ + _ ≤ _; omega
 have hend : (endB c).size ≤ 100 := by unfold endB; rw [ByteArray.size_append, ByteArray.size_append, ByteArray.size_append]; show 4 + _ + _ + _ ≤ _; omega
 have a1 : binA T .add 9 (.str ⟨#[101, 110, 100, 32]⟩) (.str (itoaB (c.tdiv 100))) = some (.str (endW ++ itoaB (c.tdiv 100))) := addS s1
 have a2 := addS s2
 have a3 := addS s3
 simp only [go_sem, e1, e2, e3, e4, e5, reduceEqDiff, Nat.reduceBEq, reduceAdd, reduceIte, reduceCtorEq, reduceLeDiff]
 refine cp n139 (Itoa_pc _ i1.1 i1.2) (SubL.refl _) ?_
 simp only [go_sem, e1, e2, e3, e4, e5, a1, reduceEqDiff, Nat.reduceBEq, reduceAdd, reduceIte, reduceCtorEq, reduceLeDiff]
 refine cp n139 (Itoa_pc _ i2.1 i2.2) (SubL.refl _) ?_
 simp only [go_sem, e1, e2, e3, e4, e5, a2, reduceEqDiff, Nat.reduceBEq, reduceAdd, reduceIte, reduceCtorEq, reduceLeDiff]
 refine cp n139 (Itoa_pc _ i3.1 i3.2) (SubL.refl _) ?_
 simp only [go_sem, e1, e2, e3, e4, e5, a3, builtinA, reduceEqDiff, Nat.reduceBEq, reduceAdd, reduceIte, reduceCtorEq, reduceLeDiff]
 refine sr_app141 (l := R) (endB c) rfl (by omega) ?_
 simp only [go_sem, reduceEqDiff, Nat.reduceBEq, reduceAdd, reduceIte, reduceCtorEq, reduceLeDiff]
 have hR2 : ∀ r ∈ R ++ [endB c], r.size ≤ 100 := by
  intro r hr
  rcases List.mem_append.1 hr with hr | hr
  ·exact hR r hr
  ·simp at hr; subst hr; exact hend
 have hlen : (R ++ [endB c]).length = R.length + 1 := by simp
 have hj := join_len lf (R ++ [endB c]) 100 hR2
 have hj2 : 101 * (R ++ [endB c]).length ≤ 101 * 3000 := Nat.mul_le_mul_left _ (by omega)
 have hj3 : lf.size = 1 := rfl
 rw [hj3] at hj
 have hjp := Join_pc (R ++ [endB c]) lf (tailN (m + 1)) (by omega) (by omega)
 rw [hlen] at hjp
 refine cp n140 hjp (SubL.refl _) ?_
 have hjs : (joinB (R ++ [endB c]) lf).size + lf.size ≤ 4611686018427387904 := by
  have : (joinB (R ++ [endB c]) lf).size = (Lib.join ((R ++ [endB c]).map (·.data.toList)) lf.data.toList).length := by simp [joinB, ByteArray.size]
  omega
 have a4 : binA T .add 9 (.str (joinB (R ++ [endB c]) lf)) (.str ⟨#[10]⟩) = some (.str (joinB (R ++ [endB c]) lf ++ lf)) := addS hjs
 simp only [go_sem, a4, Tryz.f107, reduceEqDiff, Nat.reduceBEq, reduceAdd, reduceIte, reduceCtorEq, reduceLeDiff]
theorem Ln.plain {l : LLine} (h : Ln l) : Plain l where
 gives := by have := h.pts; omega
 counts := by have := h.cts; omega
 head := by
  intro n hn
  have h1 := h.least; have h2 := h.most; have h3 := h.taps
  simp only [List.mem_cons, List.not_mem_nil, or_false] at hn
  rcases hn with rfl | rfl | rfl <;> exact ⟨by omega, by omega⟩
 give := fun n hn => by have := h.gives n hn; exact ⟨by omega, by omega⟩
 count := fun c hc n hn => by
  have := h.counts c hc
  have := h.pts
  simp only [List.mem_cons, List.not_mem_nil, or_false] at hn
  rcases hn with rfl | rfl | rfl <;> exact ⟨by omega, by omega⟩
end Go.Av.Fx
end

/- Part 12 of the proof. -/
import Derived.Test.YtlagjjpbknpdkaaGreatDoorVp11
import Derived.Test.YtlagjjpbknpdkaaGreatDoorProg
import Derived.KernelRfl
set_option linter.all false
set_option linter.unusedVariables false
set_option linter.unusedSimpArgs false
set_option linter.unusedSectionVars false
open Nat (reduceEqDiff reduceAdd reduceLeDiff)
section
namespace Go.Av.Tb
open Go Go.Av Go.Proofs
def ti1 : TI := { desc := .func #[] #[] false, size := 1, bytes := 8, zero := [.nilFunc], plain := false }
theorem ok1 : TOk Tryz.prog 1 ti1 := TOk.of Tryz.underlying1 (z := .nilFunc) (by kernel_rfl) rfl ⟨rfl, rfl, rfl, by first | exact fun _ => rfl | (intro h; cases h)⟩ (fun h => by cases h)
def ti2 : TI := { desc := .int .i64, size := 1, bytes := 8, zero := [.int .i64 0], plain := false }
theorem ok2 : TOk Tryz.prog 2 ti2 := TOk.of Tryz.underlying2 (z := .int .i64 0) (by kernel_rfl) rfl ⟨rfl, rfl, rfl, by first | exact fun _ => rfl | (intro h; cases h)⟩ (fun h => by cases h)
def ti3 : TI := { desc := .int .i64, size := 1, bytes := 8, zero := [.int .i64 0], plain := false }
theorem ok3 : TOk Tryz.prog 3 ti3 := TOk.of Tryz.underlying3 (z := .int .i64 0) (by kernel_rfl) rfl ⟨rfl, rfl, rfl, by first | exact fun _ => rfl | (intro h; cases h)⟩ (fun h => by cases h)
def ti4 : TI := { desc := .bool, size := 1, bytes := 1, zero := [.bool false], plain := false }
theorem ok4 : TOk Tryz.prog 4 ti4 := TOk.of Tryz.underlying4 (z := .bool false) (by kernel_rfl) rfl ⟨rfl, rfl, rfl, by first | exact fun _ => rfl | (intro h; cases h)⟩ (fun h => by cases h)
def ti5 : TI := { desc := .int .u8, size := 1, bytes := 1, zero := [.int .u8 0], plain := false }
theorem ok5 : TOk Tryz.prog 5 ti5 := TOk.of Tryz.underlying5 (z := .int .u8 0) (by kernel_rfl) rfl ⟨rfl, rfl, rfl, by first | exact fun _ => rfl | (intro h; cases h)⟩ (fun h => by cases h)
def ti9 : TI := { desc := .string, size := 1, bytes := 16, zero := [.str ByteArray.empty], plain := false }
theorem ok9 : TOk Tryz.prog 9 ti9 := TOk.of Tryz.underlying9 (z := .string ByteArray.empty) (by kernel_rfl) rfl ⟨rfl, rfl, rfl, by first | exact fun _ => rfl | (intro h; cases h)⟩ (fun h => by cases h)
def ti20 : TI := { desc := .interface #[], size := 1, bytes := 16, zero := [.nilIface], plain := false }
theorem ok20 : TOk Tryz.prog 20 ti20 := TOk.of Tryz.underlying20 (z := .nilIface) (by kernel_rfl) rfl ⟨rfl, rfl, rfl, by first | exact fun _ => rfl | (intro h; cases h)⟩ (fun h => by cases h)
def ti21 : TI := { desc := .int .i32, size := 1, bytes := 4, zero := [.int .i32 0], plain := false }
theorem ok21 : TOk Tryz.prog 21 ti21 := TOk.of Tryz.underlying21 (z := .int .i32 0) (by kernel_rfl) rfl ⟨rfl, rfl, rfl, by first | exact fun _ => rfl | (intro h; cases h)⟩ (fun h => by cases h)
def ti22 : TI := { desc := .slice 3, size := 1, bytes := 24, zero := [.nilS], plain := false }
theorem ok22 : TOk Tryz.prog 22 ti22 := TOk.of Tryz.underlying22 (z := .slice none 0 0) (by kernel_rfl) rfl ⟨rfl, rfl, rfl, by first | exact fun _ => rfl | (intro h; cases h)⟩ (fun h => by cases h)
def ti23 : TI := { desc := .slice 82, size := 1, bytes := 24, zero := [.nilS], plain := false }
theorem ok23 : TOk Tryz.prog 23 ti23 := TOk.of Tryz.underlying23 (z := .slice none 0 0) (by kernel_rfl) rfl ⟨rfl, rfl, rfl, by first | exact fun _ => rfl | (intro h; cases h)⟩ (fun h => by cases h)
def ti25 : TI := { desc := .struct #[{ name := "Gives", type := 22, offset := 0, embedded := false, tag := "", pkgPath := "", byteOffset := 0 }, { name := "Least", type := 3, offset := 1, embedded := false, tag := "", pkgPath := "", byteOffset := 24 }, { name := "Most", type := 3, offset := 2, embedded := false, tag := "", pkgPath := "", byteOffset := 32 }, { name := "Taps", type := 3, offset := 3, embedded := false, tag := "", pkgPath := "", byteOffset := 40 }, { name := "Counts", type := 23, offset := 4, embedded := false, tag := "", pkgPath := "", byteOffset := 48 }], size := 5, bytes := 72, zero := [.nilS, .int .i64 0, .int .i64 0, .int .i64 0, .nilS], plain := false }
theorem ok25 : TOk Tryz.prog 25 ti25 := TOk.of Tryz.underlying25 (z := .agg #[.slice none 0 0, .int .i64 0, .int .i64 0, .int .i64 0, .slice none 0 0]) (by kernel_rfl) rfl ⟨rfl, rfl, rfl, by first | exact fun _ => rfl | (intro h; cases h)⟩ (fun h => by cases h)
def ti28 : TI := { desc := .slice 48, size := 1, bytes := 24, zero := [.nilS], plain := false }
theorem ok28 : TOk Tryz.prog 28 ti28 := TOk.of Tryz.underlying28 (z := .slice none 0 0) (by kernel_rfl) rfl ⟨rfl, rfl, rfl, by first | exact fun _ => rfl | (intro h; cases h)⟩ (fun h => by cases h)
def ti29 : TI := { desc := .int .i64, size := 1, bytes := 8, zero := [.int .i64 0], plain := false }
theorem ok29 : TOk Tryz.prog 29 ti29 := TOk.of Tryz.underlying29 (z := .int .i64 0) (by kernel_rfl) rfl ⟨rfl, rfl, rfl, by first | exact fun _ => rfl | (intro h; cases h)⟩ (fun h => by cases h)
def ti32 : TI := { desc := .slice 22, size := 1, bytes := 24, zero := [.nilS], plain := false }
theorem ok32 : TOk Tryz.prog 32 ti32 := TOk.of Tryz.underlying32 (z := .slice none 0 0) (by kernel_rfl) rfl ⟨rfl, rfl, rfl, by first | exact fun _ => rfl | (intro h; cases h)⟩ (fun h => by cases h)
def ti42 : TI := { desc := .struct #[{ name := "Low", type := 3, offset := 0, embedded := false, tag := "", pkgPath := "", byteOffset := 0 }, { name := "High", type := 3, offset := 1, embedded := false, tag := "", pkgPath := "", byteOffset := 8 }], size := 2, bytes := 16, zero := [.int .i64 0, .int .i64 0], plain := true }
theorem ok42 : TOk Tryz.prog 42 ti42 := TOk.of Tryz.underlying42 (z := .agg #[.int .i64 0, .int .i64 0]) (by kernel_rfl) rfl ⟨rfl, rfl, rfl, by first | exact fun _ => rfl | (intro h; cases h)⟩ (fun _ => ⟨by kernel_rfl, by kernel_rfl⟩)
def ti48 : TI := { desc := .int .i64, size := 1, bytes := 8, zero := [.int .i64 0], plain := false }
theorem ok48 : TOk Tryz.prog 48 ti48 := TOk.of Tryz.underlying48 (z := .int .i64 0) (by kernel_rfl) rfl ⟨rfl, rfl, rfl, by first | exact fun _ => rfl | (intro h; cases h)⟩ (fun h => by cases h)
def ti64 : TI := { desc := .func #[3] #[4] false, size := 1, bytes := 8, zero := [.nilFunc], plain := false }
theorem ok64 : TOk Tryz.prog 64 ti64 := TOk.of Tryz.underlying64 (z := .nilFunc) (by kernel_rfl) rfl ⟨rfl, rfl, rfl, by first | exact fun _ => rfl | (intro h; cases h)⟩ (fun h => by cases h)
def ti82 : TI := { desc := .struct #[{ name := "Point", type := 3, offset := 0, embedded := false, tag := "", pkgPath := "", byteOffset := 0 }, { name := "Low", type := 3, offset := 1, embedded := false, tag := "", pkgPath := "", byteOffset := 8 }, { name := "High", type := 3, offset := 2, embedded := false, tag := "", pkgPath := "", byteOffset := 16 }], size := 3, bytes := 24, zero := [.int .i64 0, .int .i64 0, .int .i64 0], plain := true }
theorem ok82 : TOk Tryz.prog 82 ti82 := TOk.of Tryz.underlying82 (z := .agg #[.int .i64 0, .int .i64 0, .int .i64 0]) (by kernel_rfl) rfl ⟨rfl, rfl, rfl, by first | exact fun _ => rfl | (intro h; cases h)⟩ (fun _ => ⟨by kernel_rfl, by kernel_rfl⟩)
def ti93 : TI := { desc := .slice 5, size := 1, bytes := 24, zero := [.nilS], plain := false }
theorem ok93 : TOk Tryz.prog 93 ti93 := TOk.of Tryz.underlying93 (z := .slice none 0 0) (by kernel_rfl) rfl ⟨rfl, rfl, rfl, by first | exact fun _ => rfl | (intro h; cases h)⟩ (fun h => by cases h)
def ti96 : TI := { desc := .struct #[{ name := "Inflow", type := 3, offset := 0, embedded := false, tag := "", pkgPath := "", byteOffset := 0 }, { name := "Losses", type := 22, offset := 1, embedded := false, tag := "", pkgPath := "", byteOffset := 8 }], size := 2, bytes := 32, zero := [.int .i64 0, .nilS], plain := false }
theorem ok96 : TOk Tryz.prog 96 ti96 := TOk.of Tryz.underlying96 (z := .agg #[.int .i64 0, .slice none 0 0]) (by kernel_rfl) rfl ⟨rfl, rfl, rfl, by first | exact fun _ => rfl | (intro h; cases h)⟩ (fun h => by cases h)
def ti106 : TI := { desc := .slice 113, size := 1, bytes := 24, zero := [.nilS], plain := false }
theorem ok106 : TOk Tryz.prog 106 ti106 := TOk.of Tryz.underlying106 (z := .slice none 0 0) (by kernel_rfl) rfl ⟨rfl, rfl, rfl, by first | exact fun _ => rfl | (intro h; cases h)⟩ (fun h => by cases h)
def ti108 : TI := { desc := .struct #[{ name := "LeakLine", type := 25, offset := 0, embedded := true, tag := "", pkgPath := "", byteOffset := 0 }, { name := "thefts", type := 106, offset := 5, embedded := false, tag := "", pkgPath := "quinaria/leak", byteOffset := 72 }], size := 6, bytes := 96, zero := [.nilS, .int .i64 0, .int .i64 0, .int .i64 0, .nilS, .nilS], plain := false }
theorem ok108 : TOk Tryz.prog 108 ti108 := TOk.of Tryz.underlying108 (z := .agg #[.slice none 0 0, .int .i64 0, .int .i64 0, .int .i64 0, .slice none 0 0, .slice none 0 0]) (by kernel_rfl) rfl ⟨rfl, rfl, rfl, by first | exact fun _ => rfl | (intro h; cases h)⟩ (fun h => by cases h)
def ti111 : TI := { desc := .slice 22, size := 1, bytes := 24, zero := [.nilS], plain := false }
theorem ok111 : TOk Tryz.prog 111 ti111 := TOk.of Tryz.underlying111 (z := .slice none 0 0) (by kernel_rfl) rfl ⟨rfl, rfl, rfl, by first | exact fun _ => rfl | (intro h; cases h)⟩ (fun h => by cases h)
def ti113 : TI := { desc := .struct #[{ name := "set", type := 22, offset := 0, embedded := false, tag := "", pkgPath := "quinaria/leak", byteOffset := 0 }, { name := "waters", type := 111, offset := 1, embedded := true, tag := "", pkgPath := "quinaria/leak", byteOffset := 24 }], size := 2, bytes := 48, zero := [.nilS, .nilS], plain := false }
theorem ok113 : TOk Tryz.prog 113 ti113 := TOk.of Tryz.underlying113 (z := .agg #[.slice none 0 0, .slice none 0 0]) (by kernel_rfl) rfl ⟨rfl, rfl, rfl, by first | exact fun _ => rfl | (intro h; cases h)⟩ (fun h => by cases h)
def ti114 : TI := { desc := .slice 22, size := 1, bytes := 24, zero := [.nilS], plain := false }
theorem ok114 : TOk Tryz.prog 114 ti114 := TOk.of Tryz.underlying114 (z := .slice none 0 0) (by kernel_rfl) rfl ⟨rfl, rfl, rfl, by first | exact fun _ => rfl | (intro h; cases h)⟩ (fun h => by cases h)
def ti123 : TI := { desc := .func #[113] #[42] false, size := 1, bytes := 8, zero := [.nilFunc], plain := false }
theorem ok123 : TOk Tryz.prog 123 ti123 := TOk.of Tryz.underlying123 (z := .nilFunc) (by kernel_rfl) rfl ⟨rfl, rfl, rfl, by first | exact fun _ => rfl | (intro h; cases h)⟩ (fun h => by cases h)
def ti126 : TI := { desc := .slice 128, size := 1, bytes := 24, zero := [.nilS], plain := false }
theorem ok126 : TOk Tryz.prog 126 ti126 := TOk.of Tryz.underlying126 (z := .slice none 0 0) (by kernel_rfl) rfl ⟨rfl, rfl, rfl, by first | exact fun _ => rfl | (intro h; cases h)⟩ (fun h => by cases h)
def ti128 : TI := { desc := .struct #[{ name := "point", type := 3, offset := 0, embedded := false, tag := "", pkgPath := "quinaria/leak", byteOffset := 0 }, { name := "left", type := 3, offset := 1, embedded := false, tag := "", pkgPath := "quinaria/leak", byteOffset := 8 }], size := 2, bytes := 16, zero := [.int .i64 0, .int .i64 0], plain := true }
theorem ok128 : TOk Tryz.prog 128 ti128 := TOk.of Tryz.underlying128 (z := .agg #[.int .i64 0, .int .i64 0]) (by kernel_rfl) rfl ⟨rfl, rfl, rfl, by first | exact fun _ => rfl | (intro h; cases h)⟩ (fun _ => ⟨by kernel_rfl, by kernel_rfl⟩)
def ti131 : TI := { desc := .func #[128, 128] #[4] false, size := 1, bytes := 8, zero := [.nilFunc], plain := false }
theorem ok131 : TOk Tryz.prog 131 ti131 := TOk.of Tryz.underlying131 (z := .nilFunc) (by kernel_rfl) rfl ⟨rfl, rfl, rfl, by first | exact fun _ => rfl | (intro h; cases h)⟩ (fun h => by cases h)
def ti134 : TI := { desc := .func #[22] #[4] false, size := 1, bytes := 8, zero := [.nilFunc], plain := false }
theorem ok134 : TOk Tryz.prog 134 ti134 := TOk.of Tryz.underlying134 (z := .nilFunc) (by kernel_rfl) rfl ⟨rfl, rfl, rfl, by first | exact fun _ => rfl | (intro h; cases h)⟩ (fun h => by cases h)
def ti141 : TI := { desc := .slice 9, size := 1, bytes := 24, zero := [.nilS], plain := false }
theorem ok141 : TOk Tryz.prog 141 ti141 := TOk.of Tryz.underlying141 (z := .slice none 0 0) (by kernel_rfl) rfl ⟨rfl, rfl, rfl, by first | exact fun _ => rfl | (intro h; cases h)⟩ (fun h => by cases h)
def ti152 : TI := { desc := .func #[82] #[4] false, size := 1, bytes := 8, zero := [.nilFunc], plain := false }
theorem ok152 : TOk Tryz.prog 152 ti152 := TOk.of Tryz.underlying152 (z := .nilFunc) (by kernel_rfl) rfl ⟨rfl, rfl, rfl, by first | exact fun _ => rfl | (intro h; cases h)⟩ (fun h => by cases h)
def ti154 : TI := { desc := .slice 191, size := 1, bytes := 24, zero := [.nilS], plain := false }
theorem ok154 : TOk Tryz.prog 154 ti154 := TOk.of Tryz.underlying154 (z := .slice none 0 0) (by kernel_rfl) rfl ⟨rfl, rfl, rfl, by first | exact fun _ => rfl | (intro h; cases h)⟩ (fun h => by cases h)
def ti157 : TI := { desc := .array 2 3, size := 2, bytes := 16, zero := [.int .i64 0, .int .i64 0], plain := false }
theorem ok157 : TOk Tryz.prog 157 ti157 := TOk.of Tryz.underlying157 (z := .agg #[.int .i64 0, .int .i64 0]) (by kernel_rfl) rfl ⟨rfl, rfl, rfl, by first | exact fun _ => rfl | (intro h; cases h)⟩ (fun h => by cases h)
def ti158 : TI := { desc := .func #[3, 3] #[3] false, size := 1, bytes := 8, zero := [.nilFunc], plain := false }
theorem ok158 : TOk Tryz.prog 158 ti158 := TOk.of Tryz.underlying158 (z := .nilFunc) (by kernel_rfl) rfl ⟨rfl, rfl, rfl, by first | exact fun _ => rfl | (intro h; cases h)⟩ (fun h => by cases h)
def ti159 : TI := { desc := .array 2 158, size := 2, bytes := 16, zero := [.nilFunc, .nilFunc], plain := false }
theorem ok159 : TOk Tryz.prog 159 ti159 := TOk.of Tryz.underlying159 (z := .agg #[.nilFunc, .nilFunc]) (by kernel_rfl) rfl ⟨rfl, rfl, rfl, by first | exact fun _ => rfl | (intro h; cases h)⟩ (fun h => by cases h)
def ti160 : TI := { desc := .map 3 4, size := 1, bytes := 8, zero := [.nilMap], plain := false }
theorem ok160 : TOk Tryz.prog 160 ti160 := TOk.of Tryz.underlying160 (z := .map none) (by kernel_rfl) rfl ⟨rfl, rfl, rfl, by first | exact fun _ => rfl | (intro h; cases h)⟩ (fun h => by cases h)
def ti162 : TI := { desc := .func #[22, 3, 3] #[4] false, size := 1, bytes := 8, zero := [.nilFunc], plain := false }
theorem ok162 : TOk Tryz.prog 162 ti162 := TOk.of Tryz.underlying162 (z := .nilFunc) (by kernel_rfl) rfl ⟨rfl, rfl, rfl, by first | exact fun _ => rfl | (intro h; cases h)⟩ (fun h => by cases h)
def ti167 : TI := { desc := .struct #[{ name := "LeakLine", type := 25, offset := 0, embedded := true, tag := "", pkgPath := "", byteOffset := 0 }], size := 5, bytes := 72, zero := [.nilS, .int .i64 0, .int .i64 0, .int .i64 0, .nilS], plain := false }
theorem ok167 : TOk Tryz.prog 167 ti167 := TOk.of Tryz.underlying167 (z := .agg #[.slice none 0 0, .int .i64 0, .int .i64 0, .int .i64 0, .slice none 0 0]) (by kernel_rfl) rfl ⟨rfl, rfl, rfl, by first | exact fun _ => rfl | (intro h; cases h)⟩ (fun h => by cases h)
def ti168 : TI := { desc := .int .i64, size := 1, bytes := 8, zero := [.int .i64 0], plain := false }
theorem ok168 : TOk Tryz.prog 168 ti168 := TOk.of Tryz.underlying168 (z := .int .i64 0) (by kernel_rfl) rfl ⟨rfl, rfl, rfl, by first | exact fun _ => rfl | (intro h; cases h)⟩ (fun h => by cases h)
def ti170 : TI := { desc := .struct #[{ name := "LeakCount", type := 82, offset := 0, embedded := true, tag := "", pkgPath := "", byteOffset := 0 }], size := 3, bytes := 24, zero := [.int .i64 0, .int .i64 0, .int .i64 0], plain := false }
theorem ok170 : TOk Tryz.prog 170 ti170 := TOk.of Tryz.underlying170 (z := .agg #[.int .i64 0, .int .i64 0, .int .i64 0]) (by kernel_rfl) rfl ⟨rfl, rfl, rfl, by first | exact fun _ => rfl | (intro h; cases h)⟩ (fun h => by cases h)
def ti174 : TI := { desc := .struct #[{ name := "point", type := 3, offset := 0, embedded := false, tag := "", pkgPath := "quinaria/leak", byteOffset := 0 }], size := 1, bytes := 8, zero := [.int .i64 0], plain := true }
theorem ok174 : TOk Tryz.prog 174 ti174 := TOk.of Tryz.underlying174 (z := .agg #[.int .i64 0]) (by kernel_rfl) rfl ⟨rfl, rfl, rfl, by first | exact fun _ => rfl | (intro h; cases h)⟩ (fun _ => ⟨by kernel_rfl, by kernel_rfl⟩)
def ti176 : TI := { desc := .struct #[{ name := "why", type := 9, offset := 0, embedded := false, tag := "", pkgPath := "quinaria/leak", byteOffset := 0 }], size := 1, bytes := 16, zero := [.str ByteArray.empty], plain := true }
theorem ok176 : TOk Tryz.prog 176 ti176 := TOk.of Tryz.underlying176 (z := .agg #[.string ByteArray.empty]) (by kernel_rfl) rfl ⟨rfl, rfl, rfl, by first | exact fun _ => rfl | (intro h; cases h)⟩ (fun _ => ⟨by kernel_rfl, by kernel_rfl⟩)
def ti181 : TI := { desc := .array 3 9, size := 3, bytes := 48, zero := [.str ByteArray.empty, .str ByteArray.empty, .str ByteArray.empty], plain := false }
theorem ok181 : TOk Tryz.prog 181 ti181 := TOk.of Tryz.underlying181 (z := .agg #[.string ByteArray.empty, .string ByteArray.empty, .string ByteArray.empty]) (by kernel_rfl) rfl ⟨rfl, rfl, rfl, by first | exact fun _ => rfl | (intro h; cases h)⟩ (fun h => by cases h)
def ti191 : TI := { desc := .struct #[{ name := "from", type := 3, offset := 0, embedded := false, tag := "", pkgPath := "quinaria/leak", byteOffset := 0 }, { name := "to", type := 3, offset := 1, embedded := false, tag := "", pkgPath := "quinaria/leak", byteOffset := 8 }, { name := "most", type := 3, offset := 2, embedded := false, tag := "", pkgPath := "quinaria/leak", byteOffset := 16 }], size := 3, bytes := 24, zero := [.int .i64 0, .int .i64 0, .int .i64 0], plain := true }
theorem ok191 : TOk Tryz.prog 191 ti191 := TOk.of Tryz.underlying191 (z := .agg #[.int .i64 0, .int .i64 0, .int .i64 0]) (by kernel_rfl) rfl ⟨rfl, rfl, rfl, by first | exact fun _ => rfl | (intro h; cases h)⟩ (fun _ => ⟨by kernel_rfl, by kernel_rfl⟩)
def ti193 : TI := { desc := .interface #[("quinaria/leak.numbers", 194)], size := 1, bytes := 16, zero := [.nilIface], plain := false }
theorem ok193 : TOk Tryz.prog 193 ti193 := TOk.of Tryz.underlying193 (z := .nilIface) (by kernel_rfl) rfl ⟨rfl, rfl, rfl, by first | exact fun _ => rfl | (intro h; cases h)⟩ (fun h => by cases h)
def ti195 : TI := { desc := .pointer 197, size := 1, bytes := 8, zero := [.nilp], plain := false }
theorem ok195 : TOk Tryz.prog 195 ti195 := TOk.of Tryz.underlying195 (z := .pointer none) (by kernel_rfl) rfl ⟨rfl, rfl, rfl, by first | exact fun _ => rfl | (intro h; cases h)⟩ (fun h => by cases h)
def ti197 : TI := { desc := .struct #[{ name := "addr", type := 195, offset := 0, embedded := false, tag := "", pkgPath := "strings", byteOffset := 0 }, { name := "buf", type := 93, offset := 1, embedded := false, tag := "", pkgPath := "strings", byteOffset := 8 }], size := 2, bytes := 32, zero := [.nilp, .nilS], plain := false }
theorem ok197 : TOk Tryz.prog 197 ti197 := TOk.of Tryz.underlying197 (z := .agg #[.pointer none, .slice none 0 0]) (by kernel_rfl) rfl ⟨rfl, rfl, rfl, by first | exact fun _ => rfl | (intro h; cases h)⟩ (fun h => by cases h)
def ti205 : TI := { desc := .int .u64, size := 1, bytes := 8, zero := [.int .u64 0], plain := false }
theorem ok205 : TOk Tryz.prog 205 ti205 := TOk.of Tryz.underlying205 (z := .int .u64 0) (by kernel_rfl) rfl ⟨rfl, rfl, rfl, by first | exact fun _ => rfl | (intro h; cases h)⟩ (fun h => by cases h)
def ti209 : TI := { desc := .pointer 5, size := 1, bytes := 8, zero := [.nilp], plain := false }
theorem ok209 : TOk Tryz.prog 209 ti209 := TOk.of Tryz.underlying209 (z := .pointer none) (by kernel_rfl) rfl ⟨rfl, rfl, rfl, by first | exact fun _ => rfl | (intro h; cases h)⟩ (fun h => by cases h)
def ti212 : TI := { desc := .int .u32, size := 1, bytes := 4, zero := [.int .u32 0], plain := false }
theorem ok212 : TOk Tryz.prog 212 ti212 := TOk.of Tryz.underlying212 (z := .int .u32 0) (by kernel_rfl) rfl ⟨rfl, rfl, rfl, by first | exact fun _ => rfl | (intro h; cases h)⟩ (fun h => by cases h)
def ti215 : TI := { desc := .int .u64, size := 1, bytes := 8, zero := [.int .u64 0], plain := false }
theorem ok215 : TOk Tryz.prog 215 ti215 := TOk.of Tryz.underlying215 (z := .int .u64 0) (by kernel_rfl) rfl ⟨rfl, rfl, rfl, by first | exact fun _ => rfl | (intro h; cases h)⟩ (fun h => by cases h)
def ti218 : TI := { desc := .array 24 5, size := 24, bytes := 24, zero := (List.replicate 24 (.int .u8 0)), plain := false }
theorem ok218 : TOk Tryz.prog 218 ti218 := TOk.of Tryz.underlying218 (z := .agg #[.int .u8 0, .int .u8 0, .int .u8 0, .int .u8 0, .int .u8 0, .int .u8 0, .int .u8 0, .int .u8 0, .int .u8 0, .int .u8 0, .int .u8 0, .int .u8 0, .int .u8 0, .int .u8 0, .int .u8 0, .int .u8 0, .int .u8 0, .int .u8 0, .int .u8 0, .int .u8 0, .int .u8 0, .int .u8 0, .int .u8 0, .int .u8 0]) (by kernel_rfl) rfl ⟨rfl, rfl, rfl, by first | exact fun _ => rfl | (intro h; cases h)⟩ (fun h => by cases h)
def ti232 : TI := { desc := .array 20 215, size := 20, bytes := 160, zero := [.int .u64 0, .int .u64 0, .int .u64 0, .int .u64 0, .int .u64 0, .int .u64 0, .int .u64 0, .int .u64 0, .int .u64 0, .int .u64 0, .int .u64 0, .int .u64 0, .int .u64 0, .int .u64 0, .int .u64 0, .int .u64 0, .int .u64 0, .int .u64 0, .int .u64 0, .int .u64 0], plain := false }
theorem ok232 : TOk Tryz.prog 232 ti232 := TOk.of Tryz.underlying232 (z := .agg #[.int .u64 0, .int .u64 0, .int .u64 0, .int .u64 0, .int .u64 0, .int .u64 0, .int .u64 0, .int .u64 0, .int .u64 0, .int .u64 0, .int .u64 0, .int .u64 0, .int .u64 0, .int .u64 0, .int .u64 0, .int .u64 0, .int .u64 0, .int .u64 0, .int .u64 0, .int .u64 0]) (by kernel_rfl) rfl ⟨rfl, rfl, rfl, by first | exact fun _ => rfl | (intro h; cases h)⟩ (fun h => by cases h)
def ti233 : TI := { desc := .array 65 5, size := 65, bytes := 65, zero := (List.replicate 65 (.int .u8 0)), plain := false }
theorem ok233 : TOk Tryz.prog 233 ti233 := TOk.of Tryz.underlying233 (z := .agg #[.int .u8 0, .int .u8 0, .int .u8 0, .int .u8 0, .int .u8 0, .int .u8 0, .int .u8 0, .int .u8 0, .int .u8 0, .int .u8 0, .int .u8 0, .int .u8 0, .int .u8 0, .int .u8 0, .int .u8 0, .int .u8 0, .int .u8 0, .int .u8 0, .int .u8 0, .int .u8 0, .int .u8 0, .int .u8 0, .int .u8 0, .int .u8 0, .int .u8 0, .int .u8 0, .int .u8 0, .int .u8 0, .int .u8 0, .int .u8 0, .int .u8 0, .int .u8 0, .int .u8 0, .int .u8 0, .int .u8 0, .int .u8 0, .int .u8 0, .int .u8 0, .int .u8 0, .int .u8 0, .int .u8 0, .int .u8 0, .int .u8 0, .int .u8 0, .int .u8 0, .int .u8 0, .int .u8 0, .int .u8 0, .int .u8 0, .int .u8 0, .int .u8 0, .int .u8 0, .int .u8 0, .int .u8 0, .int .u8 0, .int .u8 0, .int .u8 0, .int .u8 0, .int .u8 0, .int .u8 0, .int .u8 0, .int .u8 0, .int .u8 0, .int .u8 0, .int .u8 0]) (by kernel_rfl) rfl ⟨rfl, rfl, rfl, by first | exact fun _ => rfl | (intro h; cases h)⟩ (fun h => by cases h)
def tab : List (Nat × TI) := [(1, ti1), (2, ti2), (3, ti3), (4, ti4), (5, ti5), (9, ti9), (20, ti20), (21, ti21), (22, ti22), (23, ti23), (25, ti25), (28, ti28), (29, ti29), (32, ti32), (42, ti42), (48, ti48), (64, ti64), (82, ti82), (93, ti93), (96, ti96), (106, ti106), (108, ti108), (111, ti111), (113, ti113), (114, ti114), (123, ti123), (126, ti126), (128, ti128), (131, ti131), (134, ti134), (141, ti141), (152, ti152), (154, ti154), (157, ti157), (158, ti158), (159, ti159), (160, ti160), (162, ti162), (167, ti167), (168, ti168), (170, ti170), (174, ti174), (176, ti176), (181, ti181), (191, ti191), (193, ti193), (195, ti195), (197, ti197), (205, ti205), (209, ti209), (212, ti212), (215, ti215), (218, ti218), (232, ti232), (233, ti233)]
def T : Tab := look tab
theorem T_ok : T.Ok Tryz.prog := look_ok tab ⟨ok1, ok2, ok3, ok4, ok5, ok9, ok20, ok21, ok22, ok23, ok25, ok28, ok29, ok32, ok42, ok48, ok64, ok82, ok93, ok96, ok106, ok108, ok111, ok113, ok114, ok123, ok126, ok128, ok131, ok134, ok141, ok152, ok154, ok157, ok158, ok159, ok160, ok162, ok167, ok168, ok170, ok174, ok176, ok181, ok191, ok193, ok195, ok197, ok205, ok209, ok212, ok215, ok218, ok232, ok233, trivial⟩
theorem T1 : T 1 = some ti1 := rfl
theorem T2 : T 2 = some ti2 := rfl
theorem T3 : T 3 = some ti3 := rfl
theorem T4 : T 4 = some ti4 := rfl
theorem T9 : T 9 = some ti9 := rfl
theorem T22 : T 22 = some ti22 := rfl
theorem T23 : T 23 = some ti23 := rfl
theorem T25 : T 25 = some ti25 := rfl
theorem T29 : T 29 = some ti29 := rfl
theorem T42 : T 42 = some ti42 := rfl
theorem T82 : T 82 = some ti82 := rfl
theorem T96 : T 96 = some ti96 := rfl
theorem T106 : T 106 = some ti106 := rfl
theorem T108 : T 108 = some ti108 := rfl
theorem T111 : T 111 = some ti111 := rfl
theorem T113 : T 113 = some ti113 := rfl
theorem T128 : T 128 = some ti128 := rfl
theorem T134 : T 134 = some ti134 := rfl
theorem T157 : T 157 = some ti157 := rfl
theorem T162 : T 162 = some ti162 := rfl
theorem T174 : T 174 = some ti174 := rfl
theorem T176 : T 176 = some ti176 := rfl
theorem T181 : T 181 = some ti181 := rfl
theorem T191 : T 191 = some ti191 := rfl
section
variable {S : St} {b o n cap : Nat} {l : List AV} {tl : Tail} {k k' : IntKind} {i c : Int} {v : AV}
@[go_sem] theorem d1 : descOf T 1 = some (.func #[] #[] false) := rfl
@[go_sem] theorem le1 : loadA T S 1 (.eptr l o) = l[o]? := rfl
@[go_sem] theorem al1 : allocA T 1 = some (.alloc (.cells [.nilFunc]) (.ref · 0)) := rfl
@[go_sem] theorem d2 : descOf T 2 = some (.int .i64) := rfl
@[go_sem] theorem le2 : loadA T S 2 (.eptr l o) = l[o]? := rfl
@[go_sem] theorem al2 : allocA T 2 = some (.alloc (.cells [.int .i64 0]) (.ref · 0)) := rfl
@[go_sem] theorem d3 : descOf T 3 = some (.int .i64) := rfl
@[go_sem] theorem le3 : loadA T S 3 (.eptr l o) = l[o]? := rfl
@[go_sem] theorem lr3 : loadA T S 3 (.ref b o) = (cellsAt S.heap b).bind fun l => l[o]? := loadA_ref T3
@[go_sem] theorem st3 : storeA T S 3 (.ref b o) v = (cellsAt S.heap b).bind fun l => if v.cells.length = 1 ∧ o + 1 ≤ l.length ∧ v.cells.all AV.one then some (.write b (.cells (splice l o v.cells)) .undef) else none := storeA_ref T3
@[go_sem] theorem al3 : allocA T 3 = some (.alloc (.cells [.int .i64 0]) (.ref · 0)) := rfl
@[go_sem] theorem d4 : descOf T 4 = some (.bool) := rfl
@[go_sem] theorem le4 : loadA T S 4 (.eptr l o) = l[o]? := rfl
@[go_sem] theorem st4 : storeA T S 4 (.ref b o) v = (cellsAt S.heap b).bind fun l => if v.cells.length = 1 ∧ o + 1 ≤ l.length ∧ v.cells.all AV.one then some (.write b (.cells (splice l o v.cells)) .undef) else none := storeA_ref T4
@[go_sem] theorem al4 : allocA T 4 = some (.alloc (.cells [.bool false]) (.ref · 0)) := rfl
@[go_sem] theorem d5 : descOf T 5 = some (.int .u8) := rfl
@[go_sem] theorem le5 : loadA T S 5 (.eptr l o) = l[o]? := rfl
@[go_sem] theorem al5 : allocA T 5 = some (.alloc (.cells [.int .u8 0]) (.ref · 0)) := rfl
@[go_sem] theorem d9 : descOf T 9 = some (.string) := rfl
@[go_sem] theorem le9 : loadA T S 9 (.eptr l o) = l[o]? := rfl
@[go_sem] theorem lr9 : loadA T S 9 (.ref b o) = (cellsAt S.heap b).bind fun l => l[o]? := loadA_ref T9
@[go_sem] theorem al9 : allocA T 9 = some (.alloc (.cells [.str ByteArray.empty]) (.ref · 0)) := rfl
@[go_sem] theorem lns9 (s : ByteArray) : lenA T S 9 (.str s) = some (.int .i64 s.size) := rfl
@[go_sem] theorem ids9 (s : ByteArray) : indexA T 9 (.str s) (.int k i) = if 0 ≤ i then (s[i.toNat]?).map (fun b => .int .u8 b.toNat) else none := rfl
@[go_sem] theorem d20 : descOf T 20 = some (.interface #[]) := rfl
@[go_sem] theorem le20 : loadA T S 20 (.eptr l o) = l[o]? := rfl
@[go_sem] theorem al20 : allocA T 20 = some (.alloc (.cells [.nilIface]) (.ref · 0)) := rfl
@[go_sem] theorem d21 : descOf T 21 = some (.int .i32) := rfl
@[go_sem] theorem le21 : loadA T S 21 (.eptr l o) = l[o]? := rfl
@[go_sem] theorem al21 : allocA T 21 = some (.alloc (.cells [.int .i32 0]) (.ref · 0)) := rfl
@[go_sem] theorem d22 : descOf T 22 = some (.slice 3) := rfl
@[go_sem] theorem le22 : loadA T S 22 (.eptr l o) = l[o]? := rfl
@[go_sem] theorem lr22 : loadA T S 22 (.ref b o) = (cellsAt S.heap b).bind fun l => l[o]? := loadA_ref T22
@[go_sem] theorem st22 : storeA T S 22 (.ref b o) v = (cellsAt S.heap b).bind fun l => if v.cells.length = 1 ∧ o + 1 ≤ l.length ∧ v.cells.all AV.one then some (.write b (.cells (splice l o v.cells)) .undef) else none := storeA_ref T22
@[go_sem] theorem al22 : allocA T 22 = some (.alloc (.cells [.nilS]) (.ref · 0)) := rfl
@[go_sem] theorem ixs22 : indexAddrA T 22 (.slice l n tl) (.int k i) = if 0 ≤ i ∧ i < n then some (.eptr l (i.toNat * 1)) else none := rfl
@[go_sem] theorem ixr22 : indexAddrA T 22 (.sref b o n cap) (.int k i) = if 0 ≤ i ∧ i < n then some (.ref b (o + i.toNat * 1)) else none := rfl
@[go_sem] theorem lns22 : lenA T S 22 (.slice l n tl) = some (.int .i64 n) := rfl
@[go_sem] theorem lnn22 : lenA T S 22 .nilS = some (.int .i64 0) := rfl
@[go_sem] theorem lnr22 : lenA T S 22 (.sref b o n cap) = some (.int .i64 n) := rfl
@[go_sem] theorem d23 : descOf T 23 = some (.slice 82) := rfl
@[go_sem] theorem le23 : loadA T S 23 (.eptr l o) = l[o]? := rfl
@[go_sem] theorem lr23 : loadA T S 23 (.ref b o) = (cellsAt S.heap b).bind fun l => l[o]? := loadA_ref T23
@[go_sem] theorem st23 : storeA T S 23 (.ref b o) v = (cellsAt S.heap b).bind fun l => if v.cells.length = 1 ∧ o + 1 ≤ l.length ∧ v.cells.all AV.one then some (.write b (.cells (splice l o v.cells)) .undef) else none := storeA_ref T23
@[go_sem] theorem al23 : allocA T 23 = some (.alloc (.cells [.nilS]) (.ref · 0)) := rfl
@[go_sem] theorem ixs23 : indexAddrA T 23 (.slice l n tl) (.int k i) = if 0 ≤ i ∧ i < n then some (.eptr l (i.toNat * 3)) else none := rfl
@[go_sem] theorem ixr23 : indexAddrA T 23 (.sref b o n cap) (.int k i) = if 0 ≤ i ∧ i < n then some (.ref b (o + i.toNat * 3)) else none := rfl
@[go_sem] theorem lns23 : lenA T S 23 (.slice l n tl) = some (.int .i64 n) := rfl
@[go_sem] theorem lnn23 : lenA T S 23 .nilS = some (.int .i64 0) := rfl
@[go_sem] theorem lnr23 : lenA T S 23 (.sref b o n cap) = some (.int .i64 n) := rfl
@[go_sem] theorem le25 : loadA T S 25 (.eptr l o) = (if o + 5 ≤ l.length then some (.agg ((l.drop (o)).take 5)) else none) := rfl
@[go_sem] theorem lr25 : loadA T S 25 (.ref b o) = (cellsAt S.heap b).bind fun l => (if o + 5 ≤ l.length then some (.agg ((l.drop (o)).take 5)) else none) := loadA_ref T25
@[go_sem] theorem st25 : storeA T S 25 (.ref b o) v = (cellsAt S.heap b).bind fun l => if v.cells.length = 5 ∧ o + 5 ≤ l.length ∧ v.cells.all AV.one then some (.write b (.cells (splice l o v.cells)) .undef) else none := storeA_ref T25
@[go_sem] theorem al25 : allocA T 25 = some (.alloc (.cells [.nilS, .int .i64 0, .int .i64 0, .int .i64 0, .nilS]) (.ref · 0)) := rfl
@[go_sem] theorem fr25_0 : fieldAddrA T 25 (.ref b o) 0 = some (.ref b (o + 0)) := rfl
@[go_sem] theorem fe25_0 : fieldAddrA T 25 (.eptr l o) 0 = some (.eptr l (o + 0)) := rfl
@[go_sem] theorem fd25_0 : fieldA T 25 (.agg l) 0 = l[0]? := rfl
@[go_sem] theorem fr25_1 : fieldAddrA T 25 (.ref b o) 1 = some (.ref b (o + 1)) := rfl
@[go_sem] theorem fe25_1 : fieldAddrA T 25 (.eptr l o) 1 = some (.eptr l (o + 1)) := rfl
@[go_sem] theorem fd25_1 : fieldA T 25 (.agg l) 1 = l[1]? := rfl
@[go_sem] theorem fr25_2 : fieldAddrA T 25 (.ref b o) 2 = some (.ref b (o + 2)) := rfl
@[go_sem] theorem fe25_2 : fieldAddrA T 25 (.eptr l o) 2 = some (.eptr l (o + 2)) := rfl
@[go_sem] theorem fd25_2 : fieldA T 25 (.agg l) 2 = l[2]? := rfl
@[go_sem] theorem fr25_3 : fieldAddrA T 25 (.ref b o) 3 = some (.ref b (o + 3)) := rfl
@[go_sem] theorem fe25_3 : fieldAddrA T 25 (.eptr l o) 3 = some (.eptr l (o + 3)) := rfl
@[go_sem] theorem fd25_3 : fieldA T 25 (.agg l) 3 = l[3]? := rfl
@[go_sem] theorem fr25_4 : fieldAddrA T 25 (.ref b o) 4 = some (.ref b (o + 4)) := rfl
@[go_sem] theorem fe25_4 : fieldAddrA T 25 (.eptr l o) 4 = some (.eptr l (o + 4)) := rfl
@[go_sem] theorem fd25_4 : fieldA T 25 (.agg l) 4 = l[4]? := rfl
@[go_sem] theorem d28 : descOf T 28 = some (.slice 48) := rfl
@[go_sem] theorem le28 : loadA T S 28 (.eptr l o) = l[o]? := rfl
@[go_sem] theorem al28 : allocA T 28 = some (.alloc (.cells [.nilS]) (.ref · 0)) := rfl
@[go_sem] theorem ixs28 : indexAddrA T 28 (.slice l n tl) (.int k i) = if 0 ≤ i ∧ i < n then some (.eptr l (i.toNat * 1)) else none := rfl
@[go_sem] theorem ixr28 : indexAddrA T 28 (.sref b o n cap) (.int k i) = if 0 ≤ i ∧ i < n then some (.ref b (o + i.toNat * 1)) else none := rfl
@[go_sem] theorem lns28 : lenA T S 28 (.slice l n tl) = some (.int .i64 n) := rfl
@[go_sem] theorem lnn28 : lenA T S 28 .nilS = some (.int .i64 0) := rfl
@[go_sem] theorem lnr28 : lenA T S 28 (.sref b o n cap) = some (.int .i64 n) := rfl
@[go_sem] theorem d29 : descOf T 29 = some (.int .i64) := rfl
@[go_sem] theorem le29 : loadA T S 29 (.eptr l o) = l[o]? := rfl
@[go_sem] theorem lr29 : loadA T S 29 (.ref b o) = (cellsAt S.heap b).bind fun l => l[o]? := loadA_ref T29
@[go_sem] theorem st29 : storeA T S 29 (.ref b o) v = (cellsAt S.heap b).bind fun l => if v.cells.length = 1 ∧ o + 1 ≤ l.length ∧ v.cells.all AV.one then some (.write b (.cells (splice l o v.cells)) .undef) else none := storeA_ref T29
@[go_sem] theorem al29 : allocA T 29 = some (.alloc (.cells [.int .i64 0]) (.ref · 0)) := rfl
@[go_sem] theorem d32 : descOf T 32 = some (.slice 22) := rfl
@[go_sem] theorem le32 : loadA T S 32 (.eptr l o) = l[o]? := rfl
@[go_sem] theorem al32 : allocA T 32 = some (.alloc (.cells [.nilS]) (.ref · 0)) := rfl
@[go_sem] theorem ixs32 : indexAddrA T 32 (.slice l n tl) (.int k i) = if 0 ≤ i ∧ i < n then some (.eptr l (i.toNat * 1)) else none := rfl
@[go_sem] theorem ixr32 : indexAddrA T 32 (.sref b o n cap) (.int k i) = if 0 ≤ i ∧ i < n then some (.ref b (o + i.toNat * 1)) else none := rfl
@[go_sem] theorem lns32 : lenA T S 32 (.slice l n tl) = some (.int .i64 n) := rfl
@[go_sem] theorem lnn32 : lenA T S 32 .nilS = some (.int .i64 0) := rfl
@[go_sem] theorem lnr32 : lenA T S 32 (.sref b o n cap) = some (.int .i64 n) := rfl
@[go_sem] theorem le42 : loadA T S 42 (.eptr l o) = (if o + 2 ≤ l.length then some (.agg ((l.drop (o)).take 2)) else none) := rfl
@[go_sem] theorem lr42 : loadA T S 42 (.ref b o) = (cellsAt S.heap b).bind fun l => (if o + 2 ≤ l.length then some (.agg ((l.drop (o)).take 2)) else none) := loadA_ref T42
@[go_sem] theorem st42 : storeA T S 42 (.ref b o) v = (cellsAt S.heap b).bind fun l => if v.cells.length = 2 ∧ o + 2 ≤ l.length ∧ v.cells.all AV.one then some (.write b (.cells (splice l o v.cells)) .undef) else none := storeA_ref T42
@[go_sem] theorem al42 : allocA T 42 = some (.alloc (.cells [.int .i64 0, .int .i64 0]) (.ref · 0)) := rfl
@[go_sem] theorem fr42_0 : fieldAddrA T 42 (.ref b o) 0 = some (.ref b (o + 0)) := rfl
@[go_sem] theorem fe42_0 : fieldAddrA T 42 (.eptr l o) 0 = some (.eptr l (o + 0)) := rfl
@[go_sem] theorem fd42_0 : fieldA T 42 (.agg l) 0 = l[0]? := rfl
@[go_sem] theorem fr42_1 : fieldAddrA T 42 (.ref b o) 1 = some (.ref b (o + 1)) := rfl
@[go_sem] theorem fe42_1 : fieldAddrA T 42 (.eptr l o) 1 = some (.eptr l (o + 1)) := rfl
@[go_sem] theorem fd42_1 : fieldA T 42 (.agg l) 1 = l[1]? := rfl
@[go_sem] theorem d48 : descOf T 48 = some (.int .i64) := rfl
@[go_sem] theorem le48 : loadA T S 48 (.eptr l o) = l[o]? := rfl
@[go_sem] theorem al48 : allocA T 48 = some (.alloc (.cells [.int .i64 0]) (.ref · 0)) := rfl
@[go_sem] theorem d64 : descOf T 64 = some (.func #[3] #[4] false) := rfl
@[go_sem] theorem le64 : loadA T S 64 (.eptr l o) = l[o]? := rfl
@[go_sem] theorem al64 : allocA T 64 = some (.alloc (.cells [.nilFunc]) (.ref · 0)) := rfl
@[go_sem] theorem le82 : loadA T S 82 (.eptr l o) = (if o + 3 ≤ l.length then some (.agg ((l.drop (o)).take 3)) else none) := rfl
@[go_sem] theorem lr82 : loadA T S 82 (.ref b o) = (cellsAt S.heap b).bind fun l => (if o + 3 ≤ l.length then some (.agg ((l.drop (o)).take 3)) else none) := loadA_ref T82
@[go_sem] theorem st82 : storeA T S 82 (.ref b o) v = (cellsAt S.heap b).bind fun l => if v.cells.length = 3 ∧ o + 3 ≤ l.length ∧ v.cells.all AV.one then some (.write b (.cells (splice l o v.cells)) .undef) else none := storeA_ref T82
@[go_sem] theorem al82 : allocA T 82 = some (.alloc (.cells [.int .i64 0, .int .i64 0, .int .i64 0]) (.ref · 0)) := rfl
@[go_sem] theorem fr82_0 : fieldAddrA T 82 (.ref b o) 0 = some (.ref b (o + 0)) := rfl
@[go_sem] theorem fe82_0 : fieldAddrA T 82 (.eptr l o) 0 = some (.eptr l (o + 0)) := rfl
@[go_sem] theorem fd82_0 : fieldA T 82 (.agg l) 0 = l[0]? := rfl
@[go_sem] theorem fr82_1 : fieldAddrA T 82 (.ref b o) 1 = some (.ref b (o + 1)) := rfl
@[go_sem] theorem fe82_1 : fieldAddrA T 82 (.eptr l o) 1 = some (.eptr l (o + 1)) := rfl
@[go_sem] theorem fd82_1 : fieldA T 82 (.agg l) 1 = l[1]? := rfl
@[go_sem] theorem fr82_2 : fieldAddrA T 82 (.ref b o) 2 = some (.ref b (o + 2)) := rfl
@[go_sem] theorem fe82_2 : fieldAddrA T 82 (.eptr l o) 2 = some (.eptr l (o + 2)) := rfl
@[go_sem] theorem fd82_2 : fieldA T 82 (.agg l) 2 = l[2]? := rfl
@[go_sem] theorem d93 : descOf T 93 = some (.slice 5) := rfl
@[go_sem] theorem le93 : loadA T S 93 (.eptr l o) = l[o]? := rfl
@[go_sem] theorem al93 : allocA T 93 = some (.alloc (.cells [.nilS]) (.ref · 0)) := rfl
@[go_sem] theorem ixs93 : indexAddrA T 93 (.slice l n tl) (.int k i) = if 0 ≤ i ∧ i < n then some (.eptr l (i.toNat * 1)) else none := rfl
@[go_sem] theorem ixr93 : indexAddrA T 93 (.sref b o n cap) (.int k i) = if 0 ≤ i ∧ i < n then some (.ref b (o + i.toNat * 1)) else none := rfl
@[go_sem] theorem lns93 : lenA T S 93 (.slice l n tl) = some (.int .i64 n) := rfl
@[go_sem] theorem lnn93 : lenA T S 93 .nilS = some (.int .i64 0) := rfl
@[go_sem] theorem lnr93 : lenA T S 93 (.sref b o n cap) = some (.int .i64 n) := rfl
@[go_sem] theorem le96 : loadA T S 96 (.eptr l o) = (if o + 2 ≤ l.length then some (.agg ((l.drop (o)).take 2)) else none) := rfl
@[go_sem] theorem lr96 : loadA T S 96 (.ref b o) = (cellsAt S.heap b).bind fun l => (if o + 2 ≤ l.length then some (.agg ((l.drop (o)).take 2)) else none) := loadA_ref T96
@[go_sem] theorem al96 : allocA T 96 = some (.alloc (.cells [.int .i64 0, .nilS]) (.ref · 0)) := rfl
@[go_sem] theorem fr96_0 : fieldAddrA T 96 (.ref b o) 0 = some (.ref b (o + 0)) := rfl
@[go_sem] theorem fe96_0 : fieldAddrA T 96 (.eptr l o) 0 = some (.eptr l (o + 0)) := rfl
@[go_sem] theorem fd96_0 : fieldA T 96 (.agg l) 0 = l[0]? := rfl
@[go_sem] theorem fr96_1 : fieldAddrA T 96 (.ref b o) 1 = some (.ref b (o + 1)) := rfl
@[go_sem] theorem fe96_1 : fieldAddrA T 96 (.eptr l o) 1 = some (.eptr l (o + 1)) := rfl
@[go_sem] theorem fd96_1 : fieldA T 96 (.agg l) 1 = l[1]? := rfl
@[go_sem] theorem d106 : descOf T 106 = some (.slice 113) := rfl
@[go_sem] theorem le106 : loadA T S 106 (.eptr l o) = l[o]? := rfl
@[go_sem] theorem lr106 : loadA T S 106 (.ref b o) = (cellsAt S.heap b).bind fun l => l[o]? := loadA_ref T106
@[go_sem] theorem st106 : storeA T S 106 (.ref b o) v = (cellsAt S.heap b).bind fun l => if v.cells.length = 1 ∧ o + 1 ≤ l.length ∧ v.cells.all AV.one then some (.write b (.cells (splice l o v.cells)) .undef) else none := storeA_ref T106
@[go_sem] theorem al106 : allocA T 106 = some (.alloc (.cells [.nilS]) (.ref · 0)) := rfl
@[go_sem] theorem ixs106 : indexAddrA T 106 (.slice l n tl) (.int k i) = if 0 ≤ i ∧ i < n then some (.eptr l (i.toNat * 2)) else none := rfl
@[go_sem] theorem ixr106 : indexAddrA T 106 (.sref b o n cap) (.int k i) = if 0 ≤ i ∧ i < n then some (.ref b (o + i.toNat * 2)) else none := rfl
@[go_sem] theorem lns106 : lenA T S 106 (.slice l n tl) = some (.int .i64 n) := rfl
@[go_sem] theorem lnn106 : lenA T S 106 .nilS = some (.int .i64 0) := rfl
@[go_sem] theorem lnr106 : lenA T S 106 (.sref b o n cap) = some (.int .i64 n) := rfl
@[go_sem] theorem le108 : loadA T S 108 (.eptr l o) = (if o + 6 ≤ l.length then some (.agg ((l.drop (o)).take 6)) else none) := rfl
@[go_sem] theorem lr108 : loadA T S 108 (.ref b o) = (cellsAt S.heap b).bind fun l => (if o + 6 ≤ l.length then some (.agg ((l.drop (o)).take 6)) else none) := loadA_ref T108
@[go_sem] theorem st108 : storeA T S 108 (.ref b o) v = (cellsAt S.heap b).bind fun l => if v.cells.length = 6 ∧ o + 6 ≤ l.length ∧ v.cells.all AV.one then some (.write b (.cells (splice l o v.cells)) .undef) else none := storeA_ref T108
@[go_sem] theorem al108 : allocA T 108 = some (.alloc (.cells [.nilS, .int .i64 0, .int .i64 0, .int .i64 0, .nilS, .nilS]) (.ref · 0)) := rfl
@[go_sem] theorem fr108_0 : fieldAddrA T 108 (.ref b o) 0 = some (.ref b (o + 0)) := rfl
@[go_sem] theorem fe108_0 : fieldAddrA T 108 (.eptr l o) 0 = some (.eptr l (o + 0)) := rfl
@[go_sem] theorem fd108_0 : fieldA T 108 (.agg l) 0 = (if 0 + 5 ≤ l.length then some (.agg ((l.drop (0)).take 5)) else none) := rfl
@[go_sem] theorem fr108_1 : fieldAddrA T 108 (.ref b o) 1 = some (.ref b (o + 5)) := rfl
@[go_sem] theorem fe108_1 : fieldAddrA T 108 (.eptr l o) 1 = some (.eptr l (o + 5)) := rfl
@[go_sem] theorem fd108_1 : fieldA T 108 (.agg l) 1 = l[5]? := rfl
@[go_sem] theorem d111 : descOf T 111 = some (.slice 22) := rfl
@[go_sem] theorem le111 : loadA T S 111 (.eptr l o) = l[o]? := rfl
@[go_sem] theorem lr111 : loadA T S 111 (.ref b o) = (cellsAt S.heap b).bind fun l => l[o]? := loadA_ref T111
@[go_sem] theorem al111 : allocA T 111 = some (.alloc (.cells [.nilS]) (.ref · 0)) := rfl
@[go_sem] theorem ixs111 : indexAddrA T 111 (.slice l n tl) (.int k i) = if 0 ≤ i ∧ i < n then some (.eptr l (i.toNat * 1)) else none := rfl
@[go_sem] theorem ixr111 : indexAddrA T 111 (.sref b o n cap) (.int k i) = if 0 ≤ i ∧ i < n then some (.ref b (o + i.toNat * 1)) else none := rfl
@[go_sem] theorem lns111 : lenA T S 111 (.slice l n tl) = some (.int .i64 n) := rfl
@[go_sem] theorem lnn111 : lenA T S 111 .nilS = some (.int .i64 0) := rfl
@[go_sem] theorem lnr111 : lenA T S 111 (.sref b o n cap) = some (.int .i64 n) := rfl
@[go_sem] theorem le113 : loadA T S 113 (.eptr l o) = (if o + 2 ≤ l.length then some (.agg ((l.drop (o)).take 2)) else none) := rfl
@[go_sem] theorem lr113 : loadA T S 113 (.ref b o) = (cellsAt S.heap b).bind fun l => (if o + 2 ≤ l.length then some (.agg ((l.drop (o)).take 2)) else none) := loadA_ref T113
@[go_sem] theorem st113 : storeA T S 113 (.ref b o) v = (cellsAt S.heap b).bind fun l => if v.cells.length = 2 ∧ o + 2 ≤ l.length ∧ v.cells.all AV.one then some (.write b (.cells (splice l o v.cells)) .undef) else none := storeA_ref T113
@[go_sem] theorem al113 : allocA T 113 = some (.alloc (.cells [.nilS, .nilS]) (.ref · 0)) := rfl
@[go_sem] theorem fr113_0 : fieldAddrA T 113 (.ref b o) 0 = some (.ref b (o + 0)) := rfl
@[go_sem] theorem fe113_0 : fieldAddrA T 113 (.eptr l o) 0 = some (.eptr l (o + 0)) := rfl
@[go_sem] theorem fd113_0 : fieldA T 113 (.agg l) 0 = l[0]? := rfl
@[go_sem] theorem fr113_1 : fieldAddrA T 113 (.ref b o) 1 = some (.ref b (o + 1)) := rfl
@[go_sem] theorem fe113_1 : fieldAddrA T 113 (.eptr l o) 1 = some (.eptr l (o + 1)) := rfl
@[go_sem] theorem fd113_1 : fieldA T 113 (.agg l) 1 = l[1]? := rfl
@[go_sem] theorem d114 : descOf T 114 = some (.slice 22) := rfl
@[go_sem] theorem le114 : loadA T S 114 (.eptr l o) = l[o]? := rfl
@[go_sem] theorem al114 : allocA T 114 = some (.alloc (.cells [.nilS]) (.ref · 0)) := rfl
@[go_sem] theorem ixs114 : indexAddrA T 114 (.slice l n tl) (.int k i) = if 0 ≤ i ∧ i < n then some (.eptr l (i.toNat * 1)) else none := rfl
@[go_sem] theorem ixr114 : indexAddrA T 114 (.sref b o n cap) (.int k i) = if 0 ≤ i ∧ i < n then some (.ref b (o + i.toNat * 1)) else none := rfl
@[go_sem] theorem lns114 : lenA T S 114 (.slice l n tl) = some (.int .i64 n) := rfl
@[go_sem] theorem lnn114 : lenA T S 114 .nilS = some (.int .i64 0) := rfl
@[go_sem] theorem lnr114 : lenA T S 114 (.sref b o n cap) = some (.int .i64 n) := rfl
@[go_sem] theorem d123 : descOf T 123 = some (.func #[113] #[42] false) := rfl
@[go_sem] theorem le123 : loadA T S 123 (.eptr l o) = l[o]? := rfl
@[go_sem] theorem al123 : allocA T 123 = some (.alloc (.cells [.nilFunc]) (.ref · 0)) := rfl
@[go_sem] theorem d126 : descOf T 126 = some (.slice 128) := rfl
@[go_sem] theorem le126 : loadA T S 126 (.eptr l o) = l[o]? := rfl
@[go_sem] theorem al126 : allocA T 126 = some (.alloc (.cells [.nilS]) (.ref · 0)) := rfl
@[go_sem] theorem ixs126 : indexAddrA T 126 (.slice l n tl) (.int k i) = if 0 ≤ i ∧ i < n then some (.eptr l (i.toNat * 2)) else none := rfl
@[go_sem] theorem ixr126 : indexAddrA T 126 (.sref b o n cap) (.int k i) = if 0 ≤ i ∧ i < n then some (.ref b (o + i.toNat * 2)) else none := rfl
@[go_sem] theorem lns126 : lenA T S 126 (.slice l n tl) = some (.int .i64 n) := rfl
@[go_sem] theorem lnn126 : lenA T S 126 .nilS = some (.int .i64 0) := rfl
@[go_sem] theorem lnr126 : lenA T S 126 (.sref b o n cap) = some (.int .i64 n) := rfl
@[go_sem] theorem le128 : loadA T S 128 (.eptr l o) = (if o + 2 ≤ l.length then some (.agg ((l.drop (o)).take 2)) else none) := rfl
@[go_sem] theorem lr128 : loadA T S 128 (.ref b o) = (cellsAt S.heap b).bind fun l => (if o + 2 ≤ l.length then some (.agg ((l.drop (o)).take 2)) else none) := loadA_ref T128
@[go_sem] theorem st128 : storeA T S 128 (.ref b o) v = (cellsAt S.heap b).bind fun l => if v.cells.length = 2 ∧ o + 2 ≤ l.length ∧ v.cells.all AV.one then some (.write b (.cells (splice l o v.cells)) .undef) else none := storeA_ref T128
@[go_sem] theorem al128 : allocA T 128 = some (.alloc (.cells [.int .i64 0, .int .i64 0]) (.ref · 0)) := rfl
@[go_sem] theorem fr128_0 : fieldAddrA T 128 (.ref b o) 0 = some (.ref b (o + 0)) := rfl
@[go_sem] theorem fe128_0 : fieldAddrA T 128 (.eptr l o) 0 = some (.eptr l (o + 0)) := rfl
@[go_sem] theorem fd128_0 : fieldA T 128 (.agg l) 0 = l[0]? := rfl
@[go_sem] theorem fr128_1 : fieldAddrA T 128 (.ref b o) 1 = some (.ref b (o + 1)) := rfl
@[go_sem] theorem fe128_1 : fieldAddrA T 128 (.eptr l o) 1 = some (.eptr l (o + 1)) := rfl
@[go_sem] theorem fd128_1 : fieldA T 128 (.agg l) 1 = l[1]? := rfl
@[go_sem] theorem d131 : descOf T 131 = some (.func #[128, 128] #[4] false) := rfl
@[go_sem] theorem le131 : loadA T S 131 (.eptr l o) = l[o]? := rfl
@[go_sem] theorem al131 : allocA T 131 = some (.alloc (.cells [.nilFunc]) (.ref · 0)) := rfl
@[go_sem] theorem d134 : descOf T 134 = some (.func #[22] #[4] false) := rfl
@[go_sem] theorem le134 : loadA T S 134 (.eptr l o) = l[o]? := rfl
@[go_sem] theorem lr134 : loadA T S 134 (.ref b o) = (cellsAt S.heap b).bind fun l => l[o]? := loadA_ref T134
@[go_sem] theorem al134 : allocA T 134 = some (.alloc (.cells [.nilFunc]) (.ref · 0)) := rfl
@[go_sem] theorem d141 : descOf T 141 = some (.slice 9) := rfl
@[go_sem] theorem le141 : loadA T S 141 (.eptr l o) = l[o]? := rfl
@[go_sem] theorem al141 : allocA T 141 = some (.alloc (.cells [.nilS]) (.ref · 0)) := rfl
@[go_sem] theorem ixs141 : indexAddrA T 141 (.slice l n tl) (.int k i) = if 0 ≤ i ∧ i < n then some (.eptr l (i.toNat * 1)) else none := rfl
@[go_sem] theorem ixr141 : indexAddrA T 141 (.sref b o n cap) (.int k i) = if 0 ≤ i ∧ i < n then some (.ref b (o + i.toNat * 1)) else none := rfl
@[go_sem] theorem lns141 : lenA T S 141 (.slice l n tl) = some (.int .i64 n) := rfl
@[go_sem] theorem lnn141 : lenA T S 141 .nilS = some (.int .i64 0) := rfl
@[go_sem] theorem lnr141 : lenA T S 141 (.sref b o n cap) = some (.int .i64 n) := rfl
@[go_sem] theorem d152 : descOf T 152 = some (.func #[82] #[4] false) := rfl
@[go_sem] theorem le152 : loadA T S 152 (.eptr l o) = l[o]? := rfl
@[go_sem] theorem al152 : allocA T 152 = some (.alloc (.cells [.nilFunc]) (.ref · 0)) := rfl
@[go_sem] theorem d154 : descOf T 154 = some (.slice 191) := rfl
@[go_sem] theorem le154 : loadA T S 154 (.eptr l o) = l[o]? := rfl
@[go_sem] theorem al154 : allocA T 154 = some (.alloc (.cells [.nilS]) (.ref · 0)) := rfl
@[go_sem] theorem ixs154 : indexAddrA T 154 (.slice l n tl) (.int k i) = if 0 ≤ i ∧ i < n then some (.eptr l (i.toNat * 3)) else none := rfl
@[go_sem] theorem ixr154 : indexAddrA T 154 (.sref b o n cap) (.int k i) = if 0 ≤ i ∧ i < n then some (.ref b (o + i.toNat * 3)) else none := rfl
@[go_sem] theorem lns154 : lenA T S 154 (.slice l n tl) = some (.int .i64 n) := rfl
@[go_sem] theorem lnn154 : lenA T S 154 .nilS = some (.int .i64 0) := rfl
@[go_sem] theorem lnr154 : lenA T S 154 (.sref b o n cap) = some (.int .i64 n) := rfl
@[go_sem] theorem d157 : descOf T 157 = some (.array 2 3) := rfl
@[go_sem] theorem le157 : loadA T S 157 (.eptr l o) = (if o + 2 ≤ l.length then some (.agg ((l.drop (o)).take 2)) else none) := rfl
@[go_sem] theorem al157 : allocA T 157 = some (.alloc (.cells [.int .i64 0, .int .i64 0]) (.ref · 0)) := rfl
@[go_sem] theorem ixr157 : indexAddrA T 157 (.ref b o) (.int k i) = if 0 ≤ i ∧ i < (2 : Nat) then some (.ref b (o + i.toNat * 1)) else none := by
 simp only [indexAddrA, T157, ti157, T3, ti3]
@[go_sem] theorem d158 : descOf T 158 = some (.func #[3, 3] #[3] false) := rfl
@[go_sem] theorem le158 : loadA T S 158 (.eptr l o) = l[o]? := rfl
@[go_sem] theorem al158 : allocA T 158 = some (.alloc (.cells [.nilFunc]) (.ref · 0)) := rfl
@[go_sem] theorem d159 : descOf T 159 = some (.array 2 158) := rfl
@[go_sem] theorem le159 : loadA T S 159 (.eptr l o) = (if o + 2 ≤ l.length then some (.agg ((l.drop (o)).take 2)) else none) := rfl
@[go_sem] theorem al159 : allocA T 159 = some (.alloc (.cells [.nilFunc, .nilFunc]) (.ref · 0)) := rfl
@[go_sem] theorem d160 : descOf T 160 = some (.map 3 4) := rfl
@[go_sem] theorem le160 : loadA T S 160 (.eptr l o) = l[o]? := rfl
@[go_sem] theorem al160 : allocA T 160 = some (.alloc (.cells [.nilMap]) (.ref · 0)) := rfl
@[go_sem] theorem lnn160 : lenA T S 160 .nilMap = some (.int .i64 0) := rfl
@[go_sem] theorem d162 : descOf T 162 = some (.func #[22, 3, 3] #[4] false) := rfl
@[go_sem] theorem le162 : loadA T S 162 (.eptr l o) = l[o]? := rfl
@[go_sem] theorem lr162 : loadA T S 162 (.ref b o) = (cellsAt S.heap b).bind fun l => l[o]? := loadA_ref T162
@[go_sem] theorem st162 : storeA T S 162 (.ref b o) v = (cellsAt S.heap b).bind fun l => if v.cells.length = 1 ∧ o + 1 ≤ l.length ∧ v.cells.all AV.one then some (.write b (.cells (splice l o v.cells)) .undef) else none := storeA_ref T162
@[go_sem] theorem al162 : allocA T 162 = some (.alloc (.cells [.nilFunc]) (.ref · 0)) := rfl
@[go_sem] theorem le167 : loadA T S 167 (.eptr l o) = (if o + 5 ≤ l.length then some (.agg ((l.drop (o)).take 5)) else none) := rfl
@[go_sem] theorem al167 : allocA T 167 = some (.alloc (.cells [.nilS, .int .i64 0, .int .i64 0, .int .i64 0, .nilS]) (.ref · 0)) := rfl
@[go_sem] theorem fr167_0 : fieldAddrA T 167 (.ref b o) 0 = some (.ref b (o + 0)) := rfl
@[go_sem] theorem fe167_0 : fieldAddrA T 167 (.eptr l o) 0 = some (.eptr l (o + 0)) := rfl
@[go_sem] theorem fd167_0 : fieldA T 167 (.agg l) 0 = (if 0 + 5 ≤ l.length then some (.agg ((l.drop (0)).take 5)) else none) := rfl
@[go_sem] theorem d168 : descOf T 168 = some (.int .i64) := rfl
@[go_sem] theorem le168 : loadA T S 168 (.eptr l o) = l[o]? := rfl
@[go_sem] theorem al168 : allocA T 168 = some (.alloc (.cells [.int .i64 0]) (.ref · 0)) := rfl
@[go_sem] theorem le170 : loadA T S 170 (.eptr l o) = (if o + 3 ≤ l.length then some (.agg ((l.drop (o)).take 3)) else none) := rfl
@[go_sem] theorem al170 : allocA T 170 = some (.alloc (.cells [.int .i64 0, .int .i64 0, .int .i64 0]) (.ref · 0)) := rfl
@[go_sem] theorem fr170_0 : fieldAddrA T 170 (.ref b o) 0 = some (.ref b (o + 0)) := rfl
@[go_sem] theorem fe170_0 : fieldAddrA T 170 (.eptr l o) 0 = some (.eptr l (o + 0)) := rfl
@[go_sem] theorem fd170_0 : fieldA T 170 (.agg l) 0 = (if 0 + 3 ≤ l.length then some (.agg ((l.drop (0)).take 3)) else none) := rfl
@[go_sem] theorem le174 : loadA T S 174 (.eptr l o) = (if o + 1 ≤ l.length then some (.agg ((l.drop (o)).take 1)) else none) := rfl
@[go_sem] theorem st174 : storeA T S 174 (.ref b o) v = (cellsAt S.heap b).bind fun l => if v.cells.length = 1 ∧ o + 1 ≤ l.length ∧ v.cells.all AV.one then some (.write b (.cells (splice l o v.cells)) .undef) else none := storeA_ref T174
@[go_sem] theorem al174 : allocA T 174 = some (.alloc (.cells [.int .i64 0]) (.ref · 0)) := rfl
@[go_sem] theorem fr174_0 : fieldAddrA T 174 (.ref b o) 0 = some (.ref b (o + 0)) := rfl
@[go_sem] theorem fe174_0 : fieldAddrA T 174 (.eptr l o) 0 = some (.eptr l (o + 0)) := rfl
@[go_sem] theorem fd174_0 : fieldA T 174 (.agg l) 0 = l[0]? := rfl
@[go_sem] theorem le176 : loadA T S 176 (.eptr l o) = (if o + 1 ≤ l.length then some (.agg ((l.drop (o)).take 1)) else none) := rfl
@[go_sem] theorem st176 : storeA T S 176 (.ref b o) v = (cellsAt S.heap b).bind fun l => if v.cells.length = 1 ∧ o + 1 ≤ l.length ∧ v.cells.all AV.one then some (.write b (.cells (splice l o v.cells)) .undef) else none := storeA_ref T176
@[go_sem] theorem al176 : allocA T 176 = some (.alloc (.cells [.str ByteArray.empty]) (.ref · 0)) := rfl
@[go_sem] theorem fr176_0 : fieldAddrA T 176 (.ref b o) 0 = some (.ref b (o + 0)) := rfl
@[go_sem] theorem fe176_0 : fieldAddrA T 176 (.eptr l o) 0 = some (.eptr l (o + 0)) := rfl
@[go_sem] theorem fd176_0 : fieldA T 176 (.agg l) 0 = l[0]? := rfl
@[go_sem] theorem d181 : descOf T 181 = some (.array 3 9) := rfl
@[go_sem] theorem le181 : loadA T S 181 (.eptr l o) = (if o + 3 ≤ l.length then some (.agg ((l.drop (o)).take 3)) else none) := rfl
@[go_sem] theorem lr181 : loadA T S 181 (.ref b o) = (cellsAt S.heap b).bind fun l => (if o + 3 ≤ l.length then some (.agg ((l.drop (o)).take 3)) else none) := loadA_ref T181
@[go_sem] theorem st181 : storeA T S 181 (.ref b o) v = (cellsAt S.heap b).bind fun l => if v.cells.length = 3 ∧ o + 3 ≤ l.length ∧ v.cells.all AV.one then some (.write b (.cells (splice l o v.cells)) .undef) else none := storeA_ref T181
@[go_sem] theorem al181 : allocA T 181 = some (.alloc (.cells [.str ByteArray.empty, .str ByteArray.empty, .str ByteArray.empty]) (.ref · 0)) := rfl
@[go_sem] theorem le191 : loadA T S 191 (.eptr l o) = (if o + 3 ≤ l.length then some (.agg ((l.drop (o)).take 3)) else none) := rfl
@[go_sem] theorem st191 : storeA T S 191 (.ref b o) v = (cellsAt S.heap b).bind fun l => if v.cells.length = 3 ∧ o + 3 ≤ l.length ∧ v.cells.all AV.one then some (.write b (.cells (splice l o v.cells)) .undef) else none := storeA_ref T191
@[go_sem] theorem al191 : allocA T 191 = some (.alloc (.cells [.int .i64 0, .int .i64 0, .int .i64 0]) (.ref · 0)) := rfl
@[go_sem] theorem fr191_0 : fieldAddrA T 191 (.ref b o) 0 = some (.ref b (o + 0)) := rfl
@[go_sem] theorem fe191_0 : fieldAddrA T 191 (.eptr l o) 0 = some (.eptr l (o + 0)) := rfl
@[go_sem] theorem fd191_0 : fieldA T 191 (.agg l) 0 = l[0]? := rfl
@[go_sem] theorem fr191_1 : fieldAddrA T 191 (.ref b o) 1 = some (.ref b (o + 1)) := rfl
@[go_sem] theorem fe191_1 : fieldAddrA T 191 (.eptr l o) 1 = some (.eptr l (o + 1)) := rfl
@[go_sem] theorem fd191_1 : fieldA T 191 (.agg l) 1 = l[1]? := rfl
@[go_sem] theorem fr191_2 : fieldAddrA T 191 (.ref b o) 2 = some (.ref b (o + 2)) := rfl
@[go_sem] theorem fe191_2 : fieldAddrA T 191 (.eptr l o) 2 = some (.eptr l (o + 2)) := rfl
@[go_sem] theorem fd191_2 : fieldA T 191 (.agg l) 2 = l[2]? := rfl
@[go_sem] theorem d193 : descOf T 193 = some (.interface #[("quinaria/leak.numbers", 194)]) := rfl
@[go_sem] theorem le193 : loadA T S 193 (.eptr l o) = l[o]? := rfl
@[go_sem] theorem al193 : allocA T 193 = some (.alloc (.cells [.nilIface]) (.ref · 0)) := rfl
@[go_sem] theorem d195 : descOf T 195 = some (.pointer 197) := rfl
@[go_sem] theorem le195 : loadA T S 195 (.eptr l o) = l[o]? := rfl
@[go_sem] theorem al195 : allocA T 195 = some (.alloc (.cells [.nilp]) (.ref · 0)) := rfl
@[go_sem] theorem le197 : loadA T S 197 (.eptr l o) = (if o + 2 ≤ l.length then some (.agg ((l.drop (o)).take 2)) else none) := rfl
@[go_sem] theorem al197 : allocA T 197 = some (.alloc (.cells [.nilp, .nilS]) (.ref · 0)) := rfl
@[go_sem] theorem fr197_0 : fieldAddrA T 197 (.ref b o) 0 = some (.ref b (o + 0)) := rfl
@[go_sem] theorem fe197_0 : fieldAddrA T 197 (.eptr l o) 0 = some (.eptr l (o + 0)) := rfl
@[go_sem] theorem fd197_0 : fieldA T 197 (.agg l) 0 = l[0]? := rfl
@[go_sem] theorem fr197_1 : fieldAddrA T 197 (.ref b o) 1 = some (.ref b (o + 1)) := rfl
@[go_sem] theorem fe197_1 : fieldAddrA T 197 (.eptr l o) 1 = some (.eptr l (o + 1)) := rfl
@[go_sem] theorem fd197_1 : fieldA T 197 (.agg l) 1 = l[1]? := rfl
@[go_sem] theorem d205 : descOf T 205 = some (.int .u64) := rfl
@[go_sem] theorem le205 : loadA T S 205 (.eptr l o) = l[o]? := rfl
@[go_sem] theorem al205 : allocA T 205 = some (.alloc (.cells [.int .u64 0]) (.ref · 0)) := rfl
@[go_sem] theorem d209 : descOf T 209 = some (.pointer 5) := rfl
@[go_sem] theorem le209 : loadA T S 209 (.eptr l o) = l[o]? := rfl
@[go_sem] theorem al209 : allocA T 209 = some (.alloc (.cells [.nilp]) (.ref · 0)) := rfl
@[go_sem] theorem d212 : descOf T 212 = some (.int .u32) := rfl
@[go_sem] theorem le212 : loadA T S 212 (.eptr l o) = l[o]? := rfl
@[go_sem] theorem al212 : allocA T 212 = some (.alloc (.cells [.int .u32 0]) (.ref · 0)) := rfl
@[go_sem] theorem d215 : descOf T 215 = some (.int .u64) := rfl
@[go_sem] theorem le215 : loadA T S 215 (.eptr l o) = l[o]? := rfl
@[go_sem] theorem al215 : allocA T 215 = some (.alloc (.cells [.int .u64 0]) (.ref · 0)) := rfl
@[go_sem] theorem d218 : descOf T 218 = some (.array 24 5) := rfl
@[go_sem] theorem le218 : loadA T S 218 (.eptr l o) = (if o + 24 ≤ l.length then some (.agg ((l.drop (o)).take 24)) else none) := rfl
@[go_sem] theorem al218 : allocA T 218 = some (.alloc (.cells (List.replicate 24 (.int .u8 0))) (.ref · 0)) := rfl
@[go_sem] theorem d232 : descOf T 232 = some (.array 20 215) := rfl
@[go_sem] theorem le232 : loadA T S 232 (.eptr l o) = (if o + 20 ≤ l.length then some (.agg ((l.drop (o)).take 20)) else none) := rfl
@[go_sem] theorem al232 : allocA T 232 = some (.alloc (.cells [.int .u64 0, .int .u64 0, .int .u64 0, .int .u64 0, .int .u64 0, .int .u64 0, .int .u64 0, .int .u64 0, .int .u64 0, .int .u64 0, .int .u64 0, .int .u64 0, .int .u64 0, .int .u64 0, .int .u64 0, .int .u64 0, .int .u64 0, .int .u64 0, .int .u64 0, .int .u64 0]) (.ref · 0)) := rfl
@[go_sem] theorem d233 : descOf T 233 = some (.array 65 5) := rfl
@[go_sem] theorem le233 : loadA T S 233 (.eptr l o) = (if o + 65 ≤ l.length then some (.agg ((l.drop (o)).take 65)) else none) := rfl
@[go_sem] theorem al233 : allocA T 233 = some (.alloc (.cells (List.replicate 65 (.int .u8 0))) (.ref · 0)) := rfl
end
end Go.Av.Tb
end

/- Part 11 of the proof. -/
import Derived.Test.YtclmbbofpaecaaaGreatDoorVn10
import Derived.Test.YtclmbbofpaecaaaGreatDoorProg
import Derived.KernelRfl
set_option linter.all false
set_option linter.unusedVariables false
set_option linter.unusedSimpArgs false
set_option linter.unusedSectionVars false
section
namespace Go.Av.Tb
open Go Go.Av Go.Proofs
def ti1:TI:={ desc:=.func #[] #[] false,size:=1,bytes:=8,zero:=[.nilFunc],plain:=false }
theorem ok1:TOk Tryz.prog 1 ti1:=TOk.of Tryz.underlying1 (z:=.nilFunc) (by kernel_rfl) rfl ⟨rfl,rfl,rfl,by first | exact fun _=>rfl | (intro h;cases h)⟩ (fun h=>by cases h)
def ti2:TI:={ desc:=.int .i64,size:=1,bytes:=8,zero:=[.int .i64 0],plain:=false }
theorem ok2:TOk Tryz.prog 2 ti2:=TOk.of Tryz.underlying2 (z:=.int .i64 0) (by kernel_rfl) rfl ⟨rfl,rfl,rfl,by first | exact fun _=>rfl | (intro h;cases h)⟩ (fun h=>by cases h)
def ti3:TI:={ desc:=.int .i64,size:=1,bytes:=8,zero:=[.int .i64 0],plain:=false }
theorem ok3:TOk Tryz.prog 3 ti3:=TOk.of Tryz.underlying3 (z:=.int .i64 0) (by kernel_rfl) rfl ⟨rfl,rfl,rfl,by first | exact fun _=>rfl | (intro h;cases h)⟩ (fun h=>by cases h)
def ti4:TI:={ desc:=.bool,size:=1,bytes:=1,zero:=[.bool false],plain:=false }
theorem ok4:TOk Tryz.prog 4 ti4:=TOk.of Tryz.underlying4 (z:=.bool false) (by kernel_rfl) rfl ⟨rfl,rfl,rfl,by first | exact fun _=>rfl | (intro h;cases h)⟩ (fun h=>by cases h)
def ti5:TI:={ desc:=.int .u8,size:=1,bytes:=1,zero:=[.int .u8 0],plain:=false }
theorem ok5:TOk Tryz.prog 5 ti5:=TOk.of Tryz.underlying5 (z:=.int .u8 0) (by kernel_rfl) rfl ⟨rfl,rfl,rfl,by first | exact fun _=>rfl | (intro h;cases h)⟩ (fun h=>by cases h)
def ti9:TI:={ desc:=.string,size:=1,bytes:=16,zero:=[.str ByteArray.empty],plain:=false }
theorem ok9:TOk Tryz.prog 9 ti9:=TOk.of Tryz.underlying9 (z:=.string ByteArray.empty) (by kernel_rfl) rfl ⟨rfl,rfl,rfl,by first | exact fun _=>rfl | (intro h;cases h)⟩ (fun h=>by cases h)
def ti20:TI:={ desc:=.interface #[],size:=1,bytes:=16,zero:=[.nilIface],plain:=false }
theorem ok20:TOk Tryz.prog 20 ti20:=TOk.of Tryz.underlying20 (z:=.nilIface) (by kernel_rfl) rfl ⟨rfl,rfl,rfl,by first | exact fun _=>rfl | (intro h;cases h)⟩ (fun h=>by cases h)
def ti21:TI:={ desc:=.int .i32,size:=1,bytes:=4,zero:=[.int .i32 0],plain:=false }
theorem ok21:TOk Tryz.prog 21 ti21:=TOk.of Tryz.underlying21 (z:=.int .i32 0) (by kernel_rfl) rfl ⟨rfl,rfl,rfl,by first | exact fun _=>rfl | (intro h;cases h)⟩ (fun h=>by cases h)
def ti22:TI:={ desc:=.slice 85,size:=1,bytes:=24,zero:=[.nilS],plain:=false }
theorem ok22:TOk Tryz.prog 22 ti22:=TOk.of Tryz.underlying22 (z:=.slice none 0 0) (by kernel_rfl) rfl ⟨rfl,rfl,rfl,by first | exact fun _=>rfl | (intro h;cases h)⟩ (fun h=>by cases h)
def ti24:TI:={ desc:=.struct #[{ name := "Stations", type:=3,offset:=0,embedded:=false,tag := "", pkgPath := "", byteOffset:=0 },{ name := "Sights", type:=22,offset:=1,embedded:=false,tag := "", pkgPath := "", byteOffset:=8 }],size:=2,bytes:=32,zero:=[.int .i64 0,.nilS],plain:=false }
theorem ok24:TOk Tryz.prog 24 ti24:=TOk.of Tryz.underlying24 (z:=.agg #[.int .i64 0,.slice none 0 0]) (by kernel_rfl) rfl ⟨rfl,rfl,rfl,by first | exact fun _=>rfl | (intro h;cases h)⟩ (fun h=>by cases h)
def ti28:TI:={ desc:=.struct #[{ name := "Low", type:=3,offset:=0,embedded:=false,tag := "", pkgPath := "", byteOffset:=0 },{ name := "High", type:=3,offset:=1,embedded:=false,tag := "", pkgPath := "", byteOffset:=8 }],size:=2,bytes:=16,zero:=[.int .i64 0,.int .i64 0],plain:=true }
theorem ok28:TOk Tryz.prog 28 ti28:=TOk.of Tryz.underlying28 (z:=.agg #[.int .i64 0,.int .i64 0]) (by kernel_rfl) rfl ⟨rfl,rfl,rfl,by first | exact fun _=>rfl | (intro h;cases h)⟩ (fun _=>⟨by kernel_rfl,by kernel_rfl⟩)
def ti29:TI:={ desc:=.int .i64,size:=1,bytes:=8,zero:=[.int .i64 0],plain:=false }
theorem ok29:TOk Tryz.prog 29 ti29:=TOk.of Tryz.underlying29 (z:=.int .i64 0) (by kernel_rfl) rfl ⟨rfl,rfl,rfl,by first | exact fun _=>rfl | (intro h;cases h)⟩ (fun h=>by cases h)
def ti32:TI:={ desc:=.slice 3,size:=1,bytes:=24,zero:=[.nilS],plain:=false }
theorem ok32:TOk Tryz.prog 32 ti32:=TOk.of Tryz.underlying32 (z:=.slice none 0 0) (by kernel_rfl) rfl ⟨rfl,rfl,rfl,by first | exact fun _=>rfl | (intro h;cases h)⟩ (fun h=>by cases h)
def ti35:TI:={ desc:=.slice 32,size:=1,bytes:=24,zero:=[.nilS],plain:=false }
theorem ok35:TOk Tryz.prog 35 ti35:=TOk.of Tryz.underlying35 (z:=.slice none 0 0) (by kernel_rfl) rfl ⟨rfl,rfl,rfl,by first | exact fun _=>rfl | (intro h;cases h)⟩ (fun h=>by cases h)
def ti36:TI:={ desc:=.slice 45,size:=1,bytes:=24,zero:=[.nilS],plain:=false }
theorem ok36:TOk Tryz.prog 36 ti36:=TOk.of Tryz.underlying36 (z:=.slice none 0 0) (by kernel_rfl) rfl ⟨rfl,rfl,rfl,by first | exact fun _=>rfl | (intro h;cases h)⟩ (fun h=>by cases h)
def ti38:TI:={ desc:=.struct #[{ name := "Most", type:=35,offset:=0,embedded:=false,tag := "", pkgPath := "", byteOffset:=0 },{ name := "Joined", type:=36,offset:=1,embedded:=false,tag := "", pkgPath := "", byteOffset:=24 }],size:=2,bytes:=48,zero:=[.nilS,.nilS],plain:=false }
theorem ok38:TOk Tryz.prog 38 ti38:=TOk.of Tryz.underlying38 (z:=.agg #[.slice none 0 0,.slice none 0 0]) (by kernel_rfl) rfl ⟨rfl,rfl,rfl,by first | exact fun _=>rfl | (intro h;cases h)⟩ (fun h=>by cases h)
def ti45:TI:={ desc:=.slice 4,size:=1,bytes:=24,zero:=[.nilS],plain:=false }
theorem ok45:TOk Tryz.prog 45 ti45:=TOk.of Tryz.underlying45 (z:=.slice none 0 0) (by kernel_rfl) rfl ⟨rfl,rfl,rfl,by first | exact fun _=>rfl | (intro h;cases h)⟩ (fun h=>by cases h)
def ti49:TI:={ desc:=.struct #[{ name := "Num", type:=3,offset:=0,embedded:=false,tag := "", pkgPath := "", byteOffset:=0 },{ name := "Den", type:=3,offset:=1,embedded:=false,tag := "", pkgPath := "", byteOffset:=8 }],size:=2,bytes:=16,zero:=[.int .i64 0,.int .i64 0],plain:=true }
theorem ok49:TOk Tryz.prog 49 ti49:=TOk.of Tryz.underlying49 (z:=.agg #[.int .i64 0,.int .i64 0]) (by kernel_rfl) rfl ⟨rfl,rfl,rfl,by first | exact fun _=>rfl | (intro h;cases h)⟩ (fun _=>⟨by kernel_rfl,by kernel_rfl⟩)
def ti54:TI:={ desc:=.slice 61,size:=1,bytes:=24,zero:=[.nilS],plain:=false }
theorem ok54:TOk Tryz.prog 54 ti54:=TOk.of Tryz.underlying54 (z:=.slice none 0 0) (by kernel_rfl) rfl ⟨rfl,rfl,rfl,by first | exact fun _=>rfl | (intro h;cases h)⟩ (fun h=>by cases h)
def ti55:TI:={ desc:=.int .i64,size:=1,bytes:=8,zero:=[.int .i64 0],plain:=false }
theorem ok55:TOk Tryz.prog 55 ti55:=TOk.of Tryz.underlying55 (z:=.int .i64 0) (by kernel_rfl) rfl ⟨rfl,rfl,rfl,by first | exact fun _=>rfl | (intro h;cases h)⟩ (fun h=>by cases h)
def ti61:TI:={ desc:=.struct #[{ name := "From", type:=3,offset:=0,embedded:=false,tag := "", pkgPath := "", byteOffset:=0 },{ name := "To", type:=3,offset:=1,embedded:=false,tag := "", pkgPath := "", byteOffset:=8 },{ name := "Long", type:=3,offset:=2,embedded:=false,tag := "", pkgPath := "", byteOffset:=16 }],size:=3,bytes:=24,zero:=[.int .i64 0,.int .i64 0,.int .i64 0],plain:=true }
theorem ok61:TOk Tryz.prog 61 ti61:=TOk.of Tryz.underlying61 (z:=.agg #[.int .i64 0,.int .i64 0,.int .i64 0]) (by kernel_rfl) rfl ⟨rfl,rfl,rfl,by first | exact fun _=>rfl | (intro h;cases h)⟩ (fun _=>⟨by kernel_rfl,by kernel_rfl⟩)
def ti68:TI:={ desc:=.struct #[{ name := "From", type:=3,offset:=0,embedded:=false,tag := "", pkgPath := "", byteOffset:=0 },{ name := "To", type:=3,offset:=1,embedded:=false,tag := "", pkgPath := "", byteOffset:=8 },{ name := "Long", type:=3,offset:=2,embedded:=false,tag := "", pkgPath := "", byteOffset:=16 },{ name := "Fall", type:=3,offset:=3,embedded:=false,tag := "", pkgPath := "", byteOffset:=24 },{ name := "Err", type:=3,offset:=4,embedded:=false,tag := "", pkgPath := "", byteOffset:=32 }],size:=5,bytes:=40,zero:=[.int .i64 0,.int .i64 0,.int .i64 0,.int .i64 0,.int .i64 0],plain:=true }
theorem ok68:TOk Tryz.prog 68 ti68:=TOk.of Tryz.underlying68 (z:=.agg #[.int .i64 0,.int .i64 0,.int .i64 0,.int .i64 0,.int .i64 0]) (by kernel_rfl) rfl ⟨rfl,rfl,rfl,by first | exact fun _=>rfl | (intro h;cases h)⟩ (fun _=>⟨by kernel_rfl,by kernel_rfl⟩)
def ti76:TI:={ desc:=.slice 95,size:=1,bytes:=24,zero:=[.nilS],plain:=false }
theorem ok76:TOk Tryz.prog 76 ti76:=TOk.of Tryz.underlying76 (z:=.slice none 0 0) (by kernel_rfl) rfl ⟨rfl,rfl,rfl,by first | exact fun _=>rfl | (intro h;cases h)⟩ (fun h=>by cases h)
def ti85:TI:={ desc:=.struct #[{ name := "From", type:=3,offset:=0,embedded:=false,tag := "", pkgPath := "", byteOffset:=0 },{ name := "To", type:=3,offset:=1,embedded:=false,tag := "", pkgPath := "", byteOffset:=8 },{ name := "Rise", type:=3,offset:=2,embedded:=false,tag := "", pkgPath := "", byteOffset:=16 },{ name := "Off", type:=3,offset:=3,embedded:=false,tag := "", pkgPath := "", byteOffset:=24 }],size:=4,bytes:=32,zero:=[.int .i64 0,.int .i64 0,.int .i64 0,.int .i64 0],plain:=true }
theorem ok85:TOk Tryz.prog 85 ti85:=TOk.of Tryz.underlying85 (z:=.agg #[.int .i64 0,.int .i64 0,.int .i64 0,.int .i64 0]) (by kernel_rfl) rfl ⟨rfl,rfl,rfl,by first | exact fun _=>rfl | (intro h;cases h)⟩ (fun _=>⟨by kernel_rfl,by kernel_rfl⟩)
def ti95:TI:={ desc:=.struct #[{ name := "From", type:=3,offset:=0,embedded:=false,tag := "", pkgPath := "", byteOffset:=0 },{ name := "To", type:=3,offset:=1,embedded:=false,tag := "", pkgPath := "", byteOffset:=8 },{ name := "Off", type:=3,offset:=2,embedded:=false,tag := "", pkgPath := "", byteOffset:=16 }],size:=3,bytes:=24,zero:=[.int .i64 0,.int .i64 0,.int .i64 0],plain:=true }
theorem ok95:TOk Tryz.prog 95 ti95:=TOk.of Tryz.underlying95 (z:=.agg #[.int .i64 0,.int .i64 0,.int .i64 0]) (by kernel_rfl) rfl ⟨rfl,rfl,rfl,by first | exact fun _=>rfl | (intro h;cases h)⟩ (fun _=>⟨by kernel_rfl,by kernel_rfl⟩)
def ti106:TI:={ desc:=.slice 5,size:=1,bytes:=24,zero:=[.nilS],plain:=false }
theorem ok106:TOk Tryz.prog 106 ti106:=TOk.of Tryz.underlying106 (z:=.slice none 0 0) (by kernel_rfl) rfl ⟨rfl,rfl,rfl,by first | exact fun _=>rfl | (intro h;cases h)⟩ (fun h=>by cases h)
def ti117:TI:={ desc:=.slice 127,size:=1,bytes:=24,zero:=[.nilS],plain:=false }
theorem ok117:TOk Tryz.prog 117 ti117:=TOk.of Tryz.underlying117 (z:=.slice none 0 0) (by kernel_rfl) rfl ⟨rfl,rfl,rfl,by first | exact fun _=>rfl | (intro h;cases h)⟩ (fun h=>by cases h)
def ti127:TI:={ desc:=.struct #[{ name := "Sight", type:=3,offset:=0,embedded:=false,tag := "", pkgPath := "", byteOffset:=0 },{ name := "Back", type:=4,offset:=1,embedded:=false,tag := "", pkgPath := "", byteOffset:=8 }],size:=2,bytes:=16,zero:=[.int .i64 0,.bool false],plain:=true }
theorem ok127:TOk Tryz.prog 127 ti127:=TOk.of Tryz.underlying127 (z:=.agg #[.int .i64 0,.bool false]) (by kernel_rfl) rfl ⟨rfl,rfl,rfl,by first | exact fun _=>rfl | (intro h;cases h)⟩ (fun _=>⟨by kernel_rfl,by kernel_rfl⟩)
def ti132:TI:={ desc:=.struct #[{ name := "LevelSurvey", type:=24,offset:=0,embedded:=true,tag := "", pkgPath := "", byteOffset:=0 },{ name := "most", type:=35,offset:=2,embedded:=false,tag := "", pkgPath := "quinaria/level", byteOffset:=32 }],size:=3,bytes:=56,zero:=[.int .i64 0,.nilS,.nilS],plain:=false }
theorem ok132:TOk Tryz.prog 132 ti132:=TOk.of Tryz.underlying132 (z:=.agg #[.int .i64 0,.slice none 0 0,.slice none 0 0]) (by kernel_rfl) rfl ⟨rfl,rfl,rfl,by first | exact fun _=>rfl | (intro h;cases h)⟩ (fun h=>by cases h)
def ti138:TI:={ desc:=.slice 150,size:=1,bytes:=24,zero:=[.nilS],plain:=false }
theorem ok138:TOk Tryz.prog 138 ti138:=TOk.of Tryz.underlying138 (z:=.slice none 0 0) (by kernel_rfl) rfl ⟨rfl,rfl,rfl,by first | exact fun _=>rfl | (intro h;cases h)⟩ (fun h=>by cases h)
def ti140:TI:={ desc:=.struct #[{ name := "LevelSight", type:=85,offset:=0,embedded:=true,tag := "", pkgPath := "", byteOffset:=0 }],size:=4,bytes:=32,zero:=[.int .i64 0,.int .i64 0,.int .i64 0,.int .i64 0],plain:=false }
theorem ok140:TOk Tryz.prog 140 ti140:=TOk.of Tryz.underlying140 (z:=.agg #[.int .i64 0,.int .i64 0,.int .i64 0,.int .i64 0]) (by kernel_rfl) rfl ⟨rfl,rfl,rfl,by first | exact fun _=>rfl | (intro h;cases h)⟩ (fun h=>by cases h)
def ti148:TI:={ desc:=.func #[61] #[4] false,size:=1,bytes:=8,zero:=[.nilFunc],plain:=false }
theorem ok148:TOk Tryz.prog 148 ti148:=TOk.of Tryz.underlying148 (z:=.nilFunc) (by kernel_rfl) rfl ⟨rfl,rfl,rfl,by first | exact fun _=>rfl | (intro h;cases h)⟩ (fun h=>by cases h)
def ti150:TI:={ desc:=.struct #[{ name := "from", type:=3,offset:=0,embedded:=false,tag := "", pkgPath := "quinaria/level", byteOffset:=0 },{ name := "to", type:=3,offset:=1,embedded:=false,tag := "", pkgPath := "quinaria/level", byteOffset:=8 },{ name := "most", type:=3,offset:=2,embedded:=false,tag := "", pkgPath := "quinaria/level", byteOffset:=16 }],size:=3,bytes:=24,zero:=[.int .i64 0,.int .i64 0,.int .i64 0],plain:=true }
theorem ok150:TOk Tryz.prog 150 ti150:=TOk.of Tryz.underlying150 (z:=.agg #[.int .i64 0,.int .i64 0,.int .i64 0]) (by kernel_rfl) rfl ⟨rfl,rfl,rfl,by first | exact fun _=>rfl | (intro h;cases h)⟩ (fun _=>⟨by kernel_rfl,by kernel_rfl⟩)
def ti153:TI:={ desc:=.slice 155,size:=1,bytes:=24,zero:=[.nilS],plain:=false }
theorem ok153:TOk Tryz.prog 153 ti153:=TOk.of Tryz.underlying153 (z:=.slice none 0 0) (by kernel_rfl) rfl ⟨rfl,rfl,rfl,by first | exact fun _=>rfl | (intro h;cases h)⟩ (fun h=>by cases h)
def ti155:TI:={ desc:=.struct #[{ name := "number", type:=3,offset:=0,embedded:=false,tag := "", pkgPath := "quinaria/level", byteOffset:=0 },{ name := "wide", type:=3,offset:=1,embedded:=false,tag := "", pkgPath := "quinaria/level", byteOffset:=8 }],size:=2,bytes:=16,zero:=[.int .i64 0,.int .i64 0],plain:=true }
theorem ok155:TOk Tryz.prog 155 ti155:=TOk.of Tryz.underlying155 (z:=.agg #[.int .i64 0,.int .i64 0]) (by kernel_rfl) rfl ⟨rfl,rfl,rfl,by first | exact fun _=>rfl | (intro h;cases h)⟩ (fun _=>⟨by kernel_rfl,by kernel_rfl⟩)
def ti157:TI:={ desc:=.func #[155,155] #[4] false,size:=1,bytes:=8,zero:=[.nilFunc],plain:=false }
theorem ok157:TOk Tryz.prog 157 ti157:=TOk.of Tryz.underlying157 (z:=.nilFunc) (by kernel_rfl) rfl ⟨rfl,rfl,rfl,by first | exact fun _=>rfl | (intro h;cases h)⟩ (fun h=>by cases h)
def ti161:TI:={ desc:=.struct #[{ name := "LevelTry", type:=95,offset:=0,embedded:=true,tag := "", pkgPath := "", byteOffset:=0 }],size:=3,bytes:=24,zero:=[.int .i64 0,.int .i64 0,.int .i64 0],plain:=false }
theorem ok161:TOk Tryz.prog 161 ti161:=TOk.of Tryz.underlying161 (z:=.agg #[.int .i64 0,.int .i64 0,.int .i64 0]) (by kernel_rfl) rfl ⟨rfl,rfl,rfl,by first | exact fun _=>rfl | (intro h;cases h)⟩ (fun h=>by cases h)
def ti162:TI:={ desc:=.func #[95] #[4] false,size:=1,bytes:=8,zero:=[.nilFunc],plain:=false }
theorem ok162:TOk Tryz.prog 162 ti162:=TOk.of Tryz.underlying162 (z:=.nilFunc) (by kernel_rfl) rfl ⟨rfl,rfl,rfl,by first | exact fun _=>rfl | (intro h;cases h)⟩ (fun h=>by cases h)
def ti165:TI:={ desc:=.func #[32,3,3] #[4] false,size:=1,bytes:=8,zero:=[.nilFunc],plain:=false }
theorem ok165:TOk Tryz.prog 165 ti165:=TOk.of Tryz.underlying165 (z:=.nilFunc) (by kernel_rfl) rfl ⟨rfl,rfl,rfl,by first | exact fun _=>rfl | (intro h;cases h)⟩ (fun h=>by cases h)
def ti171:TI:={ desc:=.slice 9,size:=1,bytes:=24,zero:=[.nilS],plain:=false }
theorem ok171:TOk Tryz.prog 171 ti171:=TOk.of Tryz.underlying171 (z:=.slice none 0 0) (by kernel_rfl) rfl ⟨rfl,rfl,rfl,by first | exact fun _=>rfl | (intro h;cases h)⟩ (fun h=>by cases h)
def ti176:TI:={ desc:=.func #[3] #[4] false,size:=1,bytes:=8,zero:=[.nilFunc],plain:=false }
theorem ok176:TOk Tryz.prog 176 ti176:=TOk.of Tryz.underlying176 (z:=.nilFunc) (by kernel_rfl) rfl ⟨rfl,rfl,rfl,by first | exact fun _=>rfl | (intro h;cases h)⟩ (fun h=>by cases h)
def ti178:TI:={ desc:=.func #[85] #[4] false,size:=1,bytes:=8,zero:=[.nilFunc],plain:=false }
theorem ok178:TOk Tryz.prog 178 ti178:=TOk.of Tryz.underlying178 (z:=.nilFunc) (by kernel_rfl) rfl ⟨rfl,rfl,rfl,by first | exact fun _=>rfl | (intro h;cases h)⟩ (fun h=>by cases h)
def ti180:TI:={ desc:=.func #[127] #[4] false,size:=1,bytes:=8,zero:=[.nilFunc],plain:=false }
theorem ok180:TOk Tryz.prog 180 ti180:=TOk.of Tryz.underlying180 (z:=.nilFunc) (by kernel_rfl) rfl ⟨rfl,rfl,rfl,by first | exact fun _=>rfl | (intro h;cases h)⟩ (fun h=>by cases h)
def ti181:TI:={ desc:=.map 3 4,size:=1,bytes:=8,zero:=[.nilMap],plain:=false }
theorem ok181:TOk Tryz.prog 181 ti181:=TOk.of Tryz.underlying181 (z:=.map none) (by kernel_rfl) rfl ⟨rfl,rfl,rfl,by first | exact fun _=>rfl | (intro h;cases h)⟩ (fun h=>by cases h)
def ti185:TI:={ desc:=.array 2 3,size:=2,bytes:=16,zero:=[.int .i64 0,.int .i64 0],plain:=false }
theorem ok185:TOk Tryz.prog 185 ti185:=TOk.of Tryz.underlying185 (z:=.agg #[.int .i64 0,.int .i64 0]) (by kernel_rfl) rfl ⟨rfl,rfl,rfl,by first | exact fun _=>rfl | (intro h;cases h)⟩ (fun h=>by cases h)
def ti186:TI:={ desc:=.func #[132,3,3] #[3] false,size:=1,bytes:=8,zero:=[.nilFunc],plain:=false }
theorem ok186:TOk Tryz.prog 186 ti186:=TOk.of Tryz.underlying186 (z:=.nilFunc) (by kernel_rfl) rfl ⟨rfl,rfl,rfl,by first | exact fun _=>rfl | (intro h;cases h)⟩ (fun h=>by cases h)
def ti187:TI:={ desc:=.array 2 186,size:=2,bytes:=16,zero:=[.nilFunc,.nilFunc],plain:=false }
theorem ok187:TOk Tryz.prog 187 ti187:=TOk.of Tryz.underlying187 (z:=.agg #[.nilFunc,.nilFunc]) (by kernel_rfl) rfl ⟨rfl,rfl,rfl,by first | exact fun _=>rfl | (intro h;cases h)⟩ (fun h=>by cases h)
def ti191:TI:={ desc:=.struct #[{ name := "station", type:=3,offset:=0,embedded:=false,tag := "", pkgPath := "quinaria/level", byteOffset:=0 }],size:=1,bytes:=8,zero:=[.int .i64 0],plain:=true }
theorem ok191:TOk Tryz.prog 191 ti191:=TOk.of Tryz.underlying191 (z:=.agg #[.int .i64 0]) (by kernel_rfl) rfl ⟨rfl,rfl,rfl,by first | exact fun _=>rfl | (intro h;cases h)⟩ (fun _=>⟨by kernel_rfl,by kernel_rfl⟩)
def ti193:TI:={ desc:=.struct #[{ name := "why", type:=9,offset:=0,embedded:=false,tag := "", pkgPath := "quinaria/level", byteOffset:=0 }],size:=1,bytes:=16,zero:=[.str ByteArray.empty],plain:=true }
theorem ok193:TOk Tryz.prog 193 ti193:=TOk.of Tryz.underlying193 (z:=.agg #[.string ByteArray.empty]) (by kernel_rfl) rfl ⟨rfl,rfl,rfl,by first | exact fun _=>rfl | (intro h;cases h)⟩ (fun _=>⟨by kernel_rfl,by kernel_rfl⟩)
def ti198:TI:={ desc:=.struct #[{ name := "LevelLeg", type:=61,offset:=0,embedded:=true,tag := "", pkgPath := "", byteOffset:=0 }],size:=3,bytes:=24,zero:=[.int .i64 0,.int .i64 0,.int .i64 0],plain:=false }
theorem ok198:TOk Tryz.prog 198 ti198:=TOk.of Tryz.underlying198 (z:=.agg #[.int .i64 0,.int .i64 0,.int .i64 0]) (by kernel_rfl) rfl ⟨rfl,rfl,rfl,by first | exact fun _=>rfl | (intro h;cases h)⟩ (fun h=>by cases h)
def ti200:TI:={ desc:=.struct #[{ name := "LevelTunnel", type:=68,offset:=0,embedded:=true,tag := "", pkgPath := "", byteOffset:=0 }],size:=5,bytes:=40,zero:=[.int .i64 0,.int .i64 0,.int .i64 0,.int .i64 0,.int .i64 0],plain:=false }
theorem ok200:TOk Tryz.prog 200 ti200:=TOk.of Tryz.underlying200 (z:=.agg #[.int .i64 0,.int .i64 0,.int .i64 0,.int .i64 0,.int .i64 0]) (by kernel_rfl) rfl ⟨rfl,rfl,rfl,by first | exact fun _=>rfl | (intro h;cases h)⟩ (fun h=>by cases h)
def ti203:TI:={ desc:=.interface #[("quinaria/level.ends", 204)],size:=1,bytes:=16,zero:=[.nilIface],plain:=false }
theorem ok203:TOk Tryz.prog 203 ti203:=TOk.of Tryz.underlying203 (z:=.nilIface) (by kernel_rfl) rfl ⟨rfl,rfl,rfl,by first | exact fun _=>rfl | (intro h;cases h)⟩ (fun h=>by cases h)
def ti218:TI:={ desc:=.func #[117,3] #[4] false,size:=1,bytes:=8,zero:=[.nilFunc],plain:=false }
theorem ok218:TOk Tryz.prog 218 ti218:=TOk.of Tryz.underlying218 (z:=.nilFunc) (by kernel_rfl) rfl ⟨rfl,rfl,rfl,by first | exact fun _=>rfl | (intro h;cases h)⟩ (fun h=>by cases h)
def ti222:TI:={ desc:=.int .u64,size:=1,bytes:=8,zero:=[.int .u64 0],plain:=false }
theorem ok222:TOk Tryz.prog 222 ti222:=TOk.of Tryz.underlying222 (z:=.int .u64 0) (by kernel_rfl) rfl ⟨rfl,rfl,rfl,by first | exact fun _=>rfl | (intro h;cases h)⟩ (fun h=>by cases h)
def ti226:TI:={ desc:=.func #[150] #[4] false,size:=1,bytes:=8,zero:=[.nilFunc],plain:=false }
theorem ok226:TOk Tryz.prog 226 ti226:=TOk.of Tryz.underlying226 (z:=.nilFunc) (by kernel_rfl) rfl ⟨rfl,rfl,rfl,by first | exact fun _=>rfl | (intro h;cases h)⟩ (fun h=>by cases h)
def ti228:TI:={ desc:=.array 2 9,size:=2,bytes:=32,zero:=[.str ByteArray.empty,.str ByteArray.empty],plain:=false }
theorem ok228:TOk Tryz.prog 228 ti228:=TOk.of Tryz.underlying228 (z:=.agg #[.string ByteArray.empty,.string ByteArray.empty]) (by kernel_rfl) rfl ⟨rfl,rfl,rfl,by first | exact fun _=>rfl | (intro h;cases h)⟩ (fun h=>by cases h)
def ti230:TI:={ desc:=.pointer 232,size:=1,bytes:=8,zero:=[.nilp],plain:=false }
theorem ok230:TOk Tryz.prog 230 ti230:=TOk.of Tryz.underlying230 (z:=.pointer none) (by kernel_rfl) rfl ⟨rfl,rfl,rfl,by first | exact fun _=>rfl | (intro h;cases h)⟩ (fun h=>by cases h)
def ti232:TI:={ desc:=.struct #[{ name := "addr", type:=230,offset:=0,embedded:=false,tag := "", pkgPath := "strings", byteOffset:=0 },{ name := "buf", type:=106,offset:=1,embedded:=false,tag := "", pkgPath := "strings", byteOffset:=8 }],size:=2,bytes:=32,zero:=[.nilp,.nilS],plain:=false }
theorem ok232:TOk Tryz.prog 232 ti232:=TOk.of Tryz.underlying232 (z:=.agg #[.pointer none,.slice none 0 0]) (by kernel_rfl) rfl ⟨rfl,rfl,rfl,by first | exact fun _=>rfl | (intro h;cases h)⟩ (fun h=>by cases h)
def ti241:TI:={ desc:=.array 2 4,size:=2,bytes:=2,zero:=[.bool false,.bool false],plain:=false }
theorem ok241:TOk Tryz.prog 241 ti241:=TOk.of Tryz.underlying241 (z:=.agg #[.bool false,.bool false]) (by kernel_rfl) rfl ⟨rfl,rfl,rfl,by first | exact fun _=>rfl | (intro h;cases h)⟩ (fun h=>by cases h)
def ti242:TI:={ desc:=.int .u32,size:=1,bytes:=4,zero:=[.int .u32 0],plain:=false }
theorem ok242:TOk Tryz.prog 242 ti242:=TOk.of Tryz.underlying242 (z:=.int .u32 0) (by kernel_rfl) rfl ⟨rfl,rfl,rfl,by first | exact fun _=>rfl | (intro h;cases h)⟩ (fun h=>by cases h)
def ti245:TI:={ desc:=.int .u64,size:=1,bytes:=8,zero:=[.int .u64 0],plain:=false }
theorem ok245:TOk Tryz.prog 245 ti245:=TOk.of Tryz.underlying245 (z:=.int .u64 0) (by kernel_rfl) rfl ⟨rfl,rfl,rfl,by first | exact fun _=>rfl | (intro h;cases h)⟩ (fun h=>by cases h)
def ti250:TI:={ desc:=.pointer 5,size:=1,bytes:=8,zero:=[.nilp],plain:=false }
theorem ok250:TOk Tryz.prog 250 ti250:=TOk.of Tryz.underlying250 (z:=.pointer none) (by kernel_rfl) rfl ⟨rfl,rfl,rfl,by first | exact fun _=>rfl | (intro h;cases h)⟩ (fun h=>by cases h)
def tab:List (Nat × TI):=[(1,ti1),(2,ti2),(3,ti3),(4,ti4),(5,ti5),(9,ti9),(20,ti20),(21,ti21),(22,ti22),(24,ti24),(28,ti28),(29,ti29),(32,ti32),(35,ti35),(36,ti36),(38,ti38),(45,ti45),(49,ti49),(54,ti54),(55,ti55),(61,ti61),(68,ti68),(76,ti76),(85,ti85),(95,ti95),(106,ti106),(117,ti117),(127,ti127),(132,ti132),(138,ti138),(140,ti140),(148,ti148),(150,ti150),(153,ti153),(155,ti155),(157,ti157),(161,ti161),(162,ti162),(165,ti165),(171,ti171),(176,ti176),(178,ti178),(180,ti180),(181,ti181),(185,ti185),(186,ti186),(187,ti187),(191,ti191),(193,ti193),(198,ti198),(200,ti200),(203,ti203),(218,ti218),(222,ti222),(226,ti226),(228,ti228),(230,ti230),(232,ti232),(241,ti241),(242,ti242),(245,ti245),(250,ti250)]
def T:Tab:=look tab
theorem T_ok:T.Ok Tryz.prog:=look_ok tab ⟨ok1,ok2,ok3,ok4,ok5,ok9,ok20,ok21,ok22,ok24,ok28,ok29,ok32,ok35,ok36,ok38,ok45,ok49,ok54,ok55,ok61,ok68,ok76,ok85,ok95,ok106,ok117,ok127,ok132,ok138,ok140,ok148,ok150,ok153,ok155,ok157,ok161,ok162,ok165,ok171,ok176,ok178,ok180,ok181,ok185,ok186,ok187,ok191,ok193,ok198,ok200,ok203,ok218,ok222,ok226,ok228,ok230,ok232,ok241,ok242,ok245,ok250,trivial⟩
theorem T3:T 3=some ti3:=rfl
theorem T4:T 4=some ti4:=rfl
theorem T9:T 9=some ti9:=rfl
theorem T22:T 22=some ti22:=rfl
theorem T24:T 24=some ti24:=rfl
theorem T28:T 28=some ti28:=rfl
theorem T29:T 29=some ti29:=rfl
theorem T32:T 32=some ti32:=rfl
theorem T35:T 35=some ti35:=rfl
theorem T49:T 49=some ti49:=rfl
theorem T61:T 61=some ti61:=rfl
theorem T68:T 68=some ti68:=rfl
theorem T85:T 85=some ti85:=rfl
theorem T95:T 95=some ti95:=rfl
theorem T117:T 117=some ti117:=rfl
theorem T127:T 127=some ti127:=rfl
theorem T132:T 132=some ti132:=rfl
theorem T138:T 138=some ti138:=rfl
theorem T140:T 140=some ti140:=rfl
theorem T150:T 150=some ti150:=rfl
theorem T155:T 155=some ti155:=rfl
theorem T165:T 165=some ti165:=rfl
theorem T181:T 181=some ti181:=rfl
theorem T185:T 185=some ti185:=rfl
theorem T191:T 191=some ti191:=rfl
theorem T193:T 193=some ti193:=rfl
theorem T218:T 218=some ti218:=rfl
theorem T228:T 228=some ti228:=rfl
section
variable {S:St} {b o n cap:Nat} {l:List AV} {tl:Tail} {k k':IntKind} {i c:Int} {v:AV}
@[go_sem] theorem d1:descOf T 1=some (.func #[] #[] false):=rfl
@[go_sem] theorem d2:descOf T 2=some (.int .i64):=rfl
@[go_sem] theorem d3:descOf T 3=some (.int .i64):=rfl
@[go_sem] theorem le3:loadA T S 3 (.eptr l o)=l[o]?:=rfl
@[go_sem] theorem lr3:loadA T S 3 (.ref b o)=(cellsAt S.heap b).bind fun l=>l[o]?:=zAr T3
@[go_sem] theorem st3:storeA T S 3 (.ref b o) v=(cellsAt S.heap b).bind fun l=>if v.cells.length=1∧o+1≤l.length∧v.cells.all AV.one then some (.write b (.cells (splice l o v.cells)) .undef) else none:=zAl T3
@[go_sem] theorem d4:descOf T 4=some (.bool):=rfl
@[go_sem] theorem le4:loadA T S 4 (.eptr l o)=l[o]?:=rfl
@[go_sem] theorem lr4:loadA T S 4 (.ref b o)=(cellsAt S.heap b).bind fun l=>l[o]?:=zAr T4
@[go_sem] theorem st4:storeA T S 4 (.ref b o) v=(cellsAt S.heap b).bind fun l=>if v.cells.length=1∧o+1≤l.length∧v.cells.all AV.one then some (.write b (.cells (splice l o v.cells)) .undef) else none:=zAl T4
@[go_sem] theorem al4:allocA T 4=some (.alloc (.cells [.bool false]) (.ref · 0)):=rfl
@[go_sem] theorem d5:descOf T 5=some (.int .u8):=rfl
@[go_sem] theorem d9:descOf T 9=some (.string):=rfl
@[go_sem] theorem le9:loadA T S 9 (.eptr l o)=l[o]?:=rfl
@[go_sem] theorem lr9:loadA T S 9 (.ref b o)=(cellsAt S.heap b).bind fun l=>l[o]?:=zAr T9
@[go_sem] theorem lns9 (s:ByteArray):lenA T S 9 (.str s)=some (.int .i64 s.size):=rfl
@[go_sem] theorem ids9 (s:ByteArray):indexA T 9 (.str s) (.int k i)=if 0≤i then (s[i.toNat]?).map (fun b=>.int .u8 b.toNat) else none:=rfl
@[go_sem] theorem d20:descOf T 20=some (.interface #[]):=rfl
@[go_sem] theorem d21:descOf T 21=some (.int .i32):=rfl
@[go_sem] theorem d22:descOf T 22=some (.slice 85):=rfl
@[go_sem] theorem le22:loadA T S 22 (.eptr l o)=l[o]?:=rfl
@[go_sem] theorem lr22:loadA T S 22 (.ref b o)=(cellsAt S.heap b).bind fun l=>l[o]?:=zAr T22
@[go_sem] theorem st22:storeA T S 22 (.ref b o) v=(cellsAt S.heap b).bind fun l=>if v.cells.length=1∧o+1≤l.length∧v.cells.all AV.one then some (.write b (.cells (splice l o v.cells)) .undef) else none:=zAl T22
@[go_sem] theorem ixs22:zAo T 22 (.slice l n tl) (.int k i)=if 0≤i∧i<n then some (.eptr l (i.toNat * 4)) else none:=rfl
@[go_sem] theorem ixr22:zAo T 22 (.sref b o n cap) (.int k i)=if 0≤i∧i<n then some (.ref b (o+i.toNat * 4)) else none:=rfl
@[go_sem] theorem lns22:lenA T S 22 (.slice l n tl)=some (.int .i64 n):=rfl
@[go_sem] theorem lnn22:lenA T S 22 .nilS=some (.int .i64 0):=rfl
@[go_sem] theorem lnr22:lenA T S 22 (.sref b o n cap)=some (.int .i64 n):=rfl
@[go_sem] theorem le24:loadA T S 24 (.eptr l o)=(if o+2≤l.length then some (.agg ((l.drop (o)).take 2)) else none):=rfl
@[go_sem] theorem lr24:loadA T S 24 (.ref b o)=(cellsAt S.heap b).bind fun l=>(if o+2≤l.length then some (.agg ((l.drop (o)).take 2)) else none):=zAr T24
@[go_sem] theorem st24:storeA T S 24 (.ref b o) v=(cellsAt S.heap b).bind fun l=>if v.cells.length=2∧o+2≤l.length∧v.cells.all AV.one then some (.write b (.cells (splice l o v.cells)) .undef) else none:=zAl T24
@[go_sem] theorem al24:allocA T 24=some (.alloc (.cells [.int .i64 0,.nilS]) (.ref · 0)):=rfl
@[go_sem] theorem fr24_0:zAb T 24 (.ref b o) 0=some (.ref b (o+0)):=rfl
@[go_sem] theorem fe24_0:zAb T 24 (.eptr l o) 0=some (.eptr l (o+0)):=rfl
@[go_sem] theorem fr24_1:zAb T 24 (.ref b o) 1=some (.ref b (o+1)):=rfl
@[go_sem] theorem fe24_1:zAb T 24 (.eptr l o) 1=some (.eptr l (o+1)):=rfl
@[go_sem] theorem le28:loadA T S 28 (.eptr l o)=(if o+2≤l.length then some (.agg ((l.drop (o)).take 2)) else none):=rfl
@[go_sem] theorem lr28:loadA T S 28 (.ref b o)=(cellsAt S.heap b).bind fun l=>(if o+2≤l.length then some (.agg ((l.drop (o)).take 2)) else none):=zAr T28
@[go_sem] theorem st28:storeA T S 28 (.ref b o) v=(cellsAt S.heap b).bind fun l=>if v.cells.length=2∧o+2≤l.length∧v.cells.all AV.one then some (.write b (.cells (splice l o v.cells)) .undef) else none:=zAl T28
@[go_sem] theorem al28:allocA T 28=some (.alloc (.cells [.int .i64 0,.int .i64 0]) (.ref · 0)):=rfl
@[go_sem] theorem fr28_0:zAb T 28 (.ref b o) 0=some (.ref b (o+0)):=rfl
@[go_sem] theorem fe28_0:zAb T 28 (.eptr l o) 0=some (.eptr l (o+0)):=rfl
@[go_sem] theorem fr28_1:zAb T 28 (.ref b o) 1=some (.ref b (o+1)):=rfl
@[go_sem] theorem fe28_1:zAb T 28 (.eptr l o) 1=some (.eptr l (o+1)):=rfl
@[go_sem] theorem d29:descOf T 29=some (.int .i64):=rfl
@[go_sem] theorem le29:loadA T S 29 (.eptr l o)=l[o]?:=rfl
@[go_sem] theorem lr29:loadA T S 29 (.ref b o)=(cellsAt S.heap b).bind fun l=>l[o]?:=zAr T29
@[go_sem] theorem st29:storeA T S 29 (.ref b o) v=(cellsAt S.heap b).bind fun l=>if v.cells.length=1∧o+1≤l.length∧v.cells.all AV.one then some (.write b (.cells (splice l o v.cells)) .undef) else none:=zAl T29
@[go_sem] theorem al29:allocA T 29=some (.alloc (.cells [.int .i64 0]) (.ref · 0)):=rfl
@[go_sem] theorem d32:descOf T 32=some (.slice 3):=rfl
@[go_sem] theorem le32:loadA T S 32 (.eptr l o)=l[o]?:=rfl
@[go_sem] theorem lr32:loadA T S 32 (.ref b o)=(cellsAt S.heap b).bind fun l=>l[o]?:=zAr T32
@[go_sem] theorem st32:storeA T S 32 (.ref b o) v=(cellsAt S.heap b).bind fun l=>if v.cells.length=1∧o+1≤l.length∧v.cells.all AV.one then some (.write b (.cells (splice l o v.cells)) .undef) else none:=zAl T32
@[go_sem] theorem al32:allocA T 32=some (.alloc (.cells [.nilS]) (.ref · 0)):=rfl
@[go_sem] theorem ixs32:zAo T 32 (.slice l n tl) (.int k i)=if 0≤i∧i<n then some (.eptr l (i.toNat * 1)) else none:=rfl
@[go_sem] theorem ixr32:zAo T 32 (.sref b o n cap) (.int k i)=if 0≤i∧i<n then some (.ref b (o+i.toNat * 1)) else none:=rfl
@[go_sem] theorem lns32:lenA T S 32 (.slice l n tl)=some (.int .i64 n):=rfl
@[go_sem] theorem lnn32:lenA T S 32 .nilS=some (.int .i64 0):=rfl
@[go_sem] theorem lnr32:lenA T S 32 (.sref b o n cap)=some (.int .i64 n):=rfl
@[go_sem] theorem d35:descOf T 35=some (.slice 32):=rfl
@[go_sem] theorem le35:loadA T S 35 (.eptr l o)=l[o]?:=rfl
@[go_sem] theorem lr35:loadA T S 35 (.ref b o)=(cellsAt S.heap b).bind fun l=>l[o]?:=zAr T35
@[go_sem] theorem st35:storeA T S 35 (.ref b o) v=(cellsAt S.heap b).bind fun l=>if v.cells.length=1∧o+1≤l.length∧v.cells.all AV.one then some (.write b (.cells (splice l o v.cells)) .undef) else none:=zAl T35
@[go_sem] theorem ixs35:zAo T 35 (.slice l n tl) (.int k i)=if 0≤i∧i<n then some (.eptr l (i.toNat * 1)) else none:=rfl
@[go_sem] theorem ixr35:zAo T 35 (.sref b o n cap) (.int k i)=if 0≤i∧i<n then some (.ref b (o+i.toNat * 1)) else none:=rfl
@[go_sem] theorem d36:descOf T 36=some (.slice 45):=rfl
@[go_sem] theorem d45:descOf T 45=some (.slice 4):=rfl
@[go_sem] theorem lns45:lenA T S 45 (.slice l n tl)=some (.int .i64 n):=rfl
@[go_sem] theorem lnn45:lenA T S 45 .nilS=some (.int .i64 0):=rfl
@[go_sem] theorem lnr45:lenA T S 45 (.sref b o n cap)=some (.int .i64 n):=rfl
@[go_sem] theorem le49:loadA T S 49 (.eptr l o)=(if o+2≤l.length then some (.agg ((l.drop (o)).take 2)) else none):=rfl
@[go_sem] theorem lr49:loadA T S 49 (.ref b o)=(cellsAt S.heap b).bind fun l=>(if o+2≤l.length then some (.agg ((l.drop (o)).take 2)) else none):=zAr T49
@[go_sem] theorem st49:storeA T S 49 (.ref b o) v=(cellsAt S.heap b).bind fun l=>if v.cells.length=2∧o+2≤l.length∧v.cells.all AV.one then some (.write b (.cells (splice l o v.cells)) .undef) else none:=zAl T49
@[go_sem] theorem al49:allocA T 49=some (.alloc (.cells [.int .i64 0,.int .i64 0]) (.ref · 0)):=rfl
@[go_sem] theorem fr49_0:zAb T 49 (.ref b o) 0=some (.ref b (o+0)):=rfl
@[go_sem] theorem fe49_0:zAb T 49 (.eptr l o) 0=some (.eptr l (o+0)):=rfl
@[go_sem] theorem fr49_1:zAb T 49 (.ref b o) 1=some (.ref b (o+1)):=rfl
@[go_sem] theorem fe49_1:zAb T 49 (.eptr l o) 1=some (.eptr l (o+1)):=rfl
@[go_sem] theorem d54:descOf T 54=some (.slice 61):=rfl
@[go_sem] theorem ixs54:zAo T 54 (.slice l n tl) (.int k i)=if 0≤i∧i<n then some (.eptr l (i.toNat * 3)) else none:=rfl
@[go_sem] theorem ixr54:zAo T 54 (.sref b o n cap) (.int k i)=if 0≤i∧i<n then some (.ref b (o+i.toNat * 3)) else none:=rfl
@[go_sem] theorem lns54:lenA T S 54 (.slice l n tl)=some (.int .i64 n):=rfl
@[go_sem] theorem lnn54:lenA T S 54 .nilS=some (.int .i64 0):=rfl
@[go_sem] theorem lnr54:lenA T S 54 (.sref b o n cap)=some (.int .i64 n):=rfl
@[go_sem] theorem d55:descOf T 55=some (.int .i64):=rfl
@[go_sem] theorem le61:loadA T S 61 (.eptr l o)=(if o+3≤l.length then some (.agg ((l.drop (o)).take 3)) else none):=rfl
@[go_sem] theorem lr61:loadA T S 61 (.ref b o)=(cellsAt S.heap b).bind fun l=>(if o+3≤l.length then some (.agg ((l.drop (o)).take 3)) else none):=zAr T61
@[go_sem] theorem st61:storeA T S 61 (.ref b o) v=(cellsAt S.heap b).bind fun l=>if v.cells.length=3∧o+3≤l.length∧v.cells.all AV.one then some (.write b (.cells (splice l o v.cells)) .undef) else none:=zAl T61
@[go_sem] theorem al61:allocA T 61=some (.alloc (.cells [.int .i64 0,.int .i64 0,.int .i64 0]) (.ref · 0)):=rfl
@[go_sem] theorem fr61_0:zAb T 61 (.ref b o) 0=some (.ref b (o+0)):=rfl
@[go_sem] theorem fe61_0:zAb T 61 (.eptr l o) 0=some (.eptr l (o+0)):=rfl
@[go_sem] theorem fr61_1:zAb T 61 (.ref b o) 1=some (.ref b (o+1)):=rfl
@[go_sem] theorem fe61_1:zAb T 61 (.eptr l o) 1=some (.eptr l (o+1)):=rfl
@[go_sem] theorem fr61_2:zAb T 61 (.ref b o) 2=some (.ref b (o+2)):=rfl
@[go_sem] theorem fe61_2:zAb T 61 (.eptr l o) 2=some (.eptr l (o+2)):=rfl
@[go_sem] theorem le68:loadA T S 68 (.eptr l o)=(if o+5≤l.length then some (.agg ((l.drop (o)).take 5)) else none):=rfl
@[go_sem] theorem lr68:loadA T S 68 (.ref b o)=(cellsAt S.heap b).bind fun l=>(if o+5≤l.length then some (.agg ((l.drop (o)).take 5)) else none):=zAr T68
@[go_sem] theorem st68:storeA T S 68 (.ref b o) v=(cellsAt S.heap b).bind fun l=>if v.cells.length=5∧o+5≤l.length∧v.cells.all AV.one then some (.write b (.cells (splice l o v.cells)) .undef) else none:=zAl T68
@[go_sem] theorem al68:allocA T 68=some (.alloc (.cells [.int .i64 0,.int .i64 0,.int .i64 0,.int .i64 0,.int .i64 0]) (.ref · 0)):=rfl
@[go_sem] theorem fr68_0:zAb T 68 (.ref b o) 0=some (.ref b (o+0)):=rfl
@[go_sem] theorem fe68_0:zAb T 68 (.eptr l o) 0=some (.eptr l (o+0)):=rfl
@[go_sem] theorem fr68_1:zAb T 68 (.ref b o) 1=some (.ref b (o+1)):=rfl
@[go_sem] theorem fe68_1:zAb T 68 (.eptr l o) 1=some (.eptr l (o+1)):=rfl
@[go_sem] theorem fr68_2:zAb T 68 (.ref b o) 2=some (.ref b (o+2)):=rfl
@[go_sem] theorem fe68_2:zAb T 68 (.eptr l o) 2=some (.eptr l (o+2)):=rfl
@[go_sem] theorem fr68_3:zAb T 68 (.ref b o) 3=some (.ref b (o+3)):=rfl
@[go_sem] theorem fe68_3:zAb T 68 (.eptr l o) 3=some (.eptr l (o+3)):=rfl
@[go_sem] theorem fr68_4:zAb T 68 (.ref b o) 4=some (.ref b (o+4)):=rfl
@[go_sem] theorem fe68_4:zAb T 68 (.eptr l o) 4=some (.eptr l (o+4)):=rfl
@[go_sem] theorem d76:descOf T 76=some (.slice 95):=rfl
@[go_sem] theorem ixs76:zAo T 76 (.slice l n tl) (.int k i)=if 0≤i∧i<n then some (.eptr l (i.toNat * 3)) else none:=rfl
@[go_sem] theorem ixr76:zAo T 76 (.sref b o n cap) (.int k i)=if 0≤i∧i<n then some (.ref b (o+i.toNat * 3)) else none:=rfl
@[go_sem] theorem lns76:lenA T S 76 (.slice l n tl)=some (.int .i64 n):=rfl
@[go_sem] theorem lnn76:lenA T S 76 .nilS=some (.int .i64 0):=rfl
@[go_sem] theorem lnr76:lenA T S 76 (.sref b o n cap)=some (.int .i64 n):=rfl
@[go_sem] theorem le85:loadA T S 85 (.eptr l o)=(if o+4≤l.length then some (.agg ((l.drop (o)).take 4)) else none):=rfl
@[go_sem] theorem lr85:loadA T S 85 (.ref b o)=(cellsAt S.heap b).bind fun l=>(if o+4≤l.length then some (.agg ((l.drop (o)).take 4)) else none):=zAr T85
@[go_sem] theorem st85:storeA T S 85 (.ref b o) v=(cellsAt S.heap b).bind fun l=>if v.cells.length=4∧o+4≤l.length∧v.cells.all AV.one then some (.write b (.cells (splice l o v.cells)) .undef) else none:=zAl T85
@[go_sem] theorem al85:allocA T 85=some (.alloc (.cells [.int .i64 0,.int .i64 0,.int .i64 0,.int .i64 0]) (.ref · 0)):=rfl
@[go_sem] theorem fr85_0:zAb T 85 (.ref b o) 0=some (.ref b (o+0)):=rfl
@[go_sem] theorem fe85_0:zAb T 85 (.eptr l o) 0=some (.eptr l (o+0)):=rfl
@[go_sem] theorem fr85_1:zAb T 85 (.ref b o) 1=some (.ref b (o+1)):=rfl
@[go_sem] theorem fe85_1:zAb T 85 (.eptr l o) 1=some (.eptr l (o+1)):=rfl
@[go_sem] theorem fr85_2:zAb T 85 (.ref b o) 2=some (.ref b (o+2)):=rfl
@[go_sem] theorem fe85_2:zAb T 85 (.eptr l o) 2=some (.eptr l (o+2)):=rfl
@[go_sem] theorem fr85_3:zAb T 85 (.ref b o) 3=some (.ref b (o+3)):=rfl
@[go_sem] theorem fe85_3:zAb T 85 (.eptr l o) 3=some (.eptr l (o+3)):=rfl
@[go_sem] theorem le95:loadA T S 95 (.eptr l o)=(if o+3≤l.length then some (.agg ((l.drop (o)).take 3)) else none):=rfl
@[go_sem] theorem lr95:loadA T S 95 (.ref b o)=(cellsAt S.heap b).bind fun l=>(if o+3≤l.length then some (.agg ((l.drop (o)).take 3)) else none):=zAr T95
@[go_sem] theorem st95:storeA T S 95 (.ref b o) v=(cellsAt S.heap b).bind fun l=>if v.cells.length=3∧o+3≤l.length∧v.cells.all AV.one then some (.write b (.cells (splice l o v.cells)) .undef) else none:=zAl T95
@[go_sem] theorem al95:allocA T 95=some (.alloc (.cells [.int .i64 0,.int .i64 0,.int .i64 0]) (.ref · 0)):=rfl
@[go_sem] theorem fr95_0:zAb T 95 (.ref b o) 0=some (.ref b (o+0)):=rfl
@[go_sem] theorem fe95_0:zAb T 95 (.eptr l o) 0=some (.eptr l (o+0)):=rfl
@[go_sem] theorem fr95_1:zAb T 95 (.ref b o) 1=some (.ref b (o+1)):=rfl
@[go_sem] theorem fe95_1:zAb T 95 (.eptr l o) 1=some (.eptr l (o+1)):=rfl
@[go_sem] theorem fr95_2:zAb T 95 (.ref b o) 2=some (.ref b (o+2)):=rfl
@[go_sem] theorem fe95_2:zAb T 95 (.eptr l o) 2=some (.eptr l (o+2)):=rfl
@[go_sem] theorem d106:descOf T 106=some (.slice 5):=rfl
@[go_sem] theorem d117:descOf T 117=some (.slice 127):=rfl
@[go_sem] theorem le117:loadA T S 117 (.eptr l o)=l[o]?:=rfl
@[go_sem] theorem lr117:loadA T S 117 (.ref b o)=(cellsAt S.heap b).bind fun l=>l[o]?:=zAr T117
@[go_sem] theorem st117:storeA T S 117 (.ref b o) v=(cellsAt S.heap b).bind fun l=>if v.cells.length=1∧o+1≤l.length∧v.cells.all AV.one then some (.write b (.cells (splice l o v.cells)) .undef) else none:=zAl T117
@[go_sem] theorem al117:allocA T 117=some (.alloc (.cells [.nilS]) (.ref · 0)):=rfl
@[go_sem] theorem ixs117:zAo T 117 (.slice l n tl) (.int k i)=if 0≤i∧i<n then some (.eptr l (i.toNat * 2)) else none:=rfl
@[go_sem] theorem ixr117:zAo T 117 (.sref b o n cap) (.int k i)=if 0≤i∧i<n then some (.ref b (o+i.toNat * 2)) else none:=rfl
@[go_sem] theorem lns117:lenA T S 117 (.slice l n tl)=some (.int .i64 n):=rfl
@[go_sem] theorem lnn117:lenA T S 117 .nilS=some (.int .i64 0):=rfl
@[go_sem] theorem lnr117:lenA T S 117 (.sref b o n cap)=some (.int .i64 n):=rfl
@[go_sem] theorem le127:loadA T S 127 (.eptr l o)=(if o+2≤l.length then some (.agg ((l.drop (o)).take 2)) else none):=rfl
@[go_sem] theorem lr127:loadA T S 127 (.ref b o)=(cellsAt S.heap b).bind fun l=>(if o+2≤l.length then some (.agg ((l.drop (o)).take 2)) else none):=zAr T127
@[go_sem] theorem st127:storeA T S 127 (.ref b o) v=(cellsAt S.heap b).bind fun l=>if v.cells.length=2∧o+2≤l.length∧v.cells.all AV.one then some (.write b (.cells (splice l o v.cells)) .undef) else none:=zAl T127
@[go_sem] theorem al127:allocA T 127=some (.alloc (.cells [.int .i64 0,.bool false]) (.ref · 0)):=rfl
@[go_sem] theorem fr127_0:zAb T 127 (.ref b o) 0=some (.ref b (o+0)):=rfl
@[go_sem] theorem fe127_0:zAb T 127 (.eptr l o) 0=some (.eptr l (o+0)):=rfl
@[go_sem] theorem fr127_1:zAb T 127 (.ref b o) 1=some (.ref b (o+1)):=rfl
@[go_sem] theorem fe127_1:zAb T 127 (.eptr l o) 1=some (.eptr l (o+1)):=rfl
@[go_sem] theorem le132:loadA T S 132 (.eptr l o)=(if o+3≤l.length then some (.agg ((l.drop (o)).take 3)) else none):=rfl
@[go_sem] theorem lr132:loadA T S 132 (.ref b o)=(cellsAt S.heap b).bind fun l=>(if o+3≤l.length then some (.agg ((l.drop (o)).take 3)) else none):=zAr T132
@[go_sem] theorem st132:storeA T S 132 (.ref b o) v=(cellsAt S.heap b).bind fun l=>if v.cells.length=3∧o+3≤l.length∧v.cells.all AV.one then some (.write b (.cells (splice l o v.cells)) .undef) else none:=zAl T132
@[go_sem] theorem al132:allocA T 132=some (.alloc (.cells [.int .i64 0,.nilS,.nilS]) (.ref · 0)):=rfl
@[go_sem] theorem fr132_0:zAb T 132 (.ref b o) 0=some (.ref b (o+0)):=rfl
@[go_sem] theorem fe132_0:zAb T 132 (.eptr l o) 0=some (.eptr l (o+0)):=rfl
@[go_sem] theorem fr132_1:zAb T 132 (.ref b o) 1=some (.ref b (o+2)):=rfl
@[go_sem] theorem fe132_1:zAb T 132 (.eptr l o) 1=some (.eptr l (o+2)):=rfl
@[go_sem] theorem d138:descOf T 138=some (.slice 150):=rfl
@[go_sem] theorem le138:loadA T S 138 (.eptr l o)=l[o]?:=rfl
@[go_sem] theorem lr138:loadA T S 138 (.ref b o)=(cellsAt S.heap b).bind fun l=>l[o]?:=zAr T138
@[go_sem] theorem st138:storeA T S 138 (.ref b o) v=(cellsAt S.heap b).bind fun l=>if v.cells.length=1∧o+1≤l.length∧v.cells.all AV.one then some (.write b (.cells (splice l o v.cells)) .undef) else none:=zAl T138
@[go_sem] theorem al138:allocA T 138=some (.alloc (.cells [.nilS]) (.ref · 0)):=rfl
@[go_sem] theorem ixs138:zAo T 138 (.slice l n tl) (.int k i)=if 0≤i∧i<n then some (.eptr l (i.toNat * 3)) else none:=rfl
@[go_sem] theorem ixr138:zAo T 138 (.sref b o n cap) (.int k i)=if 0≤i∧i<n then some (.ref b (o+i.toNat * 3)) else none:=rfl
@[go_sem] theorem lns138:lenA T S 138 (.slice l n tl)=some (.int .i64 n):=rfl
@[go_sem] theorem lnn138:lenA T S 138 .nilS=some (.int .i64 0):=rfl
@[go_sem] theorem lnr138:lenA T S 138 (.sref b o n cap)=some (.int .i64 n):=rfl
@[go_sem] theorem le140:loadA T S 140 (.eptr l o)=(if o+4≤l.length then some (.agg ((l.drop (o)).take 4)) else none):=rfl
@[go_sem] theorem lr140:loadA T S 140 (.ref b o)=(cellsAt S.heap b).bind fun l=>(if o+4≤l.length then some (.agg ((l.drop (o)).take 4)) else none):=zAr T140
@[go_sem] theorem st140:storeA T S 140 (.ref b o) v=(cellsAt S.heap b).bind fun l=>if v.cells.length=4∧o+4≤l.length∧v.cells.all AV.one then some (.write b (.cells (splice l o v.cells)) .undef) else none:=zAl T140
@[go_sem] theorem al140:allocA T 140=some (.alloc (.cells [.int .i64 0,.int .i64 0,.int .i64 0,.int .i64 0]) (.ref · 0)):=rfl
@[go_sem] theorem fr140_0:zAb T 140 (.ref b o) 0=some (.ref b (o+0)):=rfl
@[go_sem] theorem fe140_0:zAb T 140 (.eptr l o) 0=some (.eptr l (o+0)):=rfl
@[go_sem] theorem d148:descOf T 148=some (.func #[61] #[4] false):=rfl
@[go_sem] theorem le150:loadA T S 150 (.eptr l o)=(if o+3≤l.length then some (.agg ((l.drop (o)).take 3)) else none):=rfl
@[go_sem] theorem st150:storeA T S 150 (.ref b o) v=(cellsAt S.heap b).bind fun l=>if v.cells.length=3∧o+3≤l.length∧v.cells.all AV.one then some (.write b (.cells (splice l o v.cells)) .undef) else none:=zAl T150
@[go_sem] theorem al150:allocA T 150=some (.alloc (.cells [.int .i64 0,.int .i64 0,.int .i64 0]) (.ref · 0)):=rfl
@[go_sem] theorem fr150_0:zAb T 150 (.ref b o) 0=some (.ref b (o+0)):=rfl
@[go_sem] theorem fe150_0:zAb T 150 (.eptr l o) 0=some (.eptr l (o+0)):=rfl
@[go_sem] theorem fr150_1:zAb T 150 (.ref b o) 1=some (.ref b (o+1)):=rfl
@[go_sem] theorem fe150_1:zAb T 150 (.eptr l o) 1=some (.eptr l (o+1)):=rfl
@[go_sem] theorem fr150_2:zAb T 150 (.ref b o) 2=some (.ref b (o+2)):=rfl
@[go_sem] theorem fe150_2:zAb T 150 (.eptr l o) 2=some (.eptr l (o+2)):=rfl
@[go_sem] theorem d153:descOf T 153=some (.slice 155):=rfl
@[go_sem] theorem ixs153:zAo T 153 (.slice l n tl) (.int k i)=if 0≤i∧i<n then some (.eptr l (i.toNat * 2)) else none:=rfl
@[go_sem] theorem ixr153:zAo T 153 (.sref b o n cap) (.int k i)=if 0≤i∧i<n then some (.ref b (o+i.toNat * 2)) else none:=rfl
@[go_sem] theorem lns153:lenA T S 153 (.slice l n tl)=some (.int .i64 n):=rfl
@[go_sem] theorem lnn153:lenA T S 153 .nilS=some (.int .i64 0):=rfl
@[go_sem] theorem lnr153:lenA T S 153 (.sref b o n cap)=some (.int .i64 n):=rfl
@[go_sem] theorem le155:loadA T S 155 (.eptr l o)=(if o+2≤l.length then some (.agg ((l.drop (o)).take 2)) else none):=rfl
@[go_sem] theorem lr155:loadA T S 155 (.ref b o)=(cellsAt S.heap b).bind fun l=>(if o+2≤l.length then some (.agg ((l.drop (o)).take 2)) else none):=zAr T155
@[go_sem] theorem st155:storeA T S 155 (.ref b o) v=(cellsAt S.heap b).bind fun l=>if v.cells.length=2∧o+2≤l.length∧v.cells.all AV.one then some (.write b (.cells (splice l o v.cells)) .undef) else none:=zAl T155
@[go_sem] theorem al155:allocA T 155=some (.alloc (.cells [.int .i64 0,.int .i64 0]) (.ref · 0)):=rfl
@[go_sem] theorem fr155_0:zAb T 155 (.ref b o) 0=some (.ref b (o+0)):=rfl
@[go_sem] theorem fe155_0:zAb T 155 (.eptr l o) 0=some (.eptr l (o+0)):=rfl
@[go_sem] theorem fr155_1:zAb T 155 (.ref b o) 1=some (.ref b (o+1)):=rfl
@[go_sem] theorem fe155_1:zAb T 155 (.eptr l o) 1=some (.eptr l (o+1)):=rfl
@[go_sem] theorem d157:descOf T 157=some (.func #[155,155] #[4] false):=rfl
@[go_sem] theorem fr161_0:zAb T 161 (.ref b o) 0=some (.ref b (o+0)):=rfl
@[go_sem] theorem fe161_0:zAb T 161 (.eptr l o) 0=some (.eptr l (o+0)):=rfl
@[go_sem] theorem d162:descOf T 162=some (.func #[95] #[4] false):=rfl
@[go_sem] theorem d165:descOf T 165=some (.func #[32,3,3] #[4] false):=rfl
@[go_sem] theorem le165:loadA T S 165 (.eptr l o)=l[o]?:=rfl
@[go_sem] theorem lr165:loadA T S 165 (.ref b o)=(cellsAt S.heap b).bind fun l=>l[o]?:=zAr T165
@[go_sem] theorem st165:storeA T S 165 (.ref b o) v=(cellsAt S.heap b).bind fun l=>if v.cells.length=1∧o+1≤l.length∧v.cells.all AV.one then some (.write b (.cells (splice l o v.cells)) .undef) else none:=zAl T165
@[go_sem] theorem al165:allocA T 165=some (.alloc (.cells [.nilFunc]) (.ref · 0)):=rfl
@[go_sem] theorem d171:descOf T 171=some (.slice 9):=rfl
@[go_sem] theorem ixs171:zAo T 171 (.slice l n tl) (.int k i)=if 0≤i∧i<n then some (.eptr l (i.toNat * 1)) else none:=rfl
@[go_sem] theorem ixr171:zAo T 171 (.sref b o n cap) (.int k i)=if 0≤i∧i<n then some (.ref b (o+i.toNat * 1)) else none:=rfl
@[go_sem] theorem lns171:lenA T S 171 (.slice l n tl)=some (.int .i64 n):=rfl
@[go_sem] theorem lnn171:lenA T S 171 .nilS=some (.int .i64 0):=rfl
@[go_sem] theorem lnr171:lenA T S 171 (.sref b o n cap)=some (.int .i64 n):=rfl
@[go_sem] theorem d176:descOf T 176=some (.func #[3] #[4] false):=rfl
@[go_sem] theorem d178:descOf T 178=some (.func #[85] #[4] false):=rfl
@[go_sem] theorem d180:descOf T 180=some (.func #[127] #[4] false):=rfl
@[go_sem] theorem d181:descOf T 181=some (.map 3 4):=rfl
@[go_sem] theorem le181:loadA T S 181 (.eptr l o)=l[o]?:=rfl
@[go_sem] theorem lr181:loadA T S 181 (.ref b o)=(cellsAt S.heap b).bind fun l=>l[o]?:=zAr T181
@[go_sem] theorem st181:storeA T S 181 (.ref b o) v=(cellsAt S.heap b).bind fun l=>if v.cells.length=1∧o+1≤l.length∧v.cells.all AV.one then some (.write b (.cells (splice l o v.cells)) .undef) else none:=zAl T181
@[go_sem] theorem al181:allocA T 181=some (.alloc (.cells [.nilMap]) (.ref · 0)):=rfl
@[go_sem] theorem d185:descOf T 185=some (.array 2 3):=rfl
@[go_sem] theorem le185:loadA T S 185 (.eptr l o)=(if o+2≤l.length then some (.agg ((l.drop (o)).take 2)) else none):=rfl
@[go_sem] theorem al185:allocA T 185=some (.alloc (.cells [.int .i64 0,.int .i64 0]) (.ref · 0)):=rfl
@[go_sem] theorem ixr185:zAo T 185 (.ref b o) (.int k i)=if 0≤i∧i<(2:Nat) then some (.ref b (o+i.toNat * 1)) else none:=by
 simp only [zAo,T185,ti185,T3,ti3]
@[go_sem] theorem d186:descOf T 186=some (.func #[132,3,3] #[3] false):=rfl
@[go_sem] theorem d187:descOf T 187=some (.array 2 186):=rfl
@[go_sem] theorem le191:loadA T S 191 (.eptr l o)=(if o+1≤l.length then some (.agg ((l.drop (o)).take 1)) else none):=rfl
@[go_sem] theorem st191:storeA T S 191 (.ref b o) v=(cellsAt S.heap b).bind fun l=>if v.cells.length=1∧o+1≤l.length∧v.cells.all AV.one then some (.write b (.cells (splice l o v.cells)) .undef) else none:=zAl T191
@[go_sem] theorem al191:allocA T 191=some (.alloc (.cells [.int .i64 0]) (.ref · 0)):=rfl
@[go_sem] theorem le193:loadA T S 193 (.eptr l o)=(if o+1≤l.length then some (.agg ((l.drop (o)).take 1)) else none):=rfl
@[go_sem] theorem st193:storeA T S 193 (.ref b o) v=(cellsAt S.heap b).bind fun l=>if v.cells.length=1∧o+1≤l.length∧v.cells.all AV.one then some (.write b (.cells (splice l o v.cells)) .undef) else none:=zAl T193
@[go_sem] theorem al193:allocA T 193=some (.alloc (.cells [.str ByteArray.empty]) (.ref · 0)):=rfl
@[go_sem] theorem fr198_0:zAb T 198 (.ref b o) 0=some (.ref b (o+0)):=rfl
@[go_sem] theorem fe198_0:zAb T 198 (.eptr l o) 0=some (.eptr l (o+0)):=rfl
@[go_sem] theorem fr200_0:zAb T 200 (.ref b o) 0=some (.ref b (o+0)):=rfl
@[go_sem] theorem fe200_0:zAb T 200 (.eptr l o) 0=some (.eptr l (o+0)):=rfl
@[go_sem] theorem d203:descOf T 203=some (.interface #[("quinaria/level.ends", 204)]):=rfl
@[go_sem] theorem d218:descOf T 218=some (.func #[117,3] #[4] false):=rfl
@[go_sem] theorem le218:loadA T S 218 (.eptr l o)=l[o]?:=rfl
@[go_sem] theorem lr218:loadA T S 218 (.ref b o)=(cellsAt S.heap b).bind fun l=>l[o]?:=zAr T218
@[go_sem] theorem st218:storeA T S 218 (.ref b o) v=(cellsAt S.heap b).bind fun l=>if v.cells.length=1∧o+1≤l.length∧v.cells.all AV.one then some (.write b (.cells (splice l o v.cells)) .undef) else none:=zAl T218
@[go_sem] theorem al218:allocA T 218=some (.alloc (.cells [.nilFunc]) (.ref · 0)):=rfl
@[go_sem] theorem d222:descOf T 222=some (.int .u64):=rfl
@[go_sem] theorem d226:descOf T 226=some (.func #[150] #[4] false):=rfl
@[go_sem] theorem d228:descOf T 228=some (.array 2 9):=rfl
@[go_sem] theorem le228:loadA T S 228 (.eptr l o)=(if o+2≤l.length then some (.agg ((l.drop (o)).take 2)) else none):=rfl
@[go_sem] theorem lr228:loadA T S 228 (.ref b o)=(cellsAt S.heap b).bind fun l=>(if o+2≤l.length then some (.agg ((l.drop (o)).take 2)) else none):=zAr T228
@[go_sem] theorem st228:storeA T S 228 (.ref b o) v=(cellsAt S.heap b).bind fun l=>if v.cells.length=2∧o+2≤l.length∧v.cells.all AV.one then some (.write b (.cells (splice l o v.cells)) .undef) else none:=zAl T228
@[go_sem] theorem al228:allocA T 228=some (.alloc (.cells [.str ByteArray.empty,.str ByteArray.empty]) (.ref · 0)):=rfl
@[go_sem] theorem d230:descOf T 230=some (.pointer 232):=rfl
@[go_sem] theorem d241:descOf T 241=some (.array 2 4):=rfl
@[go_sem] theorem d242:descOf T 242=some (.int .u32):=rfl
@[go_sem] theorem d245:descOf T 245=some (.int .u64):=rfl
@[go_sem] theorem d250:descOf T 250=some (.pointer 5):=rfl
end
end Go.Av.Tb
end

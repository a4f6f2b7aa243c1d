/- Part 27 of the proof. -/
import Derived.Test.YtclmbbofpaecaaaGreatDoorVn25
import Derived.Test.YtclmbbofpaecaaaGreatDoorVn26
set_option linter.all false
set_option linter.unusedVariables false
set_option linter.unusedSimpArgs false
set_option linter.unusedSectionVars false
section
set_option maxRecDepth 1000000
namespace Go.Av.Lx
open Go Go.Av Go.Av.Fx Go.Proofs
open Go.Lv (Sight Survey Sw Sv SightOk Leg Tun Try Stp withS)
def surT:Survey:=⟨4,[⟨0,1,10,1⟩,⟨1,2,-4,2⟩,⟨2,3,7,1⟩,⟨0,3,20,2⟩]⟩
def surU:Survey:=⟨4,[⟨0,1,10,1⟩,⟨1,2,-4,2⟩,⟨2,3,7,1⟩,⟨0,3,20,2⟩,⟨0,1,10,0⟩]⟩
theorem withU:withS surT ⟨0,1,10,0⟩=surU:=by decide +kernel
theorem ex_bounds:boundsA surS 0 2=.tuple [.agg [.int .i64 5,.int .i64 9],.int .i64 0]:=by kernel_rfl
theorem ex_heights:zEt surS=.tuple [sl [0,9,5,13],sl [0,11,9,17],.int .i64 0]:=by kernel_rfl
theorem ex_least:leastA surT=.tuple [frA (7,4),sl [0,47,38,73],.int .i64 0]:=by kernel_rfl
theorem ex_falls:fallsA surS ⟨1,2,2⟩ 2 3=.tuple [.int .i64 2,.int .i64 0]:=by kernel_rfl
theorem ex_carries:zEw surS [⟨1,2,2⟩,⟨2,1,1⟩] 0 3=.tuple [.int .i64 1,.int .i64 0]:=by kernel_rfl
theorem ex_meets:meetsA surS ⟨3,0,5,3,1⟩=.tuple [.agg [.int .i64 (-7),.int .i64 7],.int .i64 0]:=by kernel_rfl
theorem ex_drives:drivesA surS ⟨3,0,5,3,1⟩=.tuple [.int .i64 3,.int .i64 7,.int .i64 0]:=by kernel_rfl
theorem ex_drops:dropsA surU=.tuple [sl [1],.int .i64 0]:=by kernel_rfl
theorem ex_blames:blamesA surU=.tuple [sl [1,2,3],.int .i64 0]:=by kernel_rfl
theorem ex_ring:Lv.shortR surT=some [⟨0,false⟩,⟨1,false⟩,⟨2,false⟩,⟨3,true⟩]:=by decide +kernel
theorem ex_poss:Lv.possS surT=false:=by decide +kernel
theorem ex_ok:zAp surT=true:=by decide +kernel
def exB:ByteArray:=⟨#[115,117,114,118,101,121,32,50,10,115,105,103,104,116,32,48,32,49,32,52,32,48,10,101,110,100,32,48,49,50,10]⟩
def surX:Survey:=⟨2,[⟨0,1,4,0⟩]⟩
theorem ex_text:textB surX=exB:=by decide +kernel
theorem ex_parsed:parsedB exB=some surX:=by decide +kernel
theorem ex_xok:zAp surX=true:=by decide +kernel
end Go.Av.Lx
end

/- Part 30 of the proof. -/
import Derived.Test.YtclmbbofpaecaaaGreatDoorVn27
set_option linter.all false
set_option linter.unusedVariables false
set_option linter.unusedSimpArgs false
set_option linter.unusedSectionVars false
section
set_option maxRecDepth 1000000
namespace Go.Av.Lx
open Go Go.Av Go.Av.Fx Go.Proofs
open Go.Lv (Sight Survey Sw Sv SightOk Leg Tun Try Stp withS)
theorem ex_takes:takesA surS 0 2 [⟨0,2,2⟩,⟨1,2,0⟩]=.tuple [.int .i64 1,.int .i64 2,.int .i64 0]:=by kernel_rfl
end Go.Av.Lx
end

/- Part 25 of the proof. -/
import Derived.Test.YtlagjjpbknpdkaaGreatDoorVp24
set_option linter.all false
set_option linter.unusedVariables false
set_option linter.unusedSimpArgs false
set_option linter.unusedSectionVars false
open Nat (reduceEqDiff reduceAdd reduceLeDiff)
section
namespace Go.Av.Fx
open Go Go.Av Go.Av.Tb Go.Proofs
theorem kM_line : isLineB lineM = true := by decide +kernel
theorem kN_line : isLineB lineN = true := by decide +kernel
theorem kN_poss : possB lineN = false := by decide +kernel
theorem kM_poss : possB lineM = true := by decide +kernel
theorem kM_sets : setsOut lineM = [[0], [1], [2]] := by decide +kernel
theorem kM_words : wordsT (theftsL lineM) 3 = [2, 2, 2] := by decide +kernel
theorem kM_flows : flowsS lineM 1 = ⟨78, 94⟩ := by decide +kernel
theorem kM_lost : lostAll lineM 0 3 = ⟨8, 15⟩ := by decide +kernel
theorem kM_expl : (explM lineM [1]).map (fun W => lostS lineM W 0 3) = some ⟨8, 15⟩ := by decide +kernel
set_option maxRecDepth 1000000 in
theorem kM_tells : tellsB lineM (theftsL lineM) [1, 2] 2 = true := by decide +kernel
set_option maxRecDepth 1000000 in
theorem kM_next : nextL lineM 2 = ⟨1, 2⟩ := by
 have : (nextL lineM 2).point = 1 ∧ (nextL lineM 2).left = 2 := by decide +kernel
 cases h : nextL lineM 2
 rw [h] at this; simp only at this; rw [this.1, this.2]
set_option maxRecDepth 1000000 in
theorem kM_plan : planL lineM 2 = some [1, 2] := by decide +kernel
set_option maxRecDepth 1000000 in
theorem kN_clash : clashL lineN = some (0, 2) := by decide +kernel
set_option maxRecDepth 1000000 in
theorem kN_wrong : wrongL lineN = [0] := by decide +kernel
def exT : ByteArray := ⟨#[108, 105, 110, 101, 32, 49, 32, 49, 32, 48, 10, 115, 116, 114, 101, 116, 99, 104, 32, 48, 10, 101, 110, 100, 32, 48, 53, 49, 10]⟩
def lineT : LLine := ⟨[0], 1, 1, 0, []⟩
set_option maxRecDepth 1000000 in
theorem kT : parsedB exT = some lineT := by decide +kernel
theorem kT_line : isLineB lineT = true := by decide +kernel
set_option maxRecDepth 1000000 in
theorem kT_text : textB lineT = exT := by decide +kernel
end Go.Av.Fx
end

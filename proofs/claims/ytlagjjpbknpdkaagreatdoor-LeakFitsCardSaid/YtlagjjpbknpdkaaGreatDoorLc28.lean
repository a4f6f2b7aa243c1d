/- Part 28 of the proof. -/
import Derived.Test.YtlagjjpbknpdkaaGreatDoorLc27
import Derived.Test.YtlagjjpbknpdkaaGreatDoorLc21
set_option linter.all false
set_option linter.unusedVariables false
set_option linter.unusedSimpArgs false
set_option linter.unusedSectionVars false
section
set_option maxRecDepth 100000
namespace Go.Av.Fx
open Go Go.Av Go.Av.Tb Go.Proofs Go.ChangeShapes Go.WideShapes Go.RowKit
theorem av_truth {H : Type} {enc : TypeId × Value → H} {W : World} {base : Nat} {v : Value} {d : DataW H} {ps : List MemPlace} (h : DataW.Trod enc Tryz.prog W 0 (fun _ => true) true 96 v d ps) (hw : ∀ n ∈ d.weights Tryz.prog 96, n ≤ reachBytes) (hok : Value.okWide Tryz.prog W .any base 96 v) :
    ∃ t : Truth, VRel (cW W) (.agg (trC t)) v ∧ okL t.losses.length := by
  obtain ⟨fuel, h⟩ := h
  simp only [Value.okWide, Tryz.underlying96] at hok
  obtain ⟨cs, rfl, hsz, ts, hts, _, hrow⟩ := hok
  have hc : Tryz.prog.cellsOf 96 = 2 := by kernel_rfl
  rw [hc] at hsz
  obtain ⟨c0, c1, rfl⟩ : ∃ c0 c1, cs = #[c0, c1] := by
    obtain ⟨l⟩ := cs
    match l, hsz with
    | [c0, c1], _ => exact ⟨c0, c1, rfl⟩
  have hts' : Go.Program.cellTypes Tryz.prog Tryz.prog.depth 96 = some [3, 22] := by kernel_rfl
  rw [hts'] at hts
  cases hts
  have k1 : Cell.okWide Tryz.prog W .any base 22 c1 := by
    obtain ⟨u, e, hu⟩ := hrow 1 c1 rfl
    cases e; exact hu
  obtain ⟨xs, n, _, hd, hl, hlen, hf⟩ := DataW.trod_struct Tryz.underlying96 h
  have hc3 : Tryz.prog.cellsOf 3 = 1 := by kernel_rfl
  have hc22 : Tryz.prog.cellsOf 22 = 1 := by kernel_rfl
  match xs, hlen with
  | [y0, y1], _ =>
    have h0 : DataW.trod enc Tryz.prog W 0 (fun _ => true) true n 3 (([c0, c1].drop 0).take (Tryz.prog.cellsOf 3)) = some y0 := hf 0 _ rfl
    have h1 : DataW.trod enc Tryz.prog W 0 (fun _ => true) true n 22 (([c0, c1].drop 1).take (Tryz.prog.cellsOf 22)) = some y1 := hf 1 _ rfl
    rw [hc3] at h0
    rw [hc22] at h1
    cases hd
    have hw' : ∀ (j : Nat) (t : TypeId) (d : DataW H), [3, 22][j]? = some t → [y0.1, y1.1][j]? = some d → ∀ n ∈ d.weights Tryz.prog t, n ≤ reachBytes := fun j t d ht hd n hn => by
      refine hw n ?_
      simp only [DataW.weights, Tryz.underlying96]
      exact DataW.weights_mem_each (ts := [3, 22]) ht hd n hn
    obtain ⟨p, rfl, _⟩ := av_int h0
    obtain ⟨g, hg, og⟩ := av_ints h1 (hw' 1 _ _ rfl rfl) k1
    refine ⟨⟨p, g⟩, VRel.mk_agg ?_, og⟩
    exact LRel.cons (.int _ _) (LRel.cons hg (LRel.nil _))
end Go.Av.Fx
end

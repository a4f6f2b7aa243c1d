/- Part 27 of the proof. -/
import Derived.Test.YtlagjjpbknpdkaaGreatDoorVp26
import Derived.Test.YtlagjjpbknpdkaaGreatDoorVp14
import Derived.Test.YtlagjjpbknpdkaaGreatDoorRows
import Derived.ProofKit
import Derived.LaidMore
import Derived.OpenShut
import Derived.Deep.Slices
import Derived.Stop.Joined
import Derived.ChangeOld
import Derived.SizedLaws
import Derived.Test.YtlagjjpbknpdkaaGreatDoorTie
import Derived.Test.YtlagjjpbknpdkaaGreatDoorCards
import Derived.Lib.LaidTab
import Derived.Lib.ItoaNum
import Derived.Lay
import Derived.LaidOnce
import Derived.MakeChecks
import Derived.SevenTiedAt
import Derived.Test.YtlagjjpbknpdkaaGreatDoorVp21
set_option linter.all false
set_option linter.unusedVariables false
set_option linter.unusedSimpArgs false
set_option linter.unusedSectionVars false
open Nat (reduceEqDiff reduceAdd reduceLeDiff)
section
namespace Go.Av.Fx
open Go Go.Av Go.Av.Tb Go.Proofs
structure PlanIn (l : LLine) (s t : Truth) (pts : List Int) (off : Int) (is both : Bool) : Prop where
 ln : Ln l
 poss : possB l = true
 hoff : 0 ≤ off ∧ off ≤ 20
 len : pts.length ≤ 8
 hpts : isPtsB l pts = true
 ts : truthB l s = true
 tt : truthB l t = true
 his : is = tellsB l (theftsL l) pts off
 hboth : both = true → fitsT l s = true ∧ fitsT l t = true ∧ tapL s ≠ tapL t
theorem PlanIn.apart {l : LLine} {s t : Truth} {pts : List Int} {off : Int} {is both : Bool} (h : PlanIn l s t pts off is both) (hb : both = true) {x : List Int} (hx : isPtsB l x = true) (hl : x.length ≤ 1000) (ht : tellsB l (theftsL l) x off = true) :
  PC Tryz.prog 69 [lineA l, .agg (trC s), .agg (trC t), sl x, .int .i64 off] (.pure (.bool true)) := by
 have := apart_pc l h.ln s t h.ts h.tt x hl (isPts_ok hx) off h.hoff
 rw [apart_yes h.ln.lw (isPts_ok hx) h.hoff ht h.ts (h.hboth hb).1 h.tt (h.hboth hb).2.1 (h.hboth hb).2.2] at this
 exact this
theorem tells_ok {l : LLine} (h : Ln l) (hp : possB l = true) {off : Int} (ho : 0 ≤ off ∧ off ≤ 20) {x : List Int} (hx : isPtsB l x = true) (hl : x.length ≤ 1000) : PC Tryz.prog 47 [lineA l, sl x, .int .i64 off] (.pure (.tuple [.bool (tellsB l (theftsL l) x off), .int .i64 0])) := by
 have := Tells_pc l h.ok x hl off
 have e : askE l (fineTells l x off) = 0 := by
  have h1 := isLine_iff.2 h
  have h2 : fineTells l x off = true := by unfold fineTells; rw [hx, inB_iff.2 ho]; rfl
  simp [askE, h1, h2, hp]
 unfold tellsA at this
 rw [if_pos e] at this
 exact this
theorem plan_len {l : LLine} (h : Ln l) {off : Int} {r : List Int} (hq : planL l off = some r) : r.length ≤ 1000 := by
 have hp := h.pts
 rcases rs_len (rs_pts.2 (plan_some hq).2.1) with hh | hh
 ·omega
 ·rw [hh]; exact Nat.zero_le _
def planV (o : Option (List Int)) : AV := match o with | some r => sl r | none => .nilS
def planE (o : Option (List Int)) : Int := match o with | some _ => 0 | none => 5
set_option maxHeartbeats 4000000 in
theorem plans_end (l : LLine) (s t : Truth) (pts : List Int) (off : Int) (is both : Bool) (h : PlanIn l s t pts off is both) (more : Int) (nt : Nat) (toks : List Nat) :
  ∀ ts : TS, (ts = [(3, sl pts), (4, .int .i64 more), (5, .int .i64 off), (6, .ref 0 0), (7, .ref 1 0), (8, .ref 2 0), (17, .bool is), (19, planV (planL l off)), (20, .int .i64 (planE (planL l off))), (21, .bool both), (196, .bool false)] ∨ ts = [(3, sl pts), (5, .int .i64 off), (6, .ref 0 0), (7, .ref 1 0), (8, .ref 2 0), (17, .bool is), (19, planV (planL l off)), (20, .int .i64 (planE (planL l off))), (21, .bool both), (213, .bool false)]) →
  WC (E 256) (.seq (.seq (.region [3, 5, 6, 7, 8, 17, 19, 21, 215] r17_18) (.cond (.tmp 215) (.seq (.region [12] r17_19) .ret) .skip)) (.seq (.seq (.region [5, 6, 19, 240] r17_20) (.cond (.tmp 240) (.seq (.region [12] r17_21) .ret) .skip)) (.seq (.region [24, 25] r17_22) (.seq (.region [12] r17_23) .ret)))) (bodyQ (E 256) Tryz.f17.results.toList (fun e x => e = AEnd.ret (AV.bool true))) ts ⟨[some (.cells (lineC l)), some (.cells (trC s)), some (.cells (trC t))], nt, toks⟩ := by
 have y0 : ¬ ((0 : Int) ≠ 0) := by decide
 have z00 : decide ((0 : Int) = 0) = true := rfl
 have y5 : decide ((5 : Int) ≠ 0) = true := rfl
 have hlen := h.len
 intro ts hts
 cases hq : planL l off with
 | none =>
  rw [hq] at hts
  unfold planV planE at hts
  rcases hts with rfl | rfl
  all_goals
   simp only [go_sem, y5, reduceEqDiff, Nat.reduceBEq, reduceAdd, reduceIte, reduceCtorEq, reduceLeDiff]
   refine cp n20 known_pc (SubL.refl _) ?_
   simp only [go_sem, Tryz.f17, reduceEqDiff, Nat.reduceBEq, reduceAdd, reduceIte, reduceCtorEq, reduceLeDiff]
 | some r =>
  rw [hq] at hts
  unfold planV planE at hts
  simp only at hts
  obtain ⟨p1, p2, p3⟩ := plan_some hq
  have hrl := plan_len h.ln hq
  have hPt := rPoints_pc l r (by show _ < _; omega)
  rw [pts_up, ← isPts_up, p2] at hPt
  have hT := tells_ok h.ln h.poss h.hoff p2 hrl
  rw [p1] at hT
  have hAp := fun hb => h.apart hb p2 hrl p1
  have hBf := before_pc pts r (by show _ < _; omega) (by show _ < _; omega)
  have hbf := fun hi : is = true => p3 pts h.hpts (by rw [← h.his]; exact hi)
  rcases hts with rfl | rfl
  all_goals
   simp only [go_sem, y0, decide_false, reduceEqDiff, Nat.reduceBEq, reduceAdd, reduceIte, reduceCtorEq, reduceLeDiff]
   refine cp n51 hPt (SubL.refl _) ?_
   cases both
   ·cases is
    ·simp only [go_sem, un_not, Bool.not_true, reduceEqDiff, Nat.reduceBEq, reduceAdd, reduceIte, reduceCtorEq, reduceLeDiff]
     refine cp n47 hT (SubL.refl _) ?_
     simp only [go_sem, extractA, z00, decide_true, reduceEqDiff, Nat.reduceBEq, reduceAdd, reduceIte, reduceCtorEq, reduceLeDiff]
     refine cp n20 known_pc (SubL.refl _) ?_
     simp only [go_sem, Tryz.f17, reduceEqDiff, Nat.reduceBEq, reduceAdd, reduceIte, reduceCtorEq, reduceLeDiff]
    ·rw [hbf rfl] at hBf
     simp only [go_sem, un_not, Bool.not_true, reduceEqDiff, Nat.reduceBEq, reduceAdd, reduceIte, reduceCtorEq, reduceLeDiff]
     refine cp n32 hBf (SubL.refl _) ?_
     simp only [go_sem, reduceEqDiff, Nat.reduceBEq, reduceAdd, reduceIte, reduceCtorEq, reduceLeDiff]
     refine cp n47 hT (SubL.refl _) ?_
     simp only [go_sem, extractA, z00, decide_true, reduceEqDiff, Nat.reduceBEq, reduceAdd, reduceIte, reduceCtorEq, reduceLeDiff]
     refine cp n20 known_pc (SubL.refl _) ?_
     simp only [go_sem, Tryz.f17, reduceEqDiff, Nat.reduceBEq, reduceAdd, reduceIte, reduceCtorEq, reduceLeDiff]
   ·have hAp := hAp rfl
    cases is
    ·simp only [go_sem, un_not, Bool.not_true, reduceEqDiff, Nat.reduceBEq, reduceAdd, reduceIte, reduceCtorEq, reduceLeDiff]
     refine cp n69 hAp (SubL.refl _) ?_
     simp only [go_sem, un_not, Bool.not_true, reduceEqDiff, Nat.reduceBEq, reduceAdd, reduceIte, reduceCtorEq, reduceLeDiff]
     refine cp n47 hT (SubL.refl _) ?_
     simp only [go_sem, extractA, z00, decide_true, reduceEqDiff, Nat.reduceBEq, reduceAdd, reduceIte, reduceCtorEq, reduceLeDiff]
     refine cp n20 known_pc (SubL.refl _) ?_
     simp only [go_sem, Tryz.f17, reduceEqDiff, Nat.reduceBEq, reduceAdd, reduceIte, reduceCtorEq, reduceLeDiff]
    ·rw [hbf rfl] at hBf
     simp only [go_sem, un_not, Bool.not_true, reduceEqDiff, Nat.reduceBEq, reduceAdd, reduceIte, reduceCtorEq, reduceLeDiff]
     refine cp n69 hAp (SubL.refl _) ?_
     simp only [go_sem, un_not, Bool.not_true, reduceEqDiff, Nat.reduceBEq, reduceAdd, reduceIte, reduceCtorEq, reduceLeDiff]
     refine cp n32 hBf (SubL.refl _) ?_
     simp only [go_sem, reduceEqDiff, Nat.reduceBEq, reduceAdd, reduceIte, reduceCtorEq, reduceLeDiff]
     refine cp n47 hT (SubL.refl _) ?_
     simp only [go_sem, extractA, z00, decide_true, reduceEqDiff, Nat.reduceBEq, reduceAdd, reduceIte, reduceCtorEq, reduceLeDiff]
     refine cp n20 known_pc (SubL.refl _) ?_
     simp only [go_sem, Tryz.f17, reduceEqDiff, Nat.reduceBEq, reduceAdd, reduceIte, reduceCtorEq, reduceLeDiff]
set_option maxHeartbeats 4000000 in
theorem plans_mid (l : LLine) (s t : Truth) (pts : List Int) (off : Int) (is both : Bool) (h : PlanIn l s t pts off is both) (more : Int) :
  WC (E 256) (.seq (.seq (.region [3, 4, 5, 6, 7, 8, 17, 19, 20, 21, 175] r17_12) (.cond (.tmp 175) (.seq (.region [12] r17_13) .ret) .skip)) (.seq (.seq (.region [3, 4, 5, 6, 7, 8, 17, 19, 20, 21, 196] r17_14) (.cond (.tmp 196) (.seq (.draw [3, 5, 6, 7, 8, 17, 19, 20, 21, 22, 23] 12 [] r17_15) (.seq (.region [3, 5, 6, 7, 8, 17, 19, 20, 21, 213] r17_16) (.cond (.tmp 213) (.seq (.region [12] r17_17) .ret) .skip))) .skip)) (.seq (.seq (.region [3, 5, 6, 7, 8, 17, 19, 21, 215] r17_18) (.cond (.tmp 215) (.seq (.region [12] r17_19) .ret) .skip)) (.seq (.seq (.region [5, 6, 19, 240] r17_20) (.cond (.tmp 240) (.seq (.region [12] r17_21) .ret) .skip)) (.seq (.region [24, 25] r17_22) (.seq (.region [12] r17_23) .ret)))))) (bodyQ (E 256) Tryz.f17.results.toList (fun e x => e = AEnd.ret (AV.bool true))) [(3, sl pts), (4, .int .i64 more), (5, .int .i64 off), (6, .ref 0 0), (7, .ref 1 0), (8, .ref 2 0), (17, .bool is), (19, planV (planL l off)), (20, .int .i64 (planE (planL l off))), (21, .bool both)] ⟨[some (.cells (lineC l)), some (.cells (trC s)), some (.cells (trC t))], 0, []⟩ := by
 have y0 : ¬ ((0 : Int) ≠ 0) := by decide
 have z00 : decide ((0 : Int) = 0) = true := rfl
 have hlen := h.len
 have tl := fun nt toks => plans_end l s t pts off is both h more nt toks
 have hPo := rPoint_pc l more
 cases is
 ·have tl := tl 0 [] _ (.inl rfl)
  cases both
  ·simp only [go_sem, reduceEqDiff, Nat.reduceBEq, reduceAdd, reduceIte, reduceCtorEq, reduceLeDiff]
   simp only [go_sem, reduceEqDiff, Nat.reduceBEq, reduceAdd, reduceIte, reduceCtorEq, reduceLeDiff] at tl
   exact tl
  ·simp only [go_sem, reduceEqDiff, Nat.reduceBEq, reduceAdd, reduceIte, reduceCtorEq, reduceLeDiff]
   simp only [go_sem, reduceEqDiff, Nat.reduceBEq, reduceAdd, reduceIte, reduceCtorEq, reduceLeDiff] at tl
   exact tl
 ·have htell : tellsB l (theftsL l) pts off = true := h.his.symm
  obtain ⟨r, hq⟩ : ∃ r, planL l off = some r := by
   cases hq : planL l off with
   | some r => exact ⟨r, rfl⟩
   | none => exact (plan_none hq pts h.hpts htell).elim
  rw [hq] at tl ⊢
  unfold planV planE at tl ⊢
  simp only at tl ⊢
  have go : WC (E 256) (.seq (.seq (.region [3, 4, 5, 6, 7, 8, 17, 19, 20, 21, 196] r17_14) (.cond (.tmp 196) (.seq (.draw [3, 5, 6, 7, 8, 17, 19, 20, 21, 22, 23] 12 [] r17_15) (.seq (.region [3, 5, 6, 7, 8, 17, 19, 20, 21, 213] r17_16) (.cond (.tmp 213) (.seq (.region [12] r17_17) .ret) .skip))) .skip)) (.seq (.seq (.region [3, 5, 6, 7, 8, 17, 19, 21, 215] r17_18) (.cond (.tmp 215) (.seq (.region [12] r17_19) .ret) .skip)) (.seq (.seq (.region [5, 6, 19, 240] r17_20) (.cond (.tmp 240) (.seq (.region [12] r17_21) .ret) .skip)) (.seq (.region [24, 25] r17_22) (.seq (.region [12] r17_23) .ret))))) (bodyQ (E 256) Tryz.f17.results.toList (fun e x => e = AEnd.ret (AV.bool true))) [(3, sl pts), (4, .int .i64 more), (5, .int .i64 off), (6, .ref 0 0), (7, .ref 1 0), (8, .ref 2 0), (17, .bool true), (19, sl r), (20, .int .i64 0), (21, .bool both), (175, .bool false)] ⟨[some (.cells (lineC l)), some (.cells (trC s)), some (.cells (trC t))], 0, []⟩ := by
   have stay : ∀ ts : TS, ts = [(3, sl pts), (4, .int .i64 more), (5, .int .i64 off), (6, .ref 0 0), (7, .ref 1 0), (8, .ref 2 0), (17, .bool true), (19, sl r), (20, .int .i64 0), (21, .bool both), (196, .bool false)] → _ := fun ts hts => tl 0 [] ts (.inl hts)
   have stay := stay _ rfl
   cases hin : inB more 0 l.gives.length
   ·rw [hin] at hPo
    simp only [go_sem, reduceEqDiff, Nat.reduceBEq, reduceAdd, reduceIte, reduceCtorEq, reduceLeDiff]
    refine cp n37 hPo (SubL.refl _) ?_
    simp only [go_sem, reduceEqDiff, Nat.reduceBEq, reduceAdd, reduceIte, reduceCtorEq, reduceLeDiff]
    simp only [go_sem, reduceEqDiff, Nat.reduceBEq, reduceAdd, reduceIte, reduceCtorEq, reduceLeDiff] at stay
    exact stay
   rw [hin] at hPo
   have hm := inB_iff.1 hin
   have goes : (pts.length = 0 ∨ pts.getD (pts.length - 1) 0 < more) → PC Tryz.prog 47 [lineA l, sl (pts ++ [more]), .int .i64 off] (.pure (.tuple [.bool true, .int .i64 0])) := fun hl => by
    have hx := pts_more h.hpts hm hl
    have := tells_ok h.ln h.poss h.hoff hx (by simp; omega)
    rw [tells_more h.ln.lw (isPts_ok hx) h.hoff htell] at this
    exact this
   rcases Nat.eq_zero_or_pos pts.length with h0 | h0
   ·have hT := goes (.inl h0)
    have hnow : pts = [] := List.length_eq_zero_iff.1 h0
    have z0 : decide ((pts.length : Int) = 0) = true := decide_eq_true (by omega)
    have a1 : ∀ S, appendA T S 22 .nilS (sl pts) = some (.pure .nilS) := fun S => by rw [hnow]; rfl
    have a2 : ∀ S (c : Int), appendA T S 22 .nilS (.slice [.int .i64 c] 1 .exact) = some (.tok none fun j => .slice [.int .i64 c] 1 (.tok j)) := fun S c => rfl
    simp only [go_sem, reduceEqDiff, Nat.reduceBEq, reduceAdd, reduceIte, reduceCtorEq, reduceLeDiff]
    refine cp n37 hPo (SubL.refl _) ?_
    simp only [go_sem, builtinA, z0, a1, a2, reduceEqDiff, Nat.reduceBEq, reduceAdd, reduceIte, reduceCtorEq, reduceLeDiff]
    first
     | refine qp n47 hT (SubL.cons (Sub.refl _) (SubL.cons (by rw [hnow]; exact Sub.unk _ _ _) (SubL.refl _))) ?_
     | refine cp n47 hT (SubL.cons (Sub.refl _) (SubL.cons (by rw [hnow]; exact Sub.unk _ _ _) (SubL.refl _))) ?_
    have tl := tl 1 [0] _ (.inr rfl)
    simp only [go_sem, extractA, y0, decide_false, un_not, Bool.not_true, reduceEqDiff, Nat.reduceBEq, reduceAdd, reduceIte, reduceCtorEq, reduceLeDiff]
    simp only [go_sem, reduceEqDiff, Nat.reduceBEq, reduceAdd, reduceIte, reduceCtorEq, reduceLeDiff] at tl
    exact tl
   ·have z0 : decide ((pts.length : Int) = 0) = false := decide_eq_false (by omega)
    obtain ⟨k, hk⟩ : ∃ k, pts.length = k + 1 := ⟨pts.length - 1, by omega⟩
    have w1 : IntKind.i64.wrap ((pts.length : Int) - 1) = (k : Nat) := by rw [wrap64 (by omega)]; omega
    have w2 : 0 ≤ (k : Int) ∧ (k : Int) < pts.length := by omega
    have w3 : pts[k]? = some (pts.getD k 0) := by rw [getD_at 0 (by omega), List.getElem?_eq_getElem]
    rw [hk, Nat.add_sub_cancel, ← hk] at goes
    by_cases c : more > pts.getD k 0
    ·have hT := goes (.inr c)
     have a1 : ∀ S, appendA T S 22 .nilS (sl pts) = some (.tok none fun j => .slice (ints pts) pts.length (.tok j)) := fun S => app_nil22 h0 (by omega)
     have a2 : ∀ S k' (c : Int), appendA T S 22 (.slice (ints pts) pts.length (.tok k')) (.slice [.int .i64 c] 1 .exact) = some (.tok (some k') fun j => .slice (ints (pts ++ [c])) (pts.length + 1) (.tok j)) := fun S k' c => app_tok22 (by omega)
     simp only [go_sem, reduceEqDiff, Nat.reduceBEq, reduceAdd, reduceIte, reduceCtorEq, reduceLeDiff]
     refine cp n37 hPo (SubL.refl _) ?_
     simp only [go_sem, builtinA, z0, w1, w2, ints_get, w3, Option.map_some, c, decide_true, a1, a2, reduceEqDiff, Nat.reduceBEq, reduceAdd, reduceIte, reduceCtorEq, reduceLeDiff]
     refine ⟨List.mem_cons_self, ?_⟩
     first
      | refine qp n47 hT (SubL.cons (Sub.refl _) (SubL.cons sl_snoc (SubL.refl _))) ?_
      | refine cp n47 hT (SubL.cons (Sub.refl _) (SubL.cons sl_snoc (SubL.refl _))) ?_
     simp only [go_sem, extractA, y0, decide_false, un_not, Bool.not_true, reduceEqDiff, Nat.reduceBEq, reduceAdd, reduceIte, reduceCtorEq, reduceLeDiff]
     have tl := fun toks => tl 2 toks _ (.inr rfl)
     simp only [go_sem, reduceEqDiff, Nat.reduceBEq, reduceAdd, reduceIte, reduceCtorEq, reduceLeDiff] at tl
     exact tl _
    ·simp only [go_sem, reduceEqDiff, Nat.reduceBEq, reduceAdd, reduceIte, reduceCtorEq, reduceLeDiff]
     refine cp n37 hPo (SubL.refl _) ?_
     simp only [go_sem, builtinA, z0, w1, w2, ints_get, w3, Option.map_some, c, decide_false, reduceEqDiff, Nat.reduceBEq, reduceAdd, reduceIte, reduceCtorEq, reduceLeDiff]
     simp only [go_sem, reduceEqDiff, Nat.reduceBEq, reduceAdd, reduceIte, reduceCtorEq, reduceLeDiff] at stay
     exact stay
  cases both
  ·simp only [go_sem, y0, decide_false, reduceEqDiff, Nat.reduceBEq, reduceAdd, reduceIte, reduceCtorEq, reduceLeDiff]
   simp only [go_sem, reduceEqDiff, Nat.reduceBEq, reduceAdd, reduceIte, reduceCtorEq, reduceLeDiff] at go
   exact go
  ·have hAp := h.apart rfl h.hpts (by omega) htell
   simp only [go_sem, reduceEqDiff, Nat.reduceBEq, reduceAdd, reduceIte, reduceCtorEq, reduceLeDiff]
   refine cp n69 hAp (SubL.refl _) ?_
   simp only [go_sem, un_not, Bool.not_true, y0, decide_false, reduceEqDiff, Nat.reduceBEq, reduceAdd, reduceIte, reduceCtorEq, reduceLeDiff]
   simp only [go_sem, reduceEqDiff, Nat.reduceBEq, reduceAdd, reduceIte, reduceCtorEq, reduceLeDiff] at go
   exact go
set_option maxHeartbeats 8000000 in
theorem LeakPlans_pc (l : LLine) (ok : okLine l) (s : Truth) (hs : okL s.losses.length) (t : Truth) (ht : okL t.losses.length) (pts : List Int) (hl : okL pts.length) (more off : Int) : PC Tryz.prog 17 [lineA l, .agg (trC s), .agg (trC t), sl pts, .int .i64 more, .int .i64 off] (.pure (.bool true)) := by
 refine PC.of_empty (AC.run (E_ok _) mix Tryz.func17 m17 rfl rfl rfl (Nat.le_of_ble_eq_true rfl) ?_) (by simp [bndL, AV.bnd]) rfl
 have hsl := ok.1
 have hsc := ok.2
 unfold okL at hl hs ht hsl hsc
 simp only [go_sem, boxA, reduceEqDiff, Nat.reduceBEq, reduceAdd, reduceIte, reduceCtorEq, reduceLeDiff]
 refine cp n19 (short_pc l) (SubL.refl _) ?_
 cases hsh : (decide ((l.gives.length : Int) ≤ 7) && decide ((l.counts.length : Int) ≤ 10))
 ·simp only [go_sem, un_not, Bool.not_false, reduceEqDiff, Nat.reduceBEq, reduceAdd, reduceIte, reduceCtorEq, reduceLeDiff]
  refine cp n20 known_pc (SubL.refl _) ?_
  simp only [go_sem, Tryz.f17, reduceEqDiff, Nat.reduceBEq, reduceAdd, reduceIte, reduceCtorEq, reduceLeDiff]
 simp only [go_sem, un_not, Bool.not_true, reduceEqDiff, Nat.reduceBEq, reduceAdd, reduceIte, reduceCtorEq, reduceLeDiff]
 have hLn := rLine_pc l ok
 refine cp n28 hLn (SubL.refl _) ?_
 cases hb : isLineB l
 ·simp only [go_sem, un_not, Bool.not_false, reduceEqDiff, Nat.reduceBEq, reduceAdd, reduceIte, reduceCtorEq, reduceLeDiff]
  refine cp n20 known_pc (SubL.refl _) ?_
  simp only [go_sem, Tryz.f17, reduceEqDiff, Nat.reduceBEq, reduceAdd, reduceIte, reduceCtorEq, reduceLeDiff]
 have hln := isLine_iff.1 hb
 simp only [go_sem, un_not, Bool.not_true, reduceEqDiff, Nat.reduceBEq, reduceAdd, reduceIte, reduceCtorEq, reduceLeDiff]
 refine cp n44 (rOff_pc off) (SubL.refl _) ?_
 cases ho : inB off 0 20
 ·simp only [go_sem, un_not, Bool.not_false, reduceEqDiff, Nat.reduceBEq, reduceAdd, reduceIte, reduceCtorEq, reduceLeDiff]
  refine cp n20 known_pc (SubL.refl _) ?_
  simp only [go_sem, Tryz.f17, reduceEqDiff, Nat.reduceBEq, reduceAdd, reduceIte, reduceCtorEq, reduceLeDiff]
 have hoff := inB_iff.1 ho
 by_cases g8 : (pts.length : Int) > 8
 ·simp only [go_sem, un_not, Bool.not_true, builtinA, g8, decide_true, reduceEqDiff, Nat.reduceBEq, reduceAdd, reduceIte, reduceCtorEq, reduceLeDiff]
  refine cp n20 known_pc (SubL.refl _) ?_
  simp only [go_sem, Tryz.f17, reduceEqDiff, Nat.reduceBEq, reduceAdd, reduceIte, reduceCtorEq, reduceLeDiff]
 have g9 : pts.length ≤ 8 := by omega
 simp only [go_sem, un_not, Bool.not_true, builtinA, g8, decide_false, reduceEqDiff, Nat.reduceBEq, reduceAdd, reduceIte, reduceCtorEq, reduceLeDiff]
 have hPt := rPoints_pc l pts (by show _ < _; omega)
 rw [pts_up, ← isPts_up] at hPt
 refine cp n51 hPt (SubL.refl _) ?_
 cases hpt : isPtsB l pts
 ·simp only [go_sem, un_not, Bool.not_false, reduceEqDiff, Nat.reduceBEq, reduceAdd, reduceIte, reduceCtorEq, reduceLeDiff]
  refine cp n20 known_pc (SubL.refl _) ?_
  simp only [go_sem, Tryz.f17, reduceEqDiff, Nat.reduceBEq, reduceAdd, reduceIte, reduceCtorEq, reduceLeDiff]
 by_cases s8 : (s.losses.length : Int) > 8
 ·simp only [go_sem, un_not, Bool.not_true, builtinA, s8, decide_true, reduceEqDiff, Nat.reduceBEq, reduceAdd, reduceIte, reduceCtorEq, reduceLeDiff]
  refine cp n20 known_pc (SubL.refl _) ?_
  simp only [go_sem, Tryz.f17, reduceEqDiff, Nat.reduceBEq, reduceAdd, reduceIte, reduceCtorEq, reduceLeDiff]
 simp only [go_sem, un_not, Bool.not_true, builtinA, s8, decide_false, reduceEqDiff, Nat.reduceBEq, reduceAdd, reduceIte, reduceCtorEq, reduceLeDiff]
 refine cp n65 (rTruth_pc l s (by show _ < _; omega)) (SubL.refl _) ?_
 cases hts : truthB l s
 ·simp only [go_sem, un_not, Bool.not_false, reduceEqDiff, Nat.reduceBEq, reduceAdd, reduceIte, reduceCtorEq, reduceLeDiff]
  refine cp n20 known_pc (SubL.refl _) ?_
  simp only [go_sem, Tryz.f17, reduceEqDiff, Nat.reduceBEq, reduceAdd, reduceIte, reduceCtorEq, reduceLeDiff]
 by_cases t8 : (t.losses.length : Int) > 8
 ·simp only [go_sem, un_not, Bool.not_true, builtinA, t8, decide_true, reduceEqDiff, Nat.reduceBEq, reduceAdd, reduceIte, reduceCtorEq, reduceLeDiff]
  refine cp n20 known_pc (SubL.refl _) ?_
  simp only [go_sem, Tryz.f17, reduceEqDiff, Nat.reduceBEq, reduceAdd, reduceIte, reduceCtorEq, reduceLeDiff]
 simp only [go_sem, un_not, Bool.not_true, builtinA, t8, decide_false, reduceEqDiff, Nat.reduceBEq, reduceAdd, reduceIte, reduceCtorEq, reduceLeDiff]
 refine cp n65 (rTruth_pc l t (by show _ < _; omega)) (SubL.refl _) ?_
 cases htt : truthB l t
 ·simp only [go_sem, un_not, Bool.not_false, reduceEqDiff, Nat.reduceBEq, reduceAdd, reduceIte, reduceCtorEq, reduceLeDiff]
  refine cp n20 known_pc (SubL.refl _) ?_
  simp only [go_sem, Tryz.f17, reduceEqDiff, Nat.reduceBEq, reduceAdd, reduceIte, reduceCtorEq, reduceLeDiff]
 have F1 := Fits_pc l ok s (by show _ < _; omega)
 have F2 := Fits_pc l ok t (by show _ < _; omega)
 unfold fitsA at F1 F2
 rw [if_pos hb, if_pos hts] at F1
 rw [if_pos hb, if_pos htt] at F2
 have hP := Plan_pc l ok off
 unfold planA at hP
 have y0 : ¬ ((0 : Int) ≠ 0) := by decide
 have y7 : ¬ ((7 : Int) ≠ 7) := by decide
 have d70 : decide ((7 : Int) ≠ 0) = true := rfl
 have z77 : decide ((7 : Int) = 7) = true := rfl
 have z70 : ¬ ((7 : Int) = 0) := by decide
 have z07 : ¬ ((0 : Int) = 7) := by decide
 have z00 : decide ((0 : Int) = 0) = true := rfl
 simp only [go_sem, un_not, Bool.not_true, reduceEqDiff, Nat.reduceBEq, reduceAdd, reduceIte, reduceCtorEq, reduceLeDiff]
 refine cp n66 F1 (SubL.refl _) ?_
 simp only [go_sem, extractA, reduceEqDiff, Nat.reduceBEq, reduceAdd, reduceIte, reduceCtorEq, reduceLeDiff]
 refine cp n66 F2 (SubL.refl _) ?_
 simp only [go_sem, extractA, reduceEqDiff, Nat.reduceBEq, reduceAdd, reduceIte, reduceCtorEq, reduceLeDiff]
 cases hp : possB l
 ·have hT := Tells_pc l ok pts (by omega) off
  have e1 : askE l (inB off 0 20) = 7 := by simp [askE, hb, ho, hp]
  have e2 : askE l (fineTells l pts off) = 7 := by
   have : fineTells l pts off = true := by unfold fineTells; rw [hpt, ho]; rfl
   simp [askE, hb, this, hp]
  unfold tellsA at hT
  rw [e2, if_neg (by decide)] at hT
  rw [e1, if_neg (by decide)] at hP
  have nf : ∀ q, truthB l q = true → fitsT l q = false := fun q hq => by
   cases hf : fitsT l q with
   | false => rfl
   | true => rw [fits_poss hln.lw hq hf] at hp; cases hp
  rw [nf s hts, nf t htt]
  refine cp n47 hT (SubL.refl _) ?_
  simp only [go_sem, extractA, reduceEqDiff, Nat.reduceBEq, reduceAdd, reduceIte, reduceCtorEq, reduceLeDiff]
  refine cp n48 hP (SubL.refl _) ?_
  simp only [go_sem, extractA, y0, y7, d70, z77, z70, decide_true, decide_false, reduceEqDiff, Nat.reduceBEq, reduceAdd, reduceIte, reduceCtorEq, reduceLeDiff]
  refine cp n20 known_pc (SubL.refl _) ?_
  simp only [go_sem, Tryz.f17, reduceEqDiff, Nat.reduceBEq, reduceAdd, reduceIte, reduceCtorEq, reduceLeDiff]
 ·have hT := tells_ok hln hp hoff hpt (by omega)
  have e1 : askE l (inB off 0 20) = 0 := by simp [askE, hb, ho, hp]
  rw [e1, if_pos rfl] at hP
  have hV : PC Tryz.prog 48 [lineA l, .int .i64 off] (.pure (.tuple [planV (planL l off), .int .i64 (planE (planL l off))])) := by
   cases hq : planL l off with
   | none => rw [hq] at hP; exact hP
   | some r => rw [hq] at hP; exact hP
  have hE : planE (planL l off) = 0 ∨ planE (planL l off) = 5 := by
   cases planL l off with
   | none => exact .inr rfl
   | some r => exact .inl rfl
  have T1 := Tapped_pc s (by omega)
  have T2 := Tapped_pc t (by omega)
  have tlen : ∀ q : Truth, (tapL q).length ≤ q.losses.length := fun q => by
   unfold tapL
   rw [List.length_map]
   exact Nat.le_trans (List.length_filter_le _ _) (by simp)
  have tl1 := tlen s
  have tl2 := tlen t
  have hS := Same_pc (tapL s) (tapL t) (by show _ < _; omega) (by show _ < _; omega)
  have y5 : ¬ ((5 : Int) ≠ 5) := by decide
  have d50 : decide ((5 : Int) ≠ 0) = true := rfl
  have tl := fun both hboth => plans_mid l s t pts off (tellsB l (theftsL l) pts off) both ⟨hln, hp, hoff, g9, hpt, hts, htt, rfl, hboth⟩ more
  generalize hVV : planV (planL l off) = V at *
  generalize hEE : planE (planL l off) = e at *
  generalize tellsB l (theftsL l) pts off = is at *
  refine cp n47 hT (SubL.refl _) ?_
  simp only [go_sem, extractA, reduceEqDiff, Nat.reduceBEq, reduceAdd, reduceIte, reduceCtorEq, reduceLeDiff]
  refine cp n48 hV (SubL.refl _) ?_
  simp only [go_sem, extractA, y0, z07, z00, decide_true, decide_false, reduceEqDiff, Nat.reduceBEq, reduceAdd, reduceIte, reduceCtorEq, reduceLeDiff]
  cases h1 : fitsT l s
  ·have tl := tl false (fun h => by cases h)
   rcases hE with rfl | rfl
   ·simp only [go_sem, y0, y5, d50, decide_true, decide_false, reduceEqDiff, Nat.reduceBEq, reduceAdd, reduceIte, reduceCtorEq, reduceLeDiff]
    simp only [go_sem, reduceEqDiff, Nat.reduceBEq, reduceAdd, reduceIte, reduceCtorEq, reduceLeDiff] at tl
    exact tl
   ·simp only [go_sem, y0, y5, d50, decide_true, decide_false, reduceEqDiff, Nat.reduceBEq, reduceAdd, reduceIte, reduceCtorEq, reduceLeDiff]
    simp only [go_sem, reduceEqDiff, Nat.reduceBEq, reduceAdd, reduceIte, reduceCtorEq, reduceLeDiff] at tl
    exact tl
  cases h2 : fitsT l t
  ·have tl := tl false (fun h => by cases h)
   rcases hE with rfl | rfl
   ·simp only [go_sem, y0, y5, d50, decide_true, decide_false, reduceEqDiff, Nat.reduceBEq, reduceAdd, reduceIte, reduceCtorEq, reduceLeDiff]
    simp only [go_sem, reduceEqDiff, Nat.reduceBEq, reduceAdd, reduceIte, reduceCtorEq, reduceLeDiff] at tl
    exact tl
   ·simp only [go_sem, y0, y5, d50, decide_true, decide_false, reduceEqDiff, Nat.reduceBEq, reduceAdd, reduceIte, reduceCtorEq, reduceLeDiff]
    simp only [go_sem, reduceEqDiff, Nat.reduceBEq, reduceAdd, reduceIte, reduceCtorEq, reduceLeDiff] at tl
    exact tl
  by_cases hne : tapL s = tapL t
  ·have tl := tl false (fun h => by cases h)
   rw [decide_eq_true hne] at hS
   rcases hE with rfl | rfl
   ·simp only [go_sem, y0, y5, d50, decide_true, decide_false, reduceEqDiff, Nat.reduceBEq, reduceAdd, reduceIte, reduceCtorEq, reduceLeDiff]
    first | refine qp n67 T1 (SubL.refl _) ?_ | refine cp n67 T1 (SubL.refl _) ?_
    simp only [go_sem, reduceEqDiff, Nat.reduceBEq, reduceAdd, reduceIte, reduceCtorEq, reduceLeDiff]
    first | refine qp n67 T2 (SubL.refl _) ?_ | refine cp n67 T2 (SubL.refl _) ?_
    simp only [go_sem, reduceEqDiff, Nat.reduceBEq, reduceAdd, reduceIte, reduceCtorEq, reduceLeDiff]
    first | refine qp n50 hS (SubL.refl _) ?_ | refine cp n50 hS (SubL.refl _) ?_
    simp only [go_sem, un_not, Bool.not_true, reduceEqDiff, Nat.reduceBEq, reduceAdd, reduceIte, reduceCtorEq, reduceLeDiff]
    simp only [go_sem, reduceEqDiff, Nat.reduceBEq, reduceAdd, reduceIte, reduceCtorEq, reduceLeDiff] at tl
    exact tl
   ·simp only [go_sem, y0, y5, d50, decide_true, decide_false, reduceEqDiff, Nat.reduceBEq, reduceAdd, reduceIte, reduceCtorEq, reduceLeDiff]
    first | refine qp n67 T1 (SubL.refl _) ?_ | refine cp n67 T1 (SubL.refl _) ?_
    simp only [go_sem, reduceEqDiff, Nat.reduceBEq, reduceAdd, reduceIte, reduceCtorEq, reduceLeDiff]
    first | refine qp n67 T2 (SubL.refl _) ?_ | refine cp n67 T2 (SubL.refl _) ?_
    simp only [go_sem, reduceEqDiff, Nat.reduceBEq, reduceAdd, reduceIte, reduceCtorEq, reduceLeDiff]
    first | refine qp n50 hS (SubL.refl _) ?_ | refine cp n50 hS (SubL.refl _) ?_
    simp only [go_sem, un_not, Bool.not_true, reduceEqDiff, Nat.reduceBEq, reduceAdd, reduceIte, reduceCtorEq, reduceLeDiff]
    simp only [go_sem, reduceEqDiff, Nat.reduceBEq, reduceAdd, reduceIte, reduceCtorEq, reduceLeDiff] at tl
    exact tl
  ·have tl := tl true (fun h => ⟨h1, h2, hne⟩)
   rw [decide_eq_false hne] at hS
   rcases hE with rfl | rfl
   ·simp only [go_sem, y0, y5, d50, decide_true, decide_false, reduceEqDiff, Nat.reduceBEq, reduceAdd, reduceIte, reduceCtorEq, reduceLeDiff]
    first | refine qp n67 T1 (SubL.refl _) ?_ | refine cp n67 T1 (SubL.refl _) ?_
    simp only [go_sem, reduceEqDiff, Nat.reduceBEq, reduceAdd, reduceIte, reduceCtorEq, reduceLeDiff]
    first | refine qp n67 T2 (SubL.refl _) ?_ | refine cp n67 T2 (SubL.refl _) ?_
    simp only [go_sem, reduceEqDiff, Nat.reduceBEq, reduceAdd, reduceIte, reduceCtorEq, reduceLeDiff]
    first | refine qp n50 hS (SubL.refl _) ?_ | refine cp n50 hS (SubL.refl _) ?_
    simp only [go_sem, un_not, Bool.not_false, reduceEqDiff, Nat.reduceBEq, reduceAdd, reduceIte, reduceCtorEq, reduceLeDiff]
    simp only [go_sem, reduceEqDiff, Nat.reduceBEq, reduceAdd, reduceIte, reduceCtorEq, reduceLeDiff] at tl
    exact tl
   ·simp only [go_sem, y0, y5, d50, decide_true, decide_false, reduceEqDiff, Nat.reduceBEq, reduceAdd, reduceIte, reduceCtorEq, reduceLeDiff]
    first | refine qp n67 T1 (SubL.refl _) ?_ | refine cp n67 T1 (SubL.refl _) ?_
    simp only [go_sem, reduceEqDiff, Nat.reduceBEq, reduceAdd, reduceIte, reduceCtorEq, reduceLeDiff]
    first | refine qp n67 T2 (SubL.refl _) ?_ | refine cp n67 T2 (SubL.refl _) ?_
    simp only [go_sem, reduceEqDiff, Nat.reduceBEq, reduceAdd, reduceIte, reduceCtorEq, reduceLeDiff]
    first | refine qp n50 hS (SubL.refl _) ?_ | refine cp n50 hS (SubL.refl _) ?_
    simp only [go_sem, un_not, Bool.not_false, reduceEqDiff, Nat.reduceBEq, reduceAdd, reduceIte, reduceCtorEq, reduceLeDiff]
    simp only [go_sem, reduceEqDiff, Nat.reduceBEq, reduceAdd, reduceIte, reduceCtorEq, reduceLeDiff] at tl
    exact tl
end Go.Av.Fx
end
section
set_option maxRecDepth 100000
namespace Go.Av.Fx
open Go Go.Av Go.Av.Tb Go.Proofs Go.ChangeShapes Go.WideShapes Go.RowKit
def cW (W : World) : Cx :=
 {K := fun b o => W.cell? ⟨b, o, none⟩, μ := fun _ => none, τ := fun _ => none, X := fun _ _ => none
  XO := fun b => match W.heap[b]? with
   | some (.cells _ _ _) => none
   | o => o
  sz := W.heap.size, FZ := ⟨fun _ _ => false, W⟩ }
structure TabOk (W : World) : Prop where
 tab : ∀ i, i < 20 → W.cell? ⟨tabB, i, none⟩ = some (tabV i)
 tsh : ∃ t, W.shape? tabB = some (t, 20)
theorem cW_st {W : World} (h : TabOk W) : StRel (cW W) St.empty W where
 sz := Nat.le_refl _
 tab := h.tab
 tsh := h.tsh
 fr := Frm.refl W
 K := fun _ _ _ e => e
 X := fun _ _ _ e => by cases e
 XO := fun b ob e => by
  simp only [cW] at e
  split at e
  ·cases e
  ·rename_i hn
   exact ⟨e, fun cs t f he => hn cs t f (by rw [e, he])⟩
 F := fun _ _ e => by cases e
 dom := fun _ _ e => by cases e
 tdom := fun _ _ e => by cases e
 blk := fun i B e => by simp [St.empty] at e
 inj := fun i j Bi Bj n e => by simp [St.empty] at e
 tok := fun k hk => by cases hk
 tinj := fun k k' b lo hi lo' hi' hk => by cases hk
 tblk := fun k i b lo hi B hk => by cases hk
structure Keep (W W' : World) : Prop where
 os : W'.os = W.os
 out : W'.output = W.output
 block : ∀ k, k < W.heap.size → W'.heap[k]? = W.heap[k]?
theorem keep_of {W W' : World} {c' : Cx} {S' : St} (hle : (cW W).le c') (h : StRel c' S' W') : Keep W W' := by
 have hfr : Frm W W' := by have := h.fr; rw [hle.FZ] at this; exact this
 refine ⟨hfr.os, hfr.out, fun k hk => ?_⟩
 have hob : W.heap[k]? = some W.heap[k] := Array.getElem?_eq_getElem hk
 rw [hob]
 cases ho : W.heap[k] with
 | cells cs t fr =>
  rw [ho] at hob
  obtain ⟨cs', e1, e2⟩ := hfr.blk k cs t fr hob
  rw [e1]
  congr 2
  apply Array.ext
  ·exact e2
  ·intro j h1 h2
   have hc : W.cell? ⟨k, j, none⟩ = some cs[j] := by
    unfold World.cell?
    simp [hob, h2]
   have := h.K k j _ (hle.K k j _ hc)
   unfold World.cell? at this
   simp [e1, h1] at this
   exact this
 | _ =>
  rw [ho] at hob
  exact (h.XO k _ (by rw [hle.XO]; simp only [cW, hob])).1
theorem Keep.keptBut {W W' : World} (h : Keep W W') (may : MemPlace → Prop) : W.keptBut W' may := by
 refine ⟨h.os, h.out, fun i hi => ?_⟩
 rw [h.block i hi, Array.getElem?_eq_getElem hi]
 cases W.heap[i] with
 | cells c t fr => exact ⟨rfl, rfl, rfl, fun _ _ => rfl⟩
 | map es clock => exact .inr ⟨rfl, rfl⟩
 | _ => rfl
theorem Keep.same {W W' : World} (h : Keep W W') {p : MemPlace} (hp : p.block < W.heap.size) : W.sameAt W' p := by
 cases p with
 | cell b o => exact World.cell?_of_block (w := W) (h.block b hp)
 | map b => exact h.block b hp
theorem Keep.trod {H : Type} {enc : TypeId × Value → H} {P : Program} {t : TypeId} (hl : laidOutB P = true) (hr : P.readableRec t = true) (hrow : t < P.types.size) {W W' : World} {v : Value} {d : DataW H} {ps : List MemPlace}
  (h : DataW.Trod enc P W 0 (fun _ => true) true t v d ps) (hb : Keep W W') (hlt : ∀ x ∈ ps, x.block < W.heap.size) :
  DataW.Trod enc P W' 0 (fun b => decide (b < W.heap.size)) true t v d ps :=
 WideElems.Trod_stays hl hr hrow h (fun x hx => hb.same (hlt x hx)) (fun x hx => by simpa using hlt x hx)
theorem law_calls {f : FuncId} {args : List AV} {W : World} {vs : List Value} (h : PC Tryz.prog f args (.pure (.bool true))) (ht : TabOk W) (hl : LRel (cW W) args vs) :
  Calls Tryz.prog f vs.toArray W fun e W' => e = .returned (.bool true) ∧ Keep W W' := by
 refine (h (cW W) St.empty W vs (cW_st ht) hl).mono ?_
 rintro e W' ⟨x, rfl, c', hle, _, _, hst, hv⟩
 refine ⟨?_, keep_of hle hst⟩
 cases hv; rfl
theorem cells_of {W : World} {b off : Nat} {l : List AV} {n cap : Nat} (hc : n ≤ cap) (h : ∀ j x, l[j]? = some x → ∃ v, W.cell? ⟨b, off + j, none⟩ = some v ∧ VRel (cW W) x v) : VRel (cW W) (.slice l n .unk) (.slice (some ⟨b, off, none⟩) n cap) := by
 have get : ∀ j (hj : j < l.length), ∃ v, W.cell? ⟨b, off + j, none⟩ = some v ∧ VRel (cW W) l[j] v := fun j hj => h j _ (List.getElem?_eq_getElem hj)
 refine .slice l n .unk b off cap (fun j => (W.cell? ⟨b, off + j, none⟩).getD default) hc (fun j hj => ?_) (fun j x hx => ?_) (fun e => by cases e) (fun k e => by cases e)
 ·obtain ⟨v, h1, h2⟩ := get j hj
  show W.cell? _ = some ((W.cell? _).getD default)
  rw [h1]; rfl
 ·obtain ⟨v, h1, h2⟩ := h j x hx
  rw [h1]; exact h2
theorem add_at (b off i : Nat) : (⟨b, off, none⟩ : Addr).add i = ⟨b, off + i, none⟩ := add_plain b off i
theorem has_spot {W : World} {base : Nat} {t e : TypeId} {a : Addr} {len cap : Nat} (ht : Tryz.prog.underlying t = some (.slice e)) (h : Cell.okWide Tryz.prog W .any base t (.slice (some a) len cap)) : a.spot = none := by
 simp only [Cell.okWide, ht, Cell.ok] at h
 exact h.2.2.2.1
section
variable {H : Type} {enc : TypeId × Value → H} {W : World} {base : Nat} {fuel : Nat} {x : DataW H × List MemPlace}
theorem av_ints {v : Value} (h : DataW.trod enc Tryz.prog W 0 (fun _ => true) true fuel 22 [v] = some x) (hw : ∀ n ∈ x.1.weights Tryz.prog 22, n ≤ reachBytes) (hok : Cell.okWide Tryz.prog W .any base 22 v) : ∃ l : List Int, VRel (cW W) (sl l) v ∧ okL l.length := by
 rcases open_ints Tryz.underlying22 Tryz.underlying3 (by kernel_rfl) h with ⟨hcs, _⟩ | ⟨a, len, cap, zs, hcs, _, hl, hm, hz, hx, hcell, _⟩
 ·cases hcs
  exact ⟨[], .sliceNil .unk (fun k e => by cases e), Nat.zero_lt_succ _⟩
 ·cases hcs
  have hsp := has_spot Tryz.underlying22 hok
  obtain ⟨b, off, spot⟩ := a
  simp only at hsp
  subst hsp
  have hz : zs.length = cap := by simpa using hz
  have hlen : (zs.take len).length = len := by rw [List.length_take]; omega
  have hsize : len < 9223372036854775807 := by
   subst hx
   have h8 : Tryz.prog.bytesOf 3 = 8 := by kernel_rfl
   have := hw (((lits .i64 (zs.take len) : List (DataW H)).length + (lits .i64 (zs.drop len) : List (DataW H)).length) * 8) (by
    simp only [DataW.weights, Tryz.underlying22, h8]
    exact List.mem_cons_self)
   have e1 : (lits .i64 (zs.take len) : List (DataW H)).length = len := by simp [lits]; omega
   rw [e1] at this
   unfold reachBytes at this
   omega
  refine ⟨zs.take len, ?_, by rw [hlen]; exact hsize⟩
  show VRel (cW W) (.slice (ints (zs.take len)) (zs.take len).length .unk) _
  rw [hlen]
  refine cells_of hl fun j y hy => ?_
  rw [ints_get] at hy
  have hj : j < (zs.take len).length := by
   rcases Nat.lt_or_ge j (zs.take len).length with h' | h'
   ·exact h'
   ·rw [List.getElem?_eq_none h'] at hy; cases hy
  rw [List.getElem?_eq_getElem hj] at hy
  cases hy
  have hj2 : j < zs.length := by omega
  have hc := hcell j hj2
  rw [add_at] at hc
  refine ⟨_, hc, ?_⟩
  rw [List.getElem_take, List.getD_eq_getElem?_getD, List.getElem?_eq_getElem hj2]
  exact .int _ _
theorem av_int {v : Value} (h : DataW.trod enc Tryz.prog W 0 (fun _ => true) true fuel 3 [v] = some x) : ∃ n : Int, v = .int .i64 n ∧ (Lit.int .i64 n).wf = true := by
 obtain ⟨n, hcs, _, hw⟩ := DataW.trod_int Tryz.underlying3 h
 cases hcs
 exact ⟨n, rfl, hw⟩
theorem av_cnt {cs : List Value} (h : DataW.trod enc Tryz.prog W 0 (fun _ => true) true fuel 82 cs = some x) : ∃ c : Cnt, cs = [.int .i64 c.point, .int .i64 c.low, .int .i64 c.high] := by
 obtain ⟨xs, n, _, _, hl, hlen, hf⟩ := DataW.trod_struct Tryz.underlying82 h
 have hc : Tryz.prog.cellsOf 82 = 3 := by kernel_rfl
 have hc3 : Tryz.prog.cellsOf 3 = 1 := by kernel_rfl
 rw [hc] at hl
 match cs, hl with
 | [a, b, d], _ =>
  match xs, hlen with
  | [y0, y1, y2], _ =>
   have h0 : DataW.trod enc Tryz.prog W 0 (fun _ => true) true n 3 (([a, b, d].drop 0).take (Tryz.prog.cellsOf 3)) = some y0 := hf 0 _ rfl
   have h1 : DataW.trod enc Tryz.prog W 0 (fun _ => true) true n 3 (([a, b, d].drop 1).take (Tryz.prog.cellsOf 3)) = some y1 := hf 1 _ rfl
   have h2 : DataW.trod enc Tryz.prog W 0 (fun _ => true) true n 3 (([a, b, d].drop 2).take (Tryz.prog.cellsOf 3)) = some y2 := hf 2 _ rfl
   rw [hc3] at h0 h1 h2
   obtain ⟨p, rfl, _⟩ := av_int h0
   obtain ⟨q, rfl, _⟩ := av_int h1
   obtain ⟨r, rfl, _⟩ := av_int h2
   exact ⟨⟨p, q, r⟩, rfl⟩
theorem cnts_get : ∀ (l : List Cnt) (j : Nat) (y : AV), (cnts l)[j]? = some y → ∃ (i q : Nat) (hi : i < l.length), j = i * 3 + q ∧ q < 3 ∧ (cntC l[i])[q]? = some y
 | [], j, y, h => by simp [cnts] at h
 | c :: l, j, y, h => by
  have e : cnts (c :: l) = cntC c ++ cnts l := by simp [cnts]
  rw [e] at h
  by_cases hj : j < 3
  ·rw [List.getElem?_append_left (by simpa using hj)] at h
   exact ⟨0, j, by simp, by omega, hj, h⟩
  ·rw [List.getElem?_append_right (by simp; omega)] at h
   obtain ⟨i, q, hi, e1, e2, e3⟩ := cnts_get l _ y h
   refine ⟨i + 1, q, by simpa using hi, ?_, e2, e3⟩
   simp at e1; omega
theorem av_cnts {v : Value} (h : DataW.trod enc Tryz.prog W 0 (fun _ => true) true fuel 23 [v] = some x) (hw : ∀ n ∈ x.1.weights Tryz.prog 23, n ≤ reachBytes) (hok : Cell.okWide Tryz.prog W .any base 23 v) : ∃ l : List Cnt, VRel (cW W) (.slice (cnts l) l.length .unk) v ∧ okL l.length := by
 rcases Go.Deep.open_slice Tryz.underlying23 h with ⟨hcs, _⟩ | ⟨a, len, cap, m, n, D, Pl, hcs, _, hl, hm, hmm, hxx, hx⟩
 ·cases hcs
  exact ⟨[], .sliceNil .unk (fun k e => by cases e), Nat.zero_lt_succ _⟩
 ·cases hcs
  have hsp := has_spot Tryz.underlying23 hok
  obtain ⟨b, off, spot⟩ := a
  simp only at hsp
  subst hsp
  have hmc : m = cap := by simpa using hmm
  have hc : Tryz.prog.cellsOf 82 = 3 := by kernel_rfl
  rw [hc] at hx
  have each : ∀ i, i < len → ∃ c : Cnt, ∀ (q : Nat) (y : AV), (cntC c)[q]? = some y → ∃ u, W.cell? ⟨b, off + (i * 3 + q), none⟩ = some u ∧ VRel (cW W) y u := by
   intro i hi
   obtain ⟨cs', h1, h2⟩ := hx i (by omega)
   obtain ⟨c, rfl⟩ := av_cnt h2
   obtain ⟨_, _, hcell⟩ := World.cells?_some h1
   refine ⟨c, fun q y hy => ?_⟩
   have hq : q < 3 := by
    rcases Nat.lt_or_ge q 3 with h' | h'
    ·exact h'
    ·rw [List.getElem?_eq_none (by simpa using h')] at hy; cases hy
   have hcq := hcell q (by simpa using hq)
   rw [add_at, add_at, Nat.add_assoc] at hcq
   match q, hq, hy with
   | 0, _, hy => cases hy; exact ⟨_, hcq, .int _ _⟩
   | 1, _, hy => cases hy; exact ⟨_, hcq, .int _ _⟩
   | 2, _, hy => cases hy; exact ⟨_, hcq, .int _ _⟩
  obtain ⟨F, hF⟩ : ∃ F : Nat → Cnt, ∀ i, i < len → ∀ (q : Nat) (y : AV), (cntC (F i))[q]? = some y → ∃ u, W.cell? ⟨b, off + (i * 3 + q), none⟩ = some u ∧ VRel (cW W) y u :=
   ⟨fun i => if hi : i < len then (each i hi).choose else ⟨0, 0, 0⟩, fun i hi => by
    show ∀ (q : Nat) (y : AV), (cntC (if hi : i < len then (each i hi).choose else ⟨0, 0, 0⟩))[q]? = some y → _
    rw [dif_pos hi]; exact (each i hi).choose_spec⟩
  have hlen : ((List.range len).map F).length = len := by simp
  have hsize : len < 9223372036854775807 := by
   subst hxx
   have h8 : Tryz.prog.bytesOf 82 = 24 := by kernel_rfl
   have := hw ((((List.range len).map D).length + ((List.range (m - len)).map fun j => D (len + j)).length) * 24) (by
    simp only [DataW.weights, Tryz.underlying23, h8]
    exact List.mem_cons_self)
   rw [List.length_map, List.length_range] at this
   unfold reachBytes at this
   omega
  refine ⟨(List.range len).map F, ?_, by rw [hlen]; exact hsize⟩
  rw [hlen]
  refine cells_of hl fun j y hy => ?_
  obtain ⟨i, q, hi, rfl, _, e3⟩ := cnts_get _ j y hy
  rw [hlen] at hi
  have e4 : ((List.range len).map F)[i] = F i := by simp
  rw [e4] at e3
  exact hF i hi q y e3
end
theorem av_line {H : Type} {enc : TypeId × Value → H} {W : World} {base : Nat} {v : Value} {d : DataW H} {ps : List MemPlace} (h : DataW.Trod enc Tryz.prog W 0 (fun _ => true) true 25 v d ps) (hw : ∀ n ∈ d.weights Tryz.prog 25, n ≤ reachBytes) (hok : Value.okWide Tryz.prog W .any base 25 v) :
  ∃ l : LLine, VRel (cW W) (lineA l) v ∧ okLine l := by
 obtain ⟨fuel, h⟩ := h
 simp only [Value.okWide, Tryz.underlying25] at hok
 obtain ⟨cs, rfl, hsz, ts, hts, _, hrow⟩ := hok
 have hc : Tryz.prog.cellsOf 25 = 5 := by kernel_rfl
 rw [hc] at hsz
 obtain ⟨c0, c1, c2, c3, c4, rfl⟩ : ∃ c0 c1 c2 c3 c4, cs = #[c0, c1, c2, c3, c4] := by
  obtain ⟨l⟩ := cs
  match l, hsz with
  | [c0, c1, c2, c3, c4], _ => exact ⟨c0, c1, c2, c3, c4, rfl⟩
 have hts' : Go.Program.cellTypes Tryz.prog Tryz.prog.depth 25 = some [22, 3, 3, 3, 23] := by kernel_rfl
 rw [hts'] at hts
 cases hts
 have k0 : Cell.okWide Tryz.prog W .any base 22 c0 := by
  obtain ⟨u, e, hu⟩ := hrow 0 c0 rfl
  cases e; exact hu
 have k4 : Cell.okWide Tryz.prog W .any base 23 c4 := by
  obtain ⟨u, e, hu⟩ := hrow 4 c4 rfl
  cases e; exact hu
 obtain ⟨xs, n, _, hd, hl, hlen, hf⟩ := DataW.trod_struct Tryz.underlying25 h
 have hc3 : Tryz.prog.cellsOf 3 = 1 := by kernel_rfl
 have hc22 : Tryz.prog.cellsOf 22 = 1 := by kernel_rfl
 have hc23 : Tryz.prog.cellsOf 23 = 1 := by kernel_rfl
 match xs, hlen with
 | [y0, y1, y2, y3, y4], _ =>
  have h0 : DataW.trod enc Tryz.prog W 0 (fun _ => true) true n 22 (([c0, c1, c2, c3, c4].drop 0).take (Tryz.prog.cellsOf 22)) = some y0 := hf 0 _ rfl
  have h1 : DataW.trod enc Tryz.prog W 0 (fun _ => true) true n 3 (([c0, c1, c2, c3, c4].drop 1).take (Tryz.prog.cellsOf 3)) = some y1 := hf 1 _ rfl
  have h2 : DataW.trod enc Tryz.prog W 0 (fun _ => true) true n 3 (([c0, c1, c2, c3, c4].drop 2).take (Tryz.prog.cellsOf 3)) = some y2 := hf 2 _ rfl
  have h3 : DataW.trod enc Tryz.prog W 0 (fun _ => true) true n 3 (([c0, c1, c2, c3, c4].drop 3).take (Tryz.prog.cellsOf 3)) = some y3 := hf 3 _ rfl
  have h4 : DataW.trod enc Tryz.prog W 0 (fun _ => true) true n 23 (([c0, c1, c2, c3, c4].drop 4).take (Tryz.prog.cellsOf 23)) = some y4 := hf 4 _ rfl
  rw [hc3] at h1 h2 h3
  rw [hc22] at h0
  rw [hc23] at h4
  cases hd
  have hw' : ∀ (j : Nat) (t : TypeId) (d : DataW H), [22, 3, 3, 3, 23][j]? = some t → [y0.1, y1.1, y2.1, y3.1, y4.1][j]? = some d → ∀ n ∈ d.weights Tryz.prog t, n ≤ reachBytes := fun j t d ht hd n hn => by
   refine hw n ?_
   simp only [DataW.weights, Tryz.underlying25]
   exact DataW.weights_mem_each (ts := [22, 3, 3, 3, 23]) ht hd n hn
  obtain ⟨g, hg, og⟩ := av_ints h0 (hw' 0 _ _ rfl rfl) k0
  obtain ⟨p, rfl, _⟩ := av_int h1
  obtain ⟨q, rfl, _⟩ := av_int h2
  obtain ⟨r, rfl, _⟩ := av_int h3
  obtain ⟨cn, hcn, oc⟩ := av_cnts h4 (hw' 4 _ _ rfl rfl) k4
  refine ⟨⟨g, p, q, r, cn⟩, VRel.mk_agg ?_, og, oc⟩
  exact LRel.cons hg (LRel.cons (.int _ _) (LRel.cons (.int _ _) (LRel.cons (.int _ _) (LRel.cons hcn (LRel.nil _)))))
end Go.Av.Fx
end
section
namespace Go.Proofs.YtlagjjpbknpdkaaGreatDoor
open Go Go.Av Go.ChangeShapes Go.WideShapes Go.ChangeAt Go.RowKit
set_option maxRecDepth 100000
theorem own : ownKnob Tryz.prog.godebug = none := by kernel_rfl
theorem laidOut : laidOutB Tryz.prog = true := by kernel_rfl
def tabs : List (String × DataW Unit) := [("math/bits.deBruijn32tab", Rows.laid_math_bits_deBruijn32tab), ("math/bits.deBruijn64tab", Rows.laid_math_bits_deBruijn64tab), ("internal/strconv.uint64pow10", Rows.laid_internal_strconv_uint64pow10), ("unicode/utf8.acceptRanges", Rows.laid_unicode_utf8_acceptRanges), ("unicode/utf8.first", Rows.laid_unicode_utf8_first)]
theorem pow_data : (Rows.laid_internal_strconv_uint64pow10 : DataW Unit) = Lib.tabData .u64 Lib.pow10Tab := by kernel_rfl
theorem pow_name : Tryz.prog.globalNamed "internal/strconv.uint64pow10" = some 0 := by kernel_rfl
theorem pow_type : (Tryz.prog.globals[0]?).map (·.type) = some 232 := by kernel_rfl
theorem tab_ok {W : World} (h : laidMetH Tryz.prog tabs W) : Go.Av.Fx.TabOk W := by
 rw [MakeChecks.laidMetH_plain _ _ _ (by kernel_rfl)] at h
 obtain ⟨ps, ⟨_, _, _, _, _, _, _, _, _, _, ⟨_, _, _, _, _, _, _, _, _, _, ⟨g, t, cs, fuel, p, q, hg, ht, hv, hd, _, _⟩, _⟩, _⟩, _, _⟩ := h
 obtain rfl := Option.some.inj (pow_name.symm.trans hg)
 obtain rfl := Option.some.inj (pow_type.symm.trans ht)
 rw [pow_data] at hd
 have hcs := Lib.cells_of_tab (P := Tryz.prog) (t := 232) (e := 215) (n := 20) (k := .u64) (by kernel_rfl) (by kernel_rfl) (by kernel_rfl) (by kernel_rfl) hd
 have hlen : Lib.pow10Tab.length = 20 := by simp [Lib.pow10Tab]
 have hTab : Lib.TabIs Tryz.prog W "internal/strconv.uint64pow10" .u64 Lib.pow10Tab := by
  unfold Lib.TabIs
  rw [hv, ← hcs]
 refine ⟨fun i hi => ?_, ?_⟩
 ·have := hTab.cell pow_name i (by rw [hlen]; exact hi)
  rw [show (Lib.pow10Tab.getD i 0 : Int) = ((10 ^ i : Nat) : Int) by
   unfold Lib.pow10Tab
   rw [List.getD_eq_getElem?_getD, List.getElem?_map, List.getElem?_range hi]; rfl] at this
  exact this
 ·unfold World.var? at hv
  rw [pow_name, Option.bind_some] at hv
  split at hv
  ·rename_i cs' t' fr e
   cases hv
   refine ⟨t', ?_⟩
   unfold World.shape?
   show (match W.heap[0]? with
    | some (.cells c elem _) => some (elem, c.size)
    | _ => none) = _
   rw [e]
   have : cs.size = 20 := by
    have := congrArg List.length hcs
    simpa [hlen] using this
   simp [this]
  ·cases hv
end Go.Proofs.YtlagjjpbknpdkaaGreatDoor
end
section
set_option maxRecDepth 100000
namespace Go.Av.Fx
open Go Go.Av Go.Av.Tb Go.Proofs Go.ChangeShapes Go.WideShapes Go.RowKit
theorem cells_lone {v : Value} (h : ∀ cs, v ≠ .agg cs) : v.cells.toList = [v] := by
 cases v <;> first | rfl | exact absurd rfl (h _)
theorem av_intsA {H : Type} {enc : TypeId × Value → H} {W : World} {base : Nat} {v : Value} {d : DataW H} {ps : List MemPlace} (h : DataW.Trod enc Tryz.prog W 0 (fun _ => true) true 22 v d ps) (hw : ∀ n ∈ d.weights Tryz.prog 22, n ≤ reachBytes) (hok : Value.okWide Tryz.prog W .any base 22 v) :
  ∃ l : List Int, VRel (cW W) (sl l) v ∧ okL l.length := by
 obtain ⟨fuel, h⟩ := h
 simp only [Value.okWide, Tryz.underlying22] at hok
 rw [cells_lone (fun cs e => by subst e; simp [Tryz.underlying22, Cell.okWide, Cell.ok] at hok)] at h
 exact av_ints h hw hok
theorem av_truth {H : Type} {enc : TypeId × Value → H} {W : World} {base : Nat} {v : Value} {d : DataW H} {ps : List MemPlace} (h : DataW.Trod enc Tryz.prog W 0 (fun _ => true) true 96 v d ps) (hw : ∀ n ∈ d.weights Tryz.prog 96, n ≤ reachBytes) (hok : Value.okWide Tryz.prog W .any base 96 v) :
  ∃ t : Truth, VRel (cW W) (.agg (trC t)) v ∧ okL t.losses.length := by
 obtain ⟨fuel, h⟩ := h
 simp only [Value.okWide, Tryz.underlying96] at hok
 obtain ⟨cs, rfl, hsz, ts, hts, _, hrow⟩ := hok
 have hc : Tryz.prog.cellsOf 96 = 2 := by kernel_rfl
 rw [hc] at hsz
 obtain ⟨c0, c1, rfl⟩ : ∃ c0 c1, cs = #[c0, c1] := by
  obtain ⟨l⟩ := cs
  match l, hsz with
  | [c0, c1], _ => exact ⟨c0, c1, rfl⟩
 have hts' : Go.Program.cellTypes Tryz.prog Tryz.prog.depth 96 = some [3, 22] := by kernel_rfl
 rw [hts'] at hts
 cases hts
 have k1 : Cell.okWide Tryz.prog W .any base 22 c1 := by
  obtain ⟨u, e, hu⟩ := hrow 1 c1 rfl
  cases e; exact hu
 obtain ⟨xs, n, _, hd, hl, hlen, hf⟩ := DataW.trod_struct Tryz.underlying96 h
 have hc3 : Tryz.prog.cellsOf 3 = 1 := by kernel_rfl
 have hc22 : Tryz.prog.cellsOf 22 = 1 := by kernel_rfl
 match xs, hlen with
 | [y0, y1], _ =>
  have h0 : DataW.trod enc Tryz.prog W 0 (fun _ => true) true n 3 (([c0, c1].drop 0).take (Tryz.prog.cellsOf 3)) = some y0 := hf 0 _ rfl
  have h1 : DataW.trod enc Tryz.prog W 0 (fun _ => true) true n 22 (([c0, c1].drop 1).take (Tryz.prog.cellsOf 22)) = some y1 := hf 1 _ rfl
  rw [hc3] at h0
  rw [hc22] at h1
  cases hd
  have hw' : ∀ (j : Nat) (t : TypeId) (d : DataW H), [3, 22][j]? = some t → [y0.1, y1.1][j]? = some d → ∀ n ∈ d.weights Tryz.prog t, n ≤ reachBytes := fun j t d ht hd n hn => by
   refine hw n ?_
   simp only [DataW.weights, Tryz.underlying96]
   exact DataW.weights_mem_each (ts := [3, 22]) ht hd n hn
  obtain ⟨p, rfl, _⟩ := av_int h0
  obtain ⟨g, hg, og⟩ := av_ints h1 (hw' 1 _ _ rfl rfl) k1
  refine ⟨⟨p, g⟩, VRel.mk_agg ?_, og⟩
  exact LRel.cons (.int _ _) (LRel.cons hg (LRel.nil _))
end Go.Av.Fx
end

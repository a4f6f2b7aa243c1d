/- Part 20 of the proof. -/
import Derived.Test.YtlagjjpbknpdkaaGreatDoorVp19
import Derived.Test.YtlagjjpbknpdkaaGreatDoorVp8
import Derived.RecoverIn
set_option linter.all false
set_option linter.unusedVariables false
set_option linter.unusedSimpArgs false
set_option linter.unusedSectionVars false
open Nat (reduceEqDiff reduceAdd reduceLeDiff)
section
namespace Go.Av.Fx
open Go Go.Av Go.Av.Tb Go.Proofs
open Go.Fw (Sq ent Bd Mat)
structure Ch where
 point : Int
 left : Int
 deriving DecidableEq
abbrev chC (c : Ch) : List AV := [.int .i64 c.point, .int .i64 c.left]
attribute [go_sem] chC
def chs (L : List Ch) : List AV := L.flatMap chC
@[simp] theorem chs_bnd (n k : Nat) (L : List Ch) : bndL n k (chs L) = true := bndL_flatMap _ (fun _ => rfl) L
@[simp] theorem chs_len (L : List Ch) : (chs L).length = L.length * 2 := by
 induction L with
 | nil => rfl
 | cons t L ih => simp only [chs, List.flatMap_cons, List.length_append] at ih ⊢; rw [ih]; simp; omega
theorem chs_at : ∀ (L : List Ch) (k : Nat) (h : k < L.length), ((chs L).drop (k * 2)).take 2 = chC L[k]
 | t :: L, 0, h => by simp [chs]
 | t :: L, k + 1, h => by
  have := chs_at L k (by simpa using h)
  rw [show (k + 1) * 2 = 2 + k * 2 by omega, ← List.drop_drop]
  simpa [chs] using this
theorem Next1_pc (a b : Ch) : PC Tryz.prog 98 [.agg (chC a), .agg (chC b)] (.pure (.bool (decide (a.left < b.left)))) := by
 refine PC.of_empty (AC.run (E_ok _) mix Tryz.func98 m98 rfl rfl rfl (Nat.le_of_ble_eq_true rfl) ?_) (by simp [bndL, AV.bnd]) rfl
 simp only [go_sem, boxA, Tryz.f98, reduceEqDiff, Nat.reduceBEq, reduceAdd, reduceIte, reduceCtorEq, reduceLeDiff]
def better (o x : Ch) : Ch := if x.left < o.left then x else o
def bestL (L : List Ch) : Ch := L.foldl better (L.headD ⟨0, 0⟩)
theorem best_pc (L : List Ch) (hL : L.length ≤ 1000) (hne : 0 < L.length) : PC Tryz.prog 97 [.slice (chs L) L.length .unk, .func (.func 98) [] []] (.pure (.agg (chC (bestL L)))) := by
 refine PC.of_empty (AC.run (E_ok _) mix Tryz.func97 m97 rfl rfl rfl (Nat.le_of_ble_eq_true rfl) ?_) (by simp [bndL, AV.bnd]) rfl
 have z0 : (0 : Int) ≤ 0 ∧ (0 : Int) < (L.length : Int) := by omega
 have z1 : 0 * 2 + 2 ≤ (chs L).length := by rw [chs_len]; omega
 have z2 := chs_at L 0 hne
 have z3 : L.headD ⟨0, 0⟩ = L[0] := by
  cases L with
  | nil => simp at hne
  | cons t L => rfl
 rw [Nat.zero_mul] at z1 z2
 rw [List.drop_zero] at z2
 simp only [go_sem, boxA, z0, z1, z2, tn0, Nat.zero_mul, builtinA, reduceEqDiff, Nat.reduceBEq, reduceAdd, reduceIte, reduceCtorEq, reduceLeDiff]
 refine wc_forG L.length (fun k => [(1, .func (.func 98) [] []), (4, .ref 0 0), (5, .ref 1 0), (11, .slice (chs L) L.length .unk), (12, .int .i64 L.length), (13, .int .i64 k)])
  (fun k => ⟨[some (.cells [.int .i64 0, .int .i64 0]), some (.cells (chC ((L.take k).foldl better L[0])))], 0, []⟩) rfl rfl (fun k hk => ?_) ?_
 ·refine ⟨Nat.zero_le _, Nat.zero_le _, by simp [bndTS, AV.bnd, bndL], fun i B hB => ?_, fun t ht => by cases ht⟩
  match i, hB with
  | 0, hB => simp at hB; subst hB; rfl
  | 1, hB => simp at hB; subst hB; rfl
  | i + 2, hB => simp at hB
 intro k hk I hI
 by_cases h : k < L.length
 ·have h' : (k : Int) < L.length := by omega
  have h2 : 0 ≤ (k : Int) ∧ (k : Int) < L.length := by omega
  have h3 : k * 2 + 2 ≤ (chs L).length := by rw [chs_len]; omega
  have h5 := chs_at L k h
  have h6 : IntKind.i64.wrap ((k : Int) + 1) = (k + 1 : Nat) := wrap64 (by omega)
  have hI' := hI h
  rw [foldl_take _ _ _ _ h] at hI'
  generalize (L.take k).foldl better L[0] = o at *
  simp only [go_sem, l97_0, h', decide_true, h2, h3, h5, reduceEqDiff, Nat.reduceBEq, reduceAdd, reduceIte, reduceCtorEq, reduceLeDiff]
  refine cp n98 (Next1_pc L[k] o) (SubL.refl _) ?_
  unfold better at hI'
  by_cases g : L[k].left < o.left
  ·rw [if_pos g] at hI'
   simp only [go_sem, g, decide_true, h6, reduceEqDiff, Nat.reduceBEq, reduceAdd, reduceIte, reduceCtorEq, reduceLeDiff]
   exact hI' [_]
  ·rw [if_neg g] at hI'
   simp only [go_sem, g, decide_false, h6, reduceEqDiff, Nat.reduceBEq, reduceAdd, reduceIte, reduceCtorEq, reduceLeDiff]
   exact hI' [_]
 ·have h' : ¬ (k : Int) < L.length := by omega
  simp only [go_sem, l97_0, h', decide_false, Tryz.f97, reduceEqDiff, Nat.reduceBEq, reduceAdd, reduceIte, reduceCtorEq, reduceLeDiff]
  rw [List.take_of_length_le (by omega)]
  unfold bestL
  rw [z3]
def groH (cs : List Ch) : AV := match cs with
 | [] => .nilS
 | c :: cs => .slice (chs (c :: cs)) (cs.length + 1) (.tok cs.length)
theorem chs_app (a b : List Ch) : chs a ++ chs b = chs (a ++ b) := by simp [chs]
theorem groH_sub (cs : List Ch) : Sub (groH cs) (.slice (chs cs) cs.length .unk) := by
 cases cs with
 | nil => exact Sub.nil
 | cons c cs => exact Sub.unk _ _ _
theorem groH_bnd (n : Nat) (cs : List Ch) : (groH cs).bnd n cs.length = true := by
 cases cs with
 | nil => rfl
 | cons c cs => simp only [groH, AV.bnd, chs_bnd, Bool.true_and, List.length_cons]; simp
theorem sr_groH (cs : List Ch) (c : Ch) {q : Nat} (hq : cs.length = q) (hl : q ≤ 100000) {K : AV → St → Prop} {hK : Hold K} {h : List (Option Blk)} (next : K (groH (cs ++ [c])) ⟨h, q + 1, toksN (q + 1)⟩) :
  sr K hK (appendA T ⟨h, q, toksN q⟩ 126 (groH cs) (.slice [.int .i64 c.point, .int .i64 c.left] 1 .exact)) ⟨h, q, toksN q⟩ := by
 subst hq
 cases cs with
 | nil =>
  have : appendA T ⟨h, ([] : List Ch).length, toksN ([] : List Ch).length⟩ 126 (groH []) (.slice [.int .i64 c.point, .int .i64 c.left] 1 .exact) = some (.tok none (fun j => .slice [.int .i64 c.point, .int .i64 c.left] 1 (.tok j))) := rfl
  rw [this, sr_tok]; exact next
 | cons d cs =>
  show sr K hK (appendA T ⟨h, (d :: cs).length, toksN (d :: cs).length⟩ 126 (.slice (chs (d :: cs)) (cs.length + 1) (.tok cs.length)) _) _
  simp only [List.length_cons] at hl
  rw [app_gen (e := 128) (ei := ti128) (lx := [.int .i64 c.point, .int .i64 c.left]) (nx := 1) rfl rfl (by decide) rfl (by decide) rfl (by show (cs.length + 1 + 1) * 16 ≤ _; omega) (by omega) (by rw [chs_len]; simp [ti128])]
  rw [sr_tok_some]
  refine ⟨List.mem_cons_self, ?_⟩
  have : killTok (toksN (cs.length + 1)) (some cs.length) = [] := by simp [killTok, toksN]
  show K (.slice (chs (d :: cs) ++ [.int .i64 c.point, .int .i64 c.left]) (cs.length + 1 + 1) (.tok (cs.length + 1))) ⟨h, cs.length + 1 + 1, (cs.length + 1) :: killTok (toksN (cs.length + 1)) (some cs.length)⟩
  rw [this, show chs (d :: cs) ++ [.int .i64 c.point, .int .i64 c.left] = chs (d :: cs ++ [c]) by rw [← chs_app]; simp [chs]]
  have e : groH (d :: cs ++ [c]) = .slice (chs (d :: cs ++ [c])) (cs.length + 1 + 1) (.tok (cs.length + 1)) := by simp [groH]
  rw [← e]; exact next
def worstStep (l : LLine) (L : List Theft) (p : Nat) (off : Int) (c : Int) (read : Nat) : Int := if susL l L p read off > c then susL l L p read off else c
def worstL (l : LLine) (L : List Theft) (p : Nat) (off : Int) : Int := (List.range 401).foldl (worstStep l L p off) 0
def choices (l : LLine) (L : List Theft) (off : Int) (m : Nat) : List Ch := (List.range m).map fun (p : Nat) => ⟨p, worstL l L p off⟩
def nextL (l : LLine) (off : Int) : Ch := bestL (choices l (theftsL l) off (l.gives.length + 1))
def nextA (l : LLine) (off : Int) : AV := if askE l (inB off 0 20) = 0 then .tuple [.int .i64 (nextL l off).point, .int .i64 (nextL l off).left, .int .i64 0] else .tuple [.int .i64 0, .int .i64 0, .int .i64 (askE l (inB off 0 20))]
theorem Next_pc (l : LLine) (ok : okLine l) (off : Int) : PC Tryz.prog 43 [lineA l, .int .i64 off] (.pure (nextA l off)) := by
 refine PC.of_empty (AC.run (E_ok _) mix Tryz.func43 m43 rfl rfl rfl (Nat.le_of_ble_eq_true rfl) ?_) (by simp [bndL, AV.bnd]) (by unfold nextA; split <;> rfl)
 simp only [go_sem, boxA, reduceEqDiff, Nat.reduceBEq, reduceAdd, reduceIte, reduceCtorEq, reduceLeDiff]
 refine qp n95 (isOff_pc off) (SubL.refl _) ?_
 rw [show (decide (off ≥ 0) && decide (off ≤ (20 : Int))) = inB off 0 20 from rfl]
 generalize hf : inB off 0 20 = fine
 simp only [go_sem, reduceEqDiff, Nat.reduceBEq, reduceAdd, reduceIte, reduceCtorEq, reduceLeDiff]
 refine qp n75 (asked_pc l ok fine) (SubL.refl _) ?_
 cases h : isLineB l
 ·simp only [go_sem, askedA, h, extractA, Tryz.f43, reduceEqDiff, Nat.reduceBEq, reduceAdd, reduceIte, reduceCtorEq, reduceLeDiff]
  simp only [nextA, askE, h, hf]; rfl
 cases fine
 ·simp only [go_sem, askedA, h, extractA, Tryz.f43, reduceEqDiff, Nat.reduceBEq, reduceAdd, reduceIte, reduceCtorEq, reduceLeDiff]
  simp only [nextA, askE, h, hf]; rfl
 cases hp : possB l
 ·simp only [go_sem, askedA, h, hp, extractA, Tryz.f43, reduceEqDiff, Nat.reduceBEq, reduceAdd, reduceIte, reduceCtorEq, reduceLeDiff]
  simp only [nextA, askE, h, hf, hp]; rfl
 have hln := isLine_iff.1 h
 have hpts := hln.pts
 have e1 : nextA l off = .tuple [.int .i64 (nextL l off).point, .int .i64 (nextL l off).left, .int .i64 0] := by simp only [nextA, askE, h, hp, hf]; rfl
 rw [e1]
 have w0 : IntKind.i64.wrap ((l.gives.length : Int) + 1) = (l.gives.length + 1 : Nat) := wrap64 (by omega)
 unfold nextL
 have hsus := fun (p : Nat) (hp : p ≤ l.gives.length) (read : Nat) (hr : read ≤ 400) => suspects_pc l (by omega) (theftsL l) (by have := theftsL_len hln; omega) theft_sq (fun t ht => by have := theft_len ht; omega) p hp read off ⟨by omega, by omega⟩ (inB_iff.1 hf)
 simp only [go_sem, askedA, h, hp, extractA, builtinA, w0, reduceEqDiff, Nat.reduceBEq, reduceAdd, reduceIte, reduceCtorEq, reduceLeDiff]
 generalize theftsL l = L at *
 refine wc_forG (l.gives.length + 1) (fun k => [(1, .int .i64 off), (7, .ref 1 0), (9, groH (choices l L off k)), (27, .int .i64 (l.gives.length + 1 : Nat)), (28, .int .i64 k)])
  (fun k => ⟨[some (.cells (lineC l)), some (.cells (lnC l L))], k, toksN k⟩) rfl rfl (fun k hk => ?_) ?_
 ·have e : (choices l L off k).length = k := by simp [choices]
  have e2 := groH_bnd 2 (choices l L off k)
  rw [e] at e2
  refine ⟨Nat.zero_le _, Nat.zero_le _, by simp [bndTS, AV.bnd, e2], fun i B hB => ?_, fun t ht => toksN_lt ht⟩
  match i, hB with
  | 0, hB => simp at hB; subst hB; simp [Blk.bnd, bndL, AV.bnd]
  | 1, hB => simp at hB; subst hB; simp [Blk.bnd, bndL, AV.bnd]
  | i + 2, hB => simp at hB
 intro k hk I hI
 have ek : (choices l L off k).length = k := by simp [choices]
 by_cases h' : k < l.gives.length + 1
 ·have h1 : (k : Int) < (l.gives.length + 1 : Nat) := by omega
  have h6 : IntKind.i64.wrap ((k : Int) + 1) = (k + 1 : Nat) := wrap64 (by omega)
  have hI' := hI h'
  have ec : choices l L off (k + 1) = choices l L off k ++ [⟨(k : Int), worstL l L k off⟩] := by unfold choices; rw [List.range_succ, List.map_append]; rfl
  rw [ec] at hI'
  simp only [go_sem, l43_0, h1, decide_true, reduceEqDiff, Nat.reduceBEq, reduceAdd, reduceIte, reduceCtorEq, reduceLeDiff]
  refine wc_for 401 (fun j => [(1, .int .i64 off), (7, .ref 1 0), (9, groH (choices l L off k)), (27, .int .i64 (l.gives.length + 1 : Nat)), (28, .int .i64 k), (10, .int .i64 k), (11, .ref 2 0), (33, .int .i64 j)])
   (fun j => ⟨[some (.cells (lineC l)), some (.cells (lnC l L)), some (.cells [.int .i64 k, .int .i64 ((List.range j).foldl (worstStep l L k off) 0)])], k, toksN k⟩) rfl rfl ?_
  intro j hj I2 hI2
  by_cases hj' : j < 401
  ·have j1 : (j : Int) < 401 := by omega
   have j6 : IntKind.i64.wrap ((j : Int) + 1) = (j + 1 : Nat) := wrap64 (by omega)
   have hI2' := hI2 hj'
   rw [List.range_succ, List.foldl_append] at hI2'
   simp only [List.foldl_cons, List.foldl_nil] at hI2'
   generalize (List.range j).foldl (worstStep l L k off) 0 = c at *
   unfold worstStep at hI2'
   simp only [go_sem, l43_1, j1, decide_true, reduceEqDiff, Nat.reduceBEq, reduceAdd, reduceIte, reduceCtorEq, reduceLeDiff]
   refine qp n96 (hsus k (by omega) j (by omega)) (SubL.refl _) ?_
   simp only [go_sem, builtinA, maxsA, j6, reduceEqDiff, Nat.reduceBEq, reduceAdd, reduceIte, reduceCtorEq, reduceLeDiff]
   exact hI2'
  ·have j1 : ¬ (j : Int) < 401 := by omega
   have hj4 : j = 401 := by omega
   have ew : (List.range j).foldl (worstStep l L k off) 0 = worstL l L k off := by rw [hj4]; unfold worstL; exact Eq.refl _
   rw [ew]
   generalize worstL l L k off = wv at *
   simp only [go_sem, l43_1, j1, decide_false, reduceEqDiff, Nat.reduceBEq, reduceAdd, reduceIte, reduceCtorEq, reduceLeDiff]
   refine sr_groH (choices l L off k) ⟨(k : Int), wv⟩ ek (by omega) ?_
   simp only [go_sem, h6, reduceEqDiff, Nat.reduceBEq, reduceAdd, reduceIte, reduceCtorEq, reduceLeDiff]
   exact hI' [_]
 ·have h1 : ¬ (k : Int) < (l.gives.length + 1 : Nat) := by omega
  simp only [go_sem, l43_0, h1, decide_false, reduceEqDiff, Nat.reduceBEq, reduceAdd, reduceIte, reduceCtorEq, reduceLeDiff]
  refine cp n97 (best_pc (choices l L off k) (by omega) (by omega)) (SubL.cons (by rw [ek]; exact (by have := groH_sub (choices l L off k); rw [ek] at this; exact this)) (SubL.refl _)) ?_
  rw [show k = l.gives.length + 1 by omega]
  simp only [go_sem, Tryz.f43, reduceEqDiff, Nat.reduceBEq, reduceAdd, reduceIte, reduceCtorEq, reduceLeDiff]
end Go.Av.Fx
end
section
namespace Go.Av.Fx
open Go Go.Av Go.Proofs
open Go.Fw (Sq ent Bd Mat Tells Good)
structure Lw (l : LLine) : Prop where
 pts : 1 ≤ l.gives.length ∧ l.gives.length ≤ 5
 cts : l.counts.length ≤ 1000
 least : 1 ≤ l.least ∧ l.least ≤ l.most
 most : l.most ≤ 60
 taps : 0 ≤ l.taps ∧ l.taps ≤ 2
 gives : ∀ g ∈ l.gives, 0 ≤ g ∧ g ≤ 60
 counts : ∀ c ∈ l.counts, (0 ≤ c.point ∧ c.point ≤ l.gives.length) ∧ 0 ≤ c.low ∧ c.low ≤ c.high ∧ c.high ≤ 400
theorem Ln.lw {l : LLine} (h : Ln l) : Lw l := ⟨h.pts, by have := h.cts; omega, h.least, h.most, h.taps, h.gives, h.counts⟩
theorem Lw.ln {l : LLine} (h : Lw l) (hc : l.counts.length ≤ 8) : Ln l := ⟨h.pts, hc, h.least, h.most, h.taps, h.gives, h.counts⟩
theorem Lw.give {l : LLine} (h : Lw l) (i : Nat) : 0 ≤ l.gives.getD i 0 ∧ l.gives.getD i 0 ≤ 60 := by
 rw [List.getD_eq_getElem?_getD]
 cases hx : l.gives[i]? with
 | none => simp
 | some g => exact h.gives g (List.mem_of_getElem? hx)
theorem Lw.low {l : LLine} (h : Lw l) (set : List Int) (i : Nat) : 0 ≤ lowL l set i ∧ lowL l set i ≤ highL l set i ∧ highL l set i ≤ 120 := by
 have := h.give i; have := h.least; have := h.most
 unfold lowL highL; split <;> omega
theorem lineB_okw {l : LLine} (h : Lw l) (set : List Int) {b dry n : Nat} (hb : b + l.gives.length < n) (hd : dry < n) (hne : dry < b ∨ b + l.gives.length < dry) : ∀ c ∈ lineB l set b dry, c.Ok 400 400 n := by
 intro c hc
 unfold lineB at hc
 simp only [List.mem_cons, List.mem_append, List.mem_flatMap, List.mem_map, List.mem_range, List.not_mem_nil, or_false] at hc
 rcases hc with rfl | (⟨i, hi, rfl | rfl⟩ | ⟨p, hp, rfl⟩) | ⟨x, hx, rfl | rfl⟩
 ·exact ⟨hd, by show b < n; omega, by show dry ≠ b; omega, by show (-400 : Int) ≤ 400; decide, by show (400 : Int) ≤ 400; decide⟩
 ·have := h.low set i
  exact ⟨by show b + i < n; omega, by show b + i + 1 < n; omega, by show b + i ≠ b + i + 1; omega, by show -400 ≤ -lowL l set i; omega, by show -lowL l set i ≤ 400; omega⟩
 ·have := h.low set i
  exact ⟨by show b + i + 1 < n; omega, by show b + i < n; omega, by show b + i + 1 ≠ b + i; omega, by show -400 ≤ highL l set i; omega, by show highL l set i ≤ 400; omega⟩
 ·exact ⟨by show b + p < n; omega, hd, by show b + p ≠ dry; omega, by show (-400 : Int) ≤ 0; decide, by show (0 : Int) ≤ 400; decide⟩
 ·have := h.counts x hx
  exact ⟨hd, by show b + x.point.toNat < n; omega, by show dry ≠ b + x.point.toNat; omega, by show -400 ≤ x.high; omega, by show x.high ≤ 400; omega⟩
 ·have := h.counts x hx
  exact ⟨by show b + x.point.toNat < n; omega, hd, by show b + x.point.toNat ≠ dry; omega, by show -400 ≤ -x.low; omega, by show -x.low ≤ 400; omega⟩
structure Fl (l : LLine) (s : List Int) (f : Nat → Int) : Prop where
 pos : ∀ p, p ≤ l.gives.length → 0 ≤ f p
 top : f 0 ≤ 400
 step : ∀ i, i < l.gives.length → lowL l s i ≤ f i - f (i + 1) ∧ f i - f (i + 1) ≤ highL l s i
 cnt : ∀ c ∈ l.counts, c.low ≤ f c.point.toNat ∧ f c.point.toNat ≤ c.high
theorem Fl.congr {l : LLine} (h : Lw l) {s : List Int} {f g : Nat → Int} (e : ∀ p, p ≤ l.gives.length → f p = g p) (hf : Fl l s f) : Fl l s g := by
 refine ⟨fun p hp => by rw [← e p hp]; exact hf.pos p hp, by rw [← e 0 (by omega)]; exact hf.top, fun i hi => ?_, fun c hc => ?_⟩
 ·rw [← e i (by omega), ← e (i + 1) (by omega)]; exact hf.step i hi
 ·have := h.counts c hc
  rw [← e c.point.toNat (by omega)]; exact hf.cnt c hc
theorem Fl.down {l : LLine} (h : Lw l) {s : List Int} {f : Nat → Int} (hf : Fl l s f) : ∀ {b a : Nat}, a ≤ b → b ≤ l.gives.length → f b ≤ f a
 | 0, a, hab, hb => by rw [show a = 0 by omega]; exact Int.le_refl _
 | b + 1, a, hab, hb => by
  by_cases e : a = b + 1
  ·rw [e]; exact Int.le_refl _
  ·have h1 := Fl.down h hf (b := b) (a := a) (by omega) (by omega)
   have h2 := hf.step b (by omega)
   have h3 := h.low s b
   omega
theorem Fl.bd {l : LLine} (h : Lw l) {s : List Int} {f : Nat → Int} (hf : Fl l s f) {p : Nat} (hp : p ≤ l.gives.length) : 0 ≤ f p ∧ f p ≤ 400 :=
 ⟨hf.pos p hp, Int.le_trans (hf.down h (Nat.zero_le p) hp) hf.top⟩
theorem mem_lineB {l : LLine} {s : List Int} {b dry : Nat} {c : Bd} : c ∈ lineB l s b dry ↔
  c = ⟨dry, b, 400⟩ ∨ (∃ i, i < l.gives.length ∧ (c = ⟨b + i, b + i + 1, -lowL l s i⟩ ∨ c = ⟨b + i + 1, b + i, highL l s i⟩)) ∨ (∃ p, p < l.gives.length + 1 ∧ c = ⟨b + p, dry, 0⟩) ∨
  ∃ k, k ∈ l.counts ∧ (c = ⟨dry, b + k.point.toNat, k.high⟩ ∨ c = ⟨b + k.point.toNat, dry, -k.low⟩) := by
 unfold lineB
 simp only [List.mem_cons, List.mem_append, List.mem_flatMap, List.mem_map, List.mem_range, List.not_mem_nil, or_false]
 constructor
 ·rintro (h | (h | ⟨p, hp, h⟩) | h)
  ·exact .inl h
  ·exact .inr (.inl h)
  ·exact .inr (.inr (.inl ⟨p, hp, h.symm⟩))
  ·exact .inr (.inr (.inr h))
 ·rintro (h | h | ⟨p, hp, h⟩ | h)
  ·exact .inl h
  ·exact .inr (.inl (.inl h))
  ·exact .inr (.inl (.inr ⟨p, hp, h.symm⟩))
  ·exact .inr (.inr h)
theorem lineB_holds (l : LLine) (s : List Int) (b dry : Nat) (x : Nat → Int) : (∀ c ∈ lineB l s b dry, c.holds x) ↔ Fl l s fun p => x (b + p) - x dry := by
 constructor
 ·intro hx
  refine ⟨fun p hp => ?_, ?_, fun i hi => ?_, fun c hc => ?_⟩
  ·have : x dry - x (b + p) ≤ 0 := hx _ (mem_lineB.2 (.inr (.inr (.inl ⟨p, by omega, rfl⟩))))
   show 0 ≤ x (b + p) - x dry; omega
  ·have : x b - x dry ≤ 400 := hx _ (mem_lineB.2 (.inl rfl))
   show x (b + 0) - x dry ≤ 400; rw [Nat.add_zero]; omega
  ·have h1 : x (b + i + 1) - x (b + i) ≤ -lowL l s i := hx _ (mem_lineB.2 (.inr (.inl ⟨i, hi, .inl rfl⟩)))
   have h2 : x (b + i) - x (b + i + 1) ≤ highL l s i := hx _ (mem_lineB.2 (.inr (.inl ⟨i, hi, .inr rfl⟩)))
   show lowL l s i ≤ x (b + i) - x dry - (x (b + (i + 1)) - x dry) ∧ x (b + i) - x dry - (x (b + (i + 1)) - x dry) ≤ highL l s i
   rw [← Nat.add_assoc]; omega
  ·have h1 : x (b + c.point.toNat) - x dry ≤ c.high := hx _ (mem_lineB.2 (.inr (.inr (.inr ⟨c, hc, .inl rfl⟩))))
   have h2 : x dry - x (b + c.point.toNat) ≤ -c.low := hx _ (mem_lineB.2 (.inr (.inr (.inr ⟨c, hc, .inr rfl⟩))))
   show c.low ≤ x (b + c.point.toNat) - x dry ∧ x (b + c.point.toNat) - x dry ≤ c.high
   omega
 ·intro hf c hc
  rcases mem_lineB.1 hc with rfl | ⟨i, hi, rfl | rfl⟩ | ⟨p, hp, rfl⟩ | ⟨k, hk, rfl | rfl⟩
  ·have h1 : x (b + 0) - x dry ≤ 400 := hf.top
   show x b - x dry ≤ 400; rw [Nat.add_zero] at h1; exact h1
  ·have h1 : lowL l s i ≤ x (b + i) - x dry - (x (b + (i + 1)) - x dry) := (hf.step i hi).1
   show x (b + i + 1) - x (b + i) ≤ -lowL l s i
   rw [← Nat.add_assoc] at h1; omega
  ·have h1 : x (b + i) - x dry - (x (b + (i + 1)) - x dry) ≤ highL l s i := (hf.step i hi).2
   show x (b + i) - x (b + i + 1) ≤ highL l s i
   rw [← Nat.add_assoc] at h1; omega
  ·have h1 : 0 ≤ x (b + p) - x dry := hf.pos p (by omega)
   show x dry - x (b + p) ≤ 0; omega
  ·exact (hf.cnt k hk).2
  ·have h1 : k.low ≤ x (b + k.point.toNat) - x dry := (hf.cnt k hk).1
   show x dry - x (b + k.point.toNat) ≤ -k.low; omega
theorem far_pos : (0 : Int) < far := by decide
theorem base_good (n : Nat) : Good far 400 400 n (Fw.base far n) := Fw.Good.base (by decide) (by decide) (by decide)
theorem closeC_none {n : Nat} {cs : List Bd} (hcs : ∀ c ∈ cs, c.Ok 400 400 n) (h : closeC n cs = none) (x : Nat → Int) : ¬ ∀ c ∈ cs, c.holds x := fun hx =>
 Fw.closed_none ((base_good n).fold hcs).sq far_pos h x ((Fw.obeys_fold (by decide) x (base_good n) hcs).2 ⟨Fw.obeys_base _ _ _, hx⟩)
theorem Tells.imp {n : Nat} {P Q : (Nat → Int) → Prop} {V : Mat} (h : Tells n P V) (e : ∀ x, P x ↔ Q x) : Tells n Q V :=
 ⟨fun x hx => h.most x ((e x).2 hx), fun a ha => (e _).1 (h.met a ha), h.diag⟩
theorem pow_far {n : Nat} (hn : n ≤ 13) : (2 : Int) ^ (n + 1) * 400 < far := by
 have h1 : (2 : Int) ^ (n + 1) ≤ 2 ^ 14 := Fw.pow_le (by decide) _ (by omega)
 have h2 : (2 : Int) ^ 14 = 16384 := by decide
 have h3 : far = 1099511627776 := rfl
 omega
theorem closeC_tells {n : Nat} (hn : n ≤ 13) {cs : List Bd} {V : Mat} (hcs : ∀ c ∈ cs, c.Ok 400 400 n) (h : closeC n cs = some V) (hfin : ∀ i j, i < n → j < n → ent V i j < far) : Tells n (fun x => ∀ c ∈ cs, c.holds x) V :=
 Tells.imp (Fw.closed_tells ((base_good n).fold hcs) (by decide) (pow_far hn) h hfin) fun x =>
  (Fw.obeys_fold (by decide) x (base_good n) hcs).trans ⟨fun h => h.2, fun h => ⟨Fw.obeys_base _ _ _, h⟩⟩
theorem closeC_mem {n : Nat} (hn : n ≤ 13) {cs : List Bd} {V : Mat} (hcs : ∀ c ∈ cs, c.Ok 400 400 n) (h : closeC n cs = some V) {c : Bd} (hc : c ∈ cs) : ent V c.a c.b < far :=
 Fw.fin_mem (base_good n) (by decide) (pow_far hn) hcs (by decide) h hc
theorem closeC_trans {n : Nat} (hn : n ≤ 13) {cs : List Bd} {V : Mat} (hcs : ∀ c ∈ cs, c.Ok 400 400 n) (h : closeC n cs = some V) {i k j : Nat} (hi : i < n) (hk : k < n) (hj : j < n) (h1 : ent V i k < far) (h2 : ent V k j < far) : ent V i j < far :=
 Fw.fin_trans ((base_good n).fold hcs) (by decide) (pow_far hn) h hi hk hj h1 h2
theorem line_fin {n : Nat} (hn : n ≤ 13) {cs : List Bd} {V : Mat} (hcs : ∀ c ∈ cs, c.Ok 400 400 n) (h : closeC n cs = some V) {l : LLine} {s : List Int} {b dry : Nat} (hb : b + l.gives.length < n) (hd : dry < n) (hsub : ∀ c ∈ lineB l s b dry, c ∈ cs) :
  ∀ p, p ≤ l.gives.length → ent V dry (b + p) < far ∧ ent V (b + p) dry < far
 | 0, hp => ⟨closeC_mem hn hcs h (c := ⟨dry, b, 400⟩) (hsub _ (mem_lineB.2 (.inl rfl))), closeC_mem hn hcs h (c := ⟨b + 0, dry, 0⟩) (hsub _ (mem_lineB.2 (.inr (.inr (.inl ⟨0, by omega, rfl⟩)))))⟩
 | p + 1, hp => by
  refine ⟨?_, closeC_mem hn hcs h (c := ⟨b + (p + 1), dry, 0⟩) (hsub _ (mem_lineB.2 (.inr (.inr (.inl ⟨p + 1, by omega, rfl⟩)))))⟩
  have h1 := (line_fin hn hcs h hb hd hsub p (by omega)).1
  have h2 := closeC_mem hn hcs h (c := ⟨b + p, b + p + 1, -lowL l s p⟩) (hsub _ (mem_lineB.2 (.inr (.inl ⟨p, by omega, .inl rfl⟩))))
  exact closeC_trans hn hcs h hd (by omega) (by omega) h1 h2
theorem expl_tells {l : LLine} (h : Lw l) {s : List Int} {W : Mat} (hW : explM l s = some W) : (s.length : Int) ≤ l.taps ∧ Tells (l.gives.length + 2) (fun x => Fl l s fun p => x p - x (l.gives.length + 1)) W := by
 have hp := h.pts
 unfold explM at hW
 split at hW
 ·cases hW
 rename_i ht
 refine ⟨by omega, ?_⟩
 have hok := lineB_okw h s (b := 0) (dry := l.gives.length + 1) (n := l.gives.length + 2) (by omega) (by omega) (.inr (by omega))
 have fin := line_fin (n := l.gives.length + 2) (by omega) hok hW (b := 0) (dry := l.gives.length + 1) (by omega) (by omega) fun c hc => hc
 simp only [Nat.zero_add] at fin
 have e : ∀ i, i < l.gives.length + 2 → ent W (l.gives.length + 1) i < far ∧ ent W i (l.gives.length + 1) < far := fun i hi => by
  by_cases g : i = l.gives.length + 1
  ·subst g
   have h1 := fin 0 (Nat.zero_le _)
   exact ⟨closeC_trans (by omega) hok hW (by omega) (show 0 < l.gives.length + 2 by omega) (by omega) h1.1 h1.2, closeC_trans (by omega) hok hW (by omega) (show 0 < l.gives.length + 2 by omega) (by omega) h1.1 h1.2⟩
  ·exact fin i (by omega)
 refine Tells.imp (closeC_tells (by omega) hok hW fun i j hi hj => closeC_trans (by omega) hok hW hi (show l.gives.length + 1 < l.gives.length + 2 by omega) hj (e i hi).2 (e j hj).1) fun x => ?_
 have := lineB_holds l s 0 (l.gives.length + 1) x
 simp only [Nat.zero_add] at this
 exact this
theorem expl_none {l : LLine} (h : Lw l) {s : List Int} (hW : explM l s = none) (ht : (s.length : Int) ≤ l.taps) (f : Nat → Int) : ¬ Fl l s f := by
 intro hf
 have hp := h.pts
 unfold explM at hW
 rw [if_neg (by omega)] at hW
 have hok := lineB_okw h s (b := 0) (dry := l.gives.length + 1) (n := l.gives.length + 2) (by omega) (by omega) (.inr (by omega))
 refine closeC_none hok hW (fun p => if p ≤ l.gives.length then f p else 0) ((lineB_holds l s 0 (l.gives.length + 1) _).2 (hf.congr h fun p hp => ?_))
 simp only [Nat.zero_add]
 rw [if_pos hp, if_neg (by omega)]; omega
theorem expl_iff {l : LLine} (h : Lw l) (s : List Int) : (explM l s).isSome = true ↔ (s.length : Int) ≤ l.taps ∧ ∃ f, Fl l s f := by
 cases hW : explM l s with
 | none => exact ⟨fun h => (by cases h), fun ⟨ht, f, hf⟩ => (expl_none h hW ht f hf).elim⟩
 | some W =>
  have := expl_tells h hW
  exact ⟨fun _ => ⟨this.1, _, this.2.met 0 (by omega)⟩, fun _ => rfl⟩
def Mx (P : (Nat → Int) → Prop) (g : (Nat → Int) → Int) (v : Int) : Prop := (∀ f, P f → g f ≤ v) ∧ ∃ f, P f ∧ g f = v
theorem Mx.imp {P : (Nat → Int) → Prop} {g g' : (Nat → Int) → Int} {v : Int} (h : Mx P g v) (e : ∀ f, P f → g f = g' f) : Mx P g' v := by
 obtain ⟨f, hf, e1⟩ := h.2
 exact ⟨fun f hf => by rw [← e f hf]; exact h.1 f hf, f, hf, by rw [← e f hf]; exact e1⟩
def ex (l : LLine) (f : Nat → Int) (p : Nat) : Int := if p ≤ l.gives.length then f p else 0
theorem thefts_fold (l : LLine) : ∀ (p : List (List Int)) (L : List Theft), p.foldl (addT l) L = L ++ p.filterMap fun s => (explM l s).map fun W => (s, W)
 | [], L => by simp
 | s :: p, L => by
  rw [List.foldl_cons, thefts_fold l p]
  unfold addT
  cases hW : explM l s with
  | none => simp [hW]
  | some W => simp [hW]
theorem thefts_eq (l : LLine) : theftsL l = (setsL l.gives.length).filterMap fun s => (explM l s).map fun W => (s, W) := by
 unfold theftsL; rw [thefts_fold]; rfl
theorem setsOut_eq (l : LLine) : setsOut l = (setsL l.gives.length).filter fun s => (explM l s).isSome := by
 unfold setsOut
 rw [thefts_eq]
 induction setsL l.gives.length with
 | nil => rfl
 | cons s p ih =>
  cases hW : explM l s with
  | none => simp [hW, ih]
  | some W => simp [hW, ih]
theorem mem_setsOut {l : LLine} (h : Lw l) {s : List Int} : s ∈ setsOut l ↔ s ∈ setsL l.gives.length ∧ (s.length : Int) ≤ l.taps ∧ ∃ f, Fl l s f := by
 rw [setsOut_eq, List.mem_filter, expl_iff h]
theorem setsOut_len (l : LLine) : (setsOut l).length = (theftsL l).length := by simp [setsOut]
end Go.Av.Fx
end
section
namespace Go.Av.Fx
open Go Go.Av Go.Proofs
open Go.Fw (Sq ent Bd Mat Tells Good)
end Go.Av.Fx
end
section
namespace Go.Av.Fx
open Go Go.Av Go.Proofs
open Go.Fw (Sq ent Bd Mat Tells Good)
def Near (l : LLine) (a b : List Int) (pts : List Int) (off : Int) : Prop :=
 ∃ f g, Fl l a f ∧ Fl l b g ∧ ∀ p ∈ pts, g p.toNat - f p.toNat ≤ 2 * off ∧ f p.toNat - g p.toNat ≤ 2 * off
theorem Near.swap {l : LLine} {a b : List Int} {pts : List Int} {off : Int} : Near l a b pts off → Near l b a pts off :=
 fun ⟨f, g, hf, hg, h⟩ => ⟨g, f, hg, hf, fun p hp => ⟨(h p hp).2, (h p hp).1⟩⟩
abbrev PtsIn (l : LLine) (pts : List Int) : Prop := ∀ p ∈ pts, 0 ≤ p ∧ p ≤ l.gives.length
theorem alike_ok {l : LLine} (h : Lw l) (a b : List Int) {pts : List Int} (hp : PtsIn l pts) {off : Int} (ho : 0 ≤ off ∧ off ≤ 20) : ∀ c ∈ alikeCs l a b pts off, c.Ok 400 400 (2 * (l.gives.length + 1) + 1) := by
 intro c hc
 unfold alikeCs at hc
 rw [List.mem_append, List.mem_append, List.mem_flatMap] at hc
 rcases hc with (hc | hc) | ⟨p, hp1, hc⟩
 ·exact lineB_okw h a (by omega) (by omega) (.inr (by omega)) c hc
 ·exact lineB_okw h b (by omega) (by omega) (.inr (by omega)) c hc
 ·have := hp p hp1
  simp only [pairB, List.mem_cons, List.not_mem_nil, or_false] at hc
  rcases hc with rfl | rfl
  ·exact ⟨by show p.toNat < _; omega, by show l.gives.length + 1 + p.toNat < _; omega, by show p.toNat ≠ l.gives.length + 1 + p.toNat; omega, by show -400 ≤ 2 * off; omega, by show 2 * off ≤ 400; omega⟩
  ·exact ⟨by show l.gives.length + 1 + p.toNat < _; omega, by show p.toNat < _; omega, by show l.gives.length + 1 + p.toNat ≠ p.toNat; omega, by show -400 ≤ 2 * off; omega, by show 2 * off ≤ 400; omega⟩
theorem alike_holds (l : LLine) (a b pts : List Int) (off : Int) (x : Nat → Int) : (∀ c ∈ alikeCs l a b pts off, c.holds x) ↔
  Fl l a (fun p => x (0 + p) - x (2 * (l.gives.length + 1))) ∧ Fl l b (fun p => x (l.gives.length + 1 + p) - x (2 * (l.gives.length + 1))) ∧ ∀ p ∈ pts, x (l.gives.length + 1 + p.toNat) - x p.toNat ≤ 2 * off ∧ x p.toNat - x (l.gives.length + 1 + p.toNat) ≤ 2 * off := by
 rw [← lineB_holds l a 0, ← lineB_holds l b (l.gives.length + 1)]
 unfold alikeCs
 constructor
 ·intro hx
  refine ⟨fun c hc => hx c (List.mem_append_left _ (List.mem_append_left _ hc)), fun c hc => hx c (List.mem_append_left _ (List.mem_append_right _ hc)), fun p hp => ⟨?_, ?_⟩⟩
  ·exact hx ⟨p.toNat, l.gives.length + 1 + p.toNat, 2 * off⟩ (List.mem_append_right _ (List.mem_flatMap.2 ⟨p, hp, List.mem_cons_self⟩))
  ·exact hx ⟨l.gives.length + 1 + p.toNat, p.toNat, 2 * off⟩ (List.mem_append_right _ (List.mem_flatMap.2 ⟨p, hp, List.mem_cons_of_mem _ List.mem_cons_self⟩))
 ·rintro ⟨h1, h2, h3⟩ c hc
  rcases List.mem_append.1 hc with hc | hc
  ·rcases List.mem_append.1 hc with hc | hc
   ·exact h1 c hc
   ·exact h2 c hc
  ·obtain ⟨p, hp, hc⟩ := List.mem_flatMap.1 hc
   simp only [pairB, List.mem_cons, List.not_mem_nil, or_false] at hc
   rcases hc with rfl | rfl
   ·exact (h3 p hp).1
   ·exact (h3 p hp).2
theorem alike_iff {l : LLine} (h : Lw l) {a b pts : List Int} (hp : PtsIn l pts) {off : Int} (ho : 0 ≤ off ∧ off ≤ 20) : alikeB l a b pts off = true ↔ Near l a b pts off := by
 have hm := h.pts
 have hok := alike_ok h a b hp ho
 have hold := alike_holds l a b pts off
 unfold alikeB
 cases hc : closeC (2 * (l.gives.length + 1) + 1) (alikeCs l a b pts off) with
 | none =>
  refine ⟨fun e => (by cases e), fun ⟨f, g, hf, hg, hn⟩ => ?_⟩
  refine (closeC_none hok hc (fun i => if i ≤ l.gives.length then f i else if i ≤ 2 * l.gives.length + 1 then g (i - (l.gives.length + 1)) else 0) ((hold _).2 ⟨hf.congr h fun p hp => ?_, hg.congr h fun p hp => ?_, fun p hp' => ?_⟩)).elim
  ·show f p = (if 0 + p ≤ l.gives.length then f (0 + p) else _) - (if 2 * (l.gives.length + 1) ≤ l.gives.length then _ else if 2 * (l.gives.length + 1) ≤ 2 * l.gives.length + 1 then _ else 0)
   rw [Nat.zero_add, if_pos hp, if_neg (by omega), if_neg (by omega)]; omega
  ·show g p = (if l.gives.length + 1 + p ≤ l.gives.length then _ else if l.gives.length + 1 + p ≤ 2 * l.gives.length + 1 then g (l.gives.length + 1 + p - (l.gives.length + 1)) else 0) - (if 2 * (l.gives.length + 1) ≤ l.gives.length then _ else if 2 * (l.gives.length + 1) ≤ 2 * l.gives.length + 1 then _ else 0)
   rw [if_neg (by omega), if_pos (by omega), if_neg (by omega), if_neg (by omega), show l.gives.length + 1 + p - (l.gives.length + 1) = p by omega]; omega
  ·have hq := hp p hp'
   have hh := hn p hp'
   try dsimp only
   rw [if_neg (by omega), if_pos (by omega), if_pos (by omega), show l.gives.length + 1 + p.toNat - (l.gives.length + 1) = p.toNat by omega]
   exact hh
 | some W =>
  refine ⟨fun _ => ?_, fun _ => rfl⟩
  have finA := line_fin (n := 2 * (l.gives.length + 1) + 1) (by omega) hok hc (l := l) (s := a) (b := 0) (dry := 2 * (l.gives.length + 1)) (by omega) (by omega) fun c hc => List.mem_append_left _ (List.mem_append_left _ hc)
  have finB := line_fin (n := 2 * (l.gives.length + 1) + 1) (by omega) hok hc (l := l) (s := b) (b := l.gives.length + 1) (dry := 2 * (l.gives.length + 1)) (by omega) (by omega) fun c hc => List.mem_append_left _ (List.mem_append_right _ hc)
  have e : ∀ i, i < 2 * (l.gives.length + 1) + 1 → ent W (2 * (l.gives.length + 1)) i < far ∧ ent W i (2 * (l.gives.length + 1)) < far := fun i hi => by
   by_cases g : i = 2 * (l.gives.length + 1)
   ·subst g
    have h1 := finA 0 (Nat.zero_le _)
    exact ⟨closeC_trans (by omega) hok hc (by omega) (show 0 + 0 < 2 * (l.gives.length + 1) + 1 by omega) (by omega) h1.1 h1.2, closeC_trans (by omega) hok hc (by omega) (show 0 + 0 < 2 * (l.gives.length + 1) + 1 by omega) (by omega) h1.1 h1.2⟩
   ·by_cases g2 : i ≤ l.gives.length
    ·have := finA i g2
     rw [Nat.zero_add] at this; exact this
    ·have := finB (i - (l.gives.length + 1)) (by omega)
     rw [show l.gives.length + 1 + (i - (l.gives.length + 1)) = i by omega] at this; exact this
  have ht := closeC_tells (by omega) hok hc fun i j hi hj => closeC_trans (by omega) hok hc hi (show 2 * (l.gives.length + 1) < 2 * (l.gives.length + 1) + 1 by omega) hj (e i hi).2 (e j hj).1
  obtain ⟨h1, h2, h3⟩ := (hold _).1 (ht.met 0 (by omega))
  refine ⟨_, _, h1, h2, fun p hp' => ?_⟩
  have := h3 p hp'
  try dsimp only
  rw [Nat.zero_add]
  omega
theorem tells_iff {l : LLine} (h : Lw l) {pts : List Int} (hp : PtsIn l pts) {off : Int} (ho : 0 ≤ off ∧ off ≤ 20) : tellsB l (theftsL l) pts off = true ↔ ∀ i k, k < i → i < (setsOut l).length → ¬ Near l ((setsOut l).getD i []) ((setsOut l).getD k []) pts off := by
 have e : ∀ i, ((theftsL l).getD i ([], [])).1 = (setsOut l).getD i [] := fun i => by
  unfold setsOut
  rw [List.getD_eq_getElem?_getD, List.getD_eq_getElem?_getD, List.getElem?_map]
  cases (theftsL l)[i]? <;> rfl
 unfold tellsB
 simp only [List.all_eq_true, List.mem_range, Bool.not_eq_true', e]
 rw [← setsOut_len]
 constructor
 ·intro hh i k hk hi hn
  have := hh i hi k hk
  rw [(alike_iff h hp ho).2 hn] at this; cases this
 ·intro hh i hi k hk
  cases ha : alikeB l ((setsOut l).getD i []) ((setsOut l).getD k []) pts off with
  | false => rfl
  | true => exact (hh i k hk hi ((alike_iff h hp ho).1 ha)).elim
end Go.Av.Fx
end
section
namespace Go.Av
open Go
def modeOf (c : Cx) : Option AV → FrameMode → Prop
 | none, u => u = .returning
 | some v, u => ∃ x, u = .panicking [{ v := x, recovered := false }] ∧ VRel c v x
def DC (P : Program) (g : FuncId) (caps : List AV) (pan : Option AV) (S : St) (R : St → Prop) : Prop :=
 ∀ c w vs u, StRel c S w → LRel c caps vs → modeOf c pan u → CallsDIn Fence.wide 0 P g vs.toArray u w fun e u' w' => (∃ y, e = .returned y) ∧ settle u' = .returning ∧ ∃ S' c', c.le c' ∧ R S' ∧ StRel c' S' w'
theorem DC.run {E : Env} (hE : E.Ok) (hmix : E.P.follows .mixedOrders = true) {g : FuncId} {fn : Func} {id : Nat} {o : Oper} {d : Nat} {code : Code} {ks : Nat → List Nat} {dm : Nat → Nat × List Bool} {mc : MC}
  (hf : E.P.funcs[g]? = some fn) (hb : fn.body = some (.seq (.region id #[o] false) code)) (ho : o.op = .call { callee := .builtin .recover, args := #[], argTypes := #[] }) (hg : o.guard = none) (hd : o.dst = some d)
  (hm : toMC E.N ks dm code = some mc) (hN : fn.ntmps = E.N) (hres : fn.results = #[]) {caps : List AV} {pan : Option AV} {S : St} {R : St → Prop} (hargs : caps.length ≤ E.N) (hdN : d < E.N) (hbase : E.base = S.heap.length) (hbt : E.bt = S.nt)
  (hR : E.R = none) (hC : ∀ c, E.C c) (hK : E.K = false)
  (h : WC E mc (fun e _ S' => match e with | .normal => R S' | .ret => R S' | _ => False) ((argTS 0 caps).set d (pan.getD .nilIface)) S) : DC E.P g caps pan S R := by
 intro c w vs u hst hl hu
 have hlen : vs.length = caps.length := hl.1.symm
 refine callsDIn_of_wpSIn hf hb trivial fun c₀ cs hc₀ => ?_
 refine wpSIn_seq (wpSIn_region ?_)
 have hexec : (execOp ({ tmps := vs.toArray ++ Array.replicate (fn.ntmps - vs.toArray.size) Go.undef, defers := [] } : Act).eval o).run E.P w = .ok .recover w := by
  simp only [execOp, ho]
  simp [resolve, invoke, builtin, go_sem]
 have hrest : ∀ (x : Value) (cs' : List Frame) (u' : FrameMode), cs' = { c₀ with mode := u' } :: cs → settle u' = .returning → VRel c (pan.getD .nilIface) x →
   code.wpSIn Fence.wide 0 E.P (bodyPostS E.P fn c₀ cs fun e u' w' => (∃ y, e = .returned y) ∧ settle u' = .returning ∧ ∃ S' c', c.le c' ∧ R S' ∧ StRel c' S' w')
    (({ tmps := vs.toArray ++ Array.replicate (fn.ntmps - vs.toArray.size) Go.undef, defers := [] } : Act).put o.dst x) cs' w := by
  intro x cs' u' hcs hset hx
  have sim0 : Sim E c c [] (argTS 0 caps) S { tmps := vs.toArray ++ Array.replicate (fn.ntmps - vs.toArray.size) Go.undef, defers := [] } w := by
   refine ⟨(Cx.le.refl c).S, hC c, ⟨fun i n e => by rw [hbase]; exact (hst.dom i n e).1, fun k x e => by rw [hbt]; exact (hst.tdom k x e).1⟩, hst, fun d v e => ?_, Marks.nil _ _ _ _, ?_⟩
   ·obtain ⟨_, h2⟩ := argTS_get _ _ _ _ e
    rw [Nat.sub_zero] at h2
    obtain ⟨u, hu, hr⟩ := hl.get h2
    have hd : d < vs.length := by
     rcases Nat.lt_or_ge d vs.length with h' | h'
     ·exact h'
     ·rw [List.getElem?_eq_none h'] at hu; cases hu
    rw [Array.getD_eq_getD_getElem?, Array.getElem?_append_left (by simpa using hd)]
    simp only [List.getElem?_toArray, hu, Option.getD_some]
    exact hr
   ·simp; omega
  have sim1 := sim0.put (Cx.le.refl c) hst (dst := o.dst) hx (by rw [hd]; simpa [dstOk] using hdN)
  rw [hd] at sim1
  have hw := WC_ok (fun E' hE' hP => draw_ok hE' (hP ▸ hmix)) (toMC_ok _ _ hm) E hE rfl rfl c [] _ _ S c _ w h sim1
  rw [Env.F_wide hR] at hw
  refine wpSIn_of_wpIn rfl ?_
  rw [hd]
  refine wpIn_mono hw fun e a' w' hq => ?_
  obtain ⟨ae, ts', S', c', h1, h2, h3⟩ := hq
  obtain ⟨ms, m1, m2, m3, m4⟩ := h3.ds
  rw [hK] at m4
  rw [m4 rfl] at m1
  have hdef : a'.defers = [] := by simpa using m1
  have hst' : StRel (c'.withXO c.XO) S' w' := by
   refine h3.st.withXO _ (fun b ob e => h3.st.XO b ob (h3.le.XO b ob e)) fun i n B _ _ _ e3 => ?_
   cases hx : c.XO n with
   | none => rfl
   | some ob => rw [h3.le.XO n ob hx] at e3; cases e3
  have hr0 : (results fn a'.tmps).run E.P w' = .ok (.tuple #[]) w' := by
   simp [results, hres]
  have done : R S' → a'.defers = [] ∧ ∃ u'', cs' = { c₀ with mode := u'' } :: cs ∧ ∃ v, (results fn a'.tmps).run E.P w' = .ok v w' ∧ ((∃ y, Ending.returned v = .returned y) ∧ settle u'' = .returning ∧ ∃ S' c', c.le c' ∧ R S' ∧ StRel c' S' w') :=
   fun hRS => ⟨hdef, u', hcs, .tuple #[], hr0, ⟨_, rfl⟩, hset, S', _, h3.le.back, hRS, hst'⟩
  cases ae with
  | normal =>
   cases e <;> first | exact h1.elim | skip
   exact done h2
  | ret =>
   cases e <;> first | exact h1.elim | skip
   exact done h2
  | exit i => exact h2.elim
  | panic v => exact h2.elim
 show wpOpsSIn Fence.wide 0 E.P #[o] _ [0] _ _ _
 simp only [wpOpsSIn, List.getElem?_toArray]
 refine ⟨fun _ _ => trivial, ?_⟩
 have hwanted : Region.wanted o (yielded #[o] (vs.toArray ++ Array.replicate (fn.ntmps - vs.toArray.size) Go.undef)) = true := by
  unfold Region.wanted; rw [hg]
 rw [if_pos hwanted, hexec]
 simp only
 cases pan with
 | none =>
  have hu : u = .returning := hu
  have : recoverD (c₀ :: cs) = none := by
   simp only [recoverD, hc₀, hu]
  rw [this]
  exact hrest .nilIface _ .returning (by rw [← hu, ← hc₀]) rfl .nilIface
 | some v =>
  obtain ⟨x, hu, hx⟩ := hu
  have : recoverD (c₀ :: cs) = some (x, { c₀ with mode := .panicking [{ v := x, recovered := true }] } :: cs) := by
   simp only [recoverD, hc₀, hu]
  rw [this]
  exact hrest x _ (.panicking [{ v := x, recovered := true }]) rfl rfl hx
def Env.from (E : Env) (S : St) : Env := { E with base := S.heap.length, bt := S.nt }
theorem Env.Ok.from {E : Env} (h : E.Ok) (S : St) : (E.from S).Ok := ⟨h.T, h.M, h.Cle, h.Y⟩
def endQ (E : Env) (rs : List ResultVar) (g : FuncId) (caps : List AV) (R : AEnd → St → Prop) : AQ
 | .normal, ts, S' => DC E.P g caps none S' fun S2 => ∃ vs, resA E.T S2 ts rs = some vs ∧ R (.ret (tupA vs)) S2
 | .ret, ts, S' => DC E.P g caps none S' fun S2 => ∃ vs, resA E.T S2 ts rs = some vs ∧ R (.ret (tupA vs)) S2
 | .panic v, ts, S' => DC E.P g caps (some v) S' fun S2 => ∃ vs, resA E.T S2 ts rs = some vs ∧ R (.ret (tupA vs)) S2
 | .exit _, _, _ => False
theorem AC.deferring {E : Env} (hE : E.Ok) (hmix : E.P.follows .mixedOrders = true) {f : FuncId} {fn : Func} {a x : Code} {id : Nat} {o1 o2 : Oper} {t : Nat} {tys : Array TypeId} {ks : Nat → List Nat} {dm : Nat → Nat × List Bool} {ma mx : MC}
  (hf : E.P.funcs[f]? = some fn) (hb : fn.body = some (.seq a (.seq (.region id #[o1, o2] false) x))) (ho2 : o2.op = .defer { callee := .value (.tmp t), args := #[], argTypes := tys }) (hg1 : o1.guard = none) (hg2 : o2.guard = none) (hd1 : o1.dst = some t) (hd2 : o2.dst = none)
  (hma : toMC E.N ks dm a = some ma) (hmx : toMC E.N ks dm x = some mx) (hN : fn.ntmps = E.N) (ht : t < E.N) {args : List AV} {S : St} {R : AEnd → St → Prop} (hbase : E.base = S.heap.length) (hbt : E.bt = S.nt) (hargs : args.length ≤ E.N)
  (hR : E.R = none) (hC : ∀ c, E.C c) (hK : E.K = false)
  (h : WC E ma (onlyN fun ts1 S1 => ∃ g caps, astepO E.T S1 ts1 o1.op = some (.pure (.func (.func g) [] caps)) ∧ Callable E.P g ∧ WC (E.from S1) mx (endQ E fn.results.toList g caps R) (ts1.set t (.func (.func g) [] caps)) S1) (argTS 0 args) S) : AC E.P f args S R := by
 intro c w vs hs hl
 have hlen : vs.length = args.length := hl.1.symm
 refine (callsIn_wide (n := 0)).1 (callsIn_of_wp_marks hf hb trivial ?_)
 have hsim : Sim E c c [] (argTS 0 args) S { tmps := vs.toArray ++ Array.replicate (fn.ntmps - vs.toArray.size) Go.undef, defers := [] } w := by
  refine ⟨(Cx.le.refl c).S, hC c, ⟨fun i n e => by rw [hbase]; exact (hs.dom i n e).1, fun k x e => by rw [hbt]; exact (hs.tdom k x e).1⟩, hs, fun d v e => ?_, Marks.nil _ _ _ _, ?_⟩
  ·obtain ⟨_, h2⟩ := argTS_get _ _ _ _ e
   rw [Nat.sub_zero] at h2
   obtain ⟨u, hu, hr⟩ := hl.get h2
   have hd : d < vs.length := by
    rcases Nat.lt_or_ge d vs.length with h' | h'
    ·exact h'
    ·rw [List.getElem?_eq_none h'] at hu; cases hu
   rw [Array.getD_eq_getD_getElem?, Array.getElem?_append_left (by simpa using hd)]
   simp only [List.getElem?_toArray, hu, Option.getD_some]
   exact hr
  ·simp; omega
 have nodef : ∀ {c c' : Cx} {ds l : List Deferred}, Marks E.K c c' ds l → l = ds := fun ⟨ms, m1, _, _, m4⟩ => by rw [m4 hK] at m1; simpa using m1
 have draws : ∀ (E' : Env), E'.Ok → E'.P = E.P → _ := fun E' hE' hP => draw_ok hE' (hP ▸ hmix)
 refine wpIn_seq ?_
 have hw := WC_ok draws (toMC_ok _ _ hma) E hE rfl rfl c [] _ _ S c _ w h hsim
 rw [Env.F_wide hR] at hw
 refine wpIn_mono hw fun e a1 w1 hq => ?_
 obtain ⟨ae, ts1, S1, c1, h1, h2, h3⟩ := hq
 cases ae with
 | exit i => exact h2.elim
 | ret => exact h2.elim
 | panic v => exact h2.elim
 | normal =>
 cases e <;> first | exact h1.elim | skip
 obtain ⟨g, caps, hst, hcall, hx⟩ := h2
 show (Code.seq (.region id #[o1, o2] false) x).wpIn Fence.wide 0 E.P _ a1 w1
 refine wpIn_seq (wpIn_region ?_)
 have hd0 := nodef h3.ds
 show wpOpsIn Fence.wide 0 E.P #[o1, o2] _ [0, 1] a1 w1
 have g1 : (#[o1, o2] : Array Oper)[0]? = some o1 := rfl
 have g2 : (#[o1, o2] : Array Oper)[1]? = some o2 := rfl
 have want1 : ∀ y, Region.wanted o1 y = true := fun y => by unfold Region.wanted; rw [hg1]
 have want2 : ∀ y, Region.wanted o2 y = true := fun y => by unfold Region.wanted; rw [hg2]
 simp only [wpOpsIn, g1, g2, want1, want2, if_true]
 obtain ⟨v1, w2, hy, hp⟩ := astep_ok (P := E.P) hE.T h3.st h3.ts (o := o1) hst trivial
 obtain ⟨c2, k1, k2, k3⟩ := Post.app h3.st hp
 have sim2 := h3.put k1 k2 (dst := o1.dst) (v := .func (.func g) [] caps) k3 (by rw [hd1]; simpa [dstOk] using ht)
 rw [hd1] at sim2
 have nd1 : ∀ c, o1.op ≠ .defer c := fun cl hcl => by rw [hcl] at hst; simp [astepO] at hst
 have hrest : o2.wpIn Fence.wide 0 E.P (a1.put (some t) v1) w2 (fun a3 w3 => Exit.then (x.wpIn Fence.wide 0 E.P (bodyPostM Fence.wide 0 E.P fn fun e w' => ∃ ae S' c', c.le c' ∧ R ae S' ∧ EndRel c' ae e ∧ StRel c' S' w')) (bodyPostM Fence.wide 0 E.P fn fun e w' => ∃ ae S' c', c.le c' ∧ R ae S' ∧ EndRel c' ae e ∧ StRel c' S' w') .normal a3 w3)
   (Exit.then (x.wpIn Fence.wide 0 E.P (bodyPostM Fence.wide 0 E.P fn fun e w' => ∃ ae S' c', c.le c' ∧ R ae S' ∧ EndRel c' ae e ∧ StRel c' S' w')) (bodyPostM Fence.wide 0 E.P fn fun e w' => ∃ ae S' c', c.le c' ∧ R ae S' ∧ EndRel c' ae e ∧ StRel c' S' w')) := by
  have hv : (a1.put (some t) v1).eval (.tmp t) = v1 := by
   have hlt : t < a1.tmps.size := by rw [h3.size]; exact ht
   simp [Act.eval, Act.put, Array.getD_eq_getD_getElem?, hlt]
  cases k3 with
  | func _ _ _ f2 c2v hl1 hl2 hff hcc =>
  have hf2 : f2 = #[] := by apply Array.ext'; simpa using hl1.symm
  subst hf2
  refine ⟨fun _ _ => trivial, ?_⟩
  have hex : (o2.semAt Fence.wide.round (a1.put (some t) (.func (.func g) #[] c2v)).eval).run E.P w2 = .ok (.defer { target := .fn (.func g) c2v, args := #[] }) w2 := by
   show (execOp _ o2).run E.P w2 = _
   simp only [execOp, ho2, resolve, hv, Deferred.ofValue, Sem.run_bind, Sem.run_pure, Result.andThen_ok]
   simp
  rw [hex, Oper.uponIn_defer, hd2]
  show x.wpIn Fence.wide 0 E.P _ _ w2
  have sim3 : Sim (E.from S1) c2 c2 [{ target := .fn (.func g) c2v, args := #[] }] (ts1.set t (.func (.func g) [] caps)) S1 (({ a1.put (some t) (.func (.func g) #[] c2v) with defers := { target := .fn (.func g) c2v, args := #[] } :: (a1.put (some t) (.func (.func g) #[] c2v)).defers } : Act).put none Go.undef) w2 := by
   refine ⟨(Cx.le.refl c2).S, hC _, ⟨fun i n e => (sim2.st.dom i n e).1, fun k x e => (sim2.st.tdom k x e).1⟩, sim2.st, sim2.ts, ?_, sim2.size⟩
   have : (a1.put (some t) (.func (.func g) #[] c2v)).defers = [] := hd0
   show Marks _ _ _ _ (_ :: (a1.put (some t) (.func (.func g) #[] c2v)).defers)
   rw [this]
   exact Marks.nil _ _ _ _
  have hwx := WC_ok draws (toMC_ok _ _ hmx) (E.from S1) (hE.from S1) rfl rfl c2 _ _ _ S1 c2 _ w2 hx sim3
  rw [Env.F_wide (show (E.from S1).R = none from hR)] at hwx
  refine wpIn_mono hwx fun e a4 w4 hq4 => ?_
  obtain ⟨ae, ts4, S4, c4, q1, q2, q3⟩ := hq4
  have hdefs := nodef q3.ds
  have hle4 : c.leS c4 := sim2.le.trans q3.le
  have hback : c.le (c4.withXO c.XO) := hle4.back
  have hst4 : StRel (c4.withXO c.XO) S4 w4 := by
   refine q3.st.withXO _ (fun b ob e => q3.st.XO b ob (hle4.XO b ob e)) fun i n B _ _ _ e3 => ?_
   cases hx : c.XO n with
   | none => rfl
   | some ob => rw [hle4.XO n ob hx] at e3; cases e3
  have htf := q3.ts
  have hcap : LRel (c4.withXO c.XO) caps c2v.toList :=
   ⟨by simpa using hl2, fun j x v h1 h2 => ((hcc j x v h1 (by simpa using h2)).mono3 (c' := c4) ⟨q3.le.K, q3.le.μ, q3.le.τ⟩).withXO c.XO⟩
  have fin : ∀ (pan : Option AV) (u : FrameMode), u ≠ .run → modeOf (c4.withXO c.XO) pan u → DC E.P g caps pan S4 (fun S2 => ∃ vs, resA E.T S2 ts4 fn.results.toList = some vs ∧ R (.ret (tupA vs)) S2) →
    LeavesInM Fence.wide 0 E.P fn a4.tmps (fun e w' => ∃ ae S' c', c.le c' ∧ R ae S' ∧ EndRel c' ae e ∧ StRel c' S' w') a4.defers u w4 := by
   intro pan u hu hm hdc
   rw [hdefs]
   refine ⟨hu, .inr ⟨fun hh => by simp [Fence.wide] at hh, .func g, c2v, g, c2v, rfl, ?_, fun _ _ => trivial, ?_⟩⟩
   ·simp only [invoke]
    rw [show (#[] ++ c2v : Array Value) = c2v by simp]
    exact callFunc_ok hcall _ _
   ·have := hdc (c4.withXO c.XO) w4 c2v.toList u hst4 hcap hm
    rw [show c2v.toList.toArray = c2v by simp] at this
    refine this.mono fun e u' w5 ⟨⟨y, hy⟩, hset, S5, c5, r1, ⟨vs5, r2, r3⟩, r4⟩ => ?_
    subst hy
    show LeavesInM _ _ _ _ _ _ [] (settle u') w5
    rw [hset]
    obtain ⟨z, z1, z2⟩ := results_ok (P := E.P) hE.T r4 (fun d u hu => ((htf d u hu).withXO c.XO).mono r1) fn r2
    exact ⟨z, z1, .ret (tupA vs5), S5, c5, hback.trans r1, r3, z2, r4⟩
  cases ae with
  | exit i => exact q2.elim
  | normal =>
   cases e <;> first | exact q1.elim | skip
   exact fin none .returning (by simp) rfl q2
  | ret =>
   cases e <;> first | exact q1.elim | skip
   exact fin none .returning (by simp) rfl q2
  | panic v =>
   cases e <;> first | exact q1.elim | skip
   obtain ⟨y, hy1, hy2⟩ := q1
   subst hy1
   exact fin (some v) (.panicking [{ v := y, recovered := false }]) (by simp) ⟨y, rfl, hy2.withXO _⟩ q2
 unfold Oper.wpIn
 refine ⟨fun _ _ => trivial, ?_⟩
 rw [Oper.semAt_eq _ _ _ nd1]
 rcases hy with hy | ⟨hy, rfl⟩
 ·rw [hy, Oper.uponIn_value, hd1]; exact hrest
 ·rw [hy, Oper.uponIn_skip, hd1]; exact hrest
end Go.Av
end

/- Part 20 of the proof. -/
import Derived.Test.YtlagjjpbknpdkaaGreatDoorVn19
set_option linter.all false
set_option linter.unusedVariables false
set_option linter.unusedSimpArgs false
set_option linter.unusedSectionVars false
open Nat (reduceEqDiff reduceAdd reduceLeDiff)
section
namespace Go.Av.Fx
open Go Go.Av Go.Av.Tb Go.Proofs
open Go.Fw (Sq ent Bd Mat)
structure Ch where
 point : Int
 left : Int
 deriving DecidableEq
abbrev chC (c : Ch) : List AV := [.int .i64 c.point, .int .i64 c.left]
attribute [go_sem] chC
def chs (L : List Ch) : List AV := L.flatMap chC
@[simp] theorem chs_bnd (n k : Nat) (L : List Ch) : bndL n k (chs L) = true := bndL_flatMap _ (fun _ => rfl) L
@[simp] theorem chs_len (L : List Ch) : (chs L).length = L.length * 2 := by
 induction L with
 | nil => rfl
 | cons t L ih => simp only [chs, List.flatMap_cons, List.length_append] at ih ⊢; rw [ih]; simp; omega
theorem chs_at : ∀ (L : List Ch) (k : Nat) (h : k < L.length), ((chs L).drop (k * 2)).take 2 = chC L[k]
 | t :: L, 0, h => by simp [chs]
 | t :: L, k + 1, h => by
  have := chs_at L k (by simpa using h)
  rw [show (k + 1) * 2 = 2 + k * 2 by omega, ← List.drop_drop]
  simpa [chs] using this
theorem Next1_pc (a b : Ch) : PC Tryz.prog 98 [.agg (chC a), .agg (chC b)] (.pure (.bool (decide (a.left < b.left)))) := by
 refine PC.of_empty (AC.run (E_ok _) mix Tryz.func98 m98 rfl rfl rfl (Nat.le_of_ble_eq_true rfl) ?_) (by simp [bndL, AV.bnd]) rfl
 simp only [go_sem, boxA, Tryz.f98, reduceEqDiff, Nat.reduceBEq, reduceAdd, reduceIte, reduceCtorEq, reduceLeDiff]
def better (o x : Ch) : Ch := if x.left < o.left then x else o
def bestL (L : List Ch) : Ch := L.foldl better (L.headD ⟨0, 0⟩)
theorem best_pc (L : List Ch) (hL : L.length ≤ 1000) (hne : 0 < L.length) : PC Tryz.prog 97 [.slice (chs L) L.length .unk, .func (.func 98) [] []] (.pure (.agg (chC (bestL L)))) := by
 refine PC.of_empty (AC.run (E_ok _) mix Tryz.func97 m97 rfl rfl rfl (Nat.le_of_ble_eq_true rfl) ?_) (by simp [bndL, AV.bnd]) rfl
 have z0 : (0 : Int) ≤ 0 ∧ (0 : Int) < (L.length : Int) := by omega
 have z1 : 0 * 2 + 2 ≤ (chs L).length := by rw [chs_len]; omega
 have z2 := chs_at L 0 hne
 have z3 : L.headD ⟨0, 0⟩ = L[0] := by
  cases L with
  | nil => simp at hne
  | cons t L => rfl
 rw [Nat.zero_mul] at z1 z2
 rw [List.drop_zero] at z2
 simp only [go_sem, boxA, z0, z1, z2, tn0, Nat.zero_mul, builtinA, reduceEqDiff, Nat.reduceBEq, reduceAdd, reduceIte, reduceCtorEq, reduceLeDiff]
 refine wc_forG L.length (fun k => [(1, .func (.func 98) [] []), (4, .ref 0 0), (5, .ref 1 0), (11, .slice (chs L) L.length .unk), (12, .int .i64 L.length), (13, .int .i64 k)])
  (fun k => ⟨[some (.cells [.int .i64 0, .int .i64 0]), some (.cells (chC ((L.take k).foldl better L[0])))], 0, []⟩) rfl rfl (fun k hk => ?_) ?_
 ·refine ⟨Nat.zero_le _, Nat.zero_le _, by simp [bndTS, AV.bnd, bndL], fun i B hB => ?_, fun t ht => by cases ht⟩
  match i, hB with
  | 0, hB => simp at hB; subst hB; rfl
  | 1, hB => simp at hB; subst hB; rfl
  | i + 2, hB => simp at hB
 intro k hk I hI
 by_cases h : k < L.length
 ·have h' : (k : Int) < L.length := by omega
  have h2 : 0 ≤ (k : Int) ∧ (k : Int) < L.length := by omega
  have h3 : k * 2 + 2 ≤ (chs L).length := by rw [chs_len]; omega
  have h5 := chs_at L k h
  have h6 : IntKind.i64.wrap ((k : Int) + 1) = (k + 1 : Nat) := wrap64 (by omega)
  have hI' := hI h
  rw [foldl_take _ _ _ _ h] at hI'
  generalize (L.take k).foldl better L[0] = o at *
  simp only [go_sem, l97_0, h', decide_true, h2, h3, h5, reduceEqDiff, Nat.reduceBEq, reduceAdd, reduceIte, reduceCtorEq, reduceLeDiff]
  refine cp n98 (Next1_pc L[k] o) (SubL.refl _) ?_
  unfold better at hI'
  by_cases g : L[k].left < o.left
  ·rw [if_pos g] at hI'
   simp only [go_sem, g, decide_true, h6, reduceEqDiff, Nat.reduceBEq, reduceAdd, reduceIte, reduceCtorEq, reduceLeDiff]
   exact hI' [_]
  ·rw [if_neg g] at hI'
   simp only [go_sem, g, decide_false, h6, reduceEqDiff, Nat.reduceBEq, reduceAdd, reduceIte, reduceCtorEq, reduceLeDiff]
   exact hI' [_]
 ·have h' : ¬ (k : Int) < L.length := by omega
  simp only [go_sem, l97_0, h', decide_false, Tryz.f97, reduceEqDiff, Nat.reduceBEq, reduceAdd, reduceIte, reduceCtorEq, reduceLeDiff]
  rw [List.take_of_length_le (by omega)]
  unfold bestL
  rw [z3]
def groH (cs : List Ch) : AV := match cs with
 | [] => .nilS
 | c :: cs => .slice (chs (c :: cs)) (cs.length + 1) (.tok cs.length)
theorem chs_app (a b : List Ch) : chs a ++ chs b = chs (a ++ b) := by simp [chs]
theorem groH_sub (cs : List Ch) : Sub (groH cs) (.slice (chs cs) cs.length .unk) := by
 cases cs with
 | nil => exact Sub.nil
 | cons c cs => exact Sub.unk _ _ _
theorem groH_bnd (n : Nat) (cs : List Ch) : (groH cs).bnd n cs.length = true := by
 cases cs with
 | nil => rfl
 | cons c cs => simp only [groH, AV.bnd, chs_bnd, Bool.true_and, List.length_cons]; simp
theorem sr_groH (cs : List Ch) (c : Ch) {q : Nat} (hq : cs.length = q) (hl : q ≤ 100000) {K : AV → St → Prop} {hK : Hold K} {h : List (Option Blk)} (next : K (groH (cs ++ [c])) ⟨h, q + 1, toksN (q + 1)⟩) :
  sr K hK (appendA T ⟨h, q, toksN q⟩ 126 (groH cs) (.slice [.int .i64 c.point, .int .i64 c.left] 1 .exact)) ⟨h, q, toksN q⟩ := by
 subst hq
 cases cs with
 | nil =>
  have : appendA T ⟨h, ([] : List Ch).length, toksN ([] : List Ch).length⟩ 126 (groH []) (.slice [.int .i64 c.point, .int .i64 c.left] 1 .exact) = some (.tok none (fun j => .slice [.int .i64 c.point, .int .i64 c.left] 1 (.tok j))) := rfl
  rw [this, sr_tok]; exact next
 | cons d cs =>
  show sr K hK (appendA T ⟨h, (d :: cs).length, toksN (d :: cs).length⟩ 126 (.slice (chs (d :: cs)) (cs.length + 1) (.tok cs.length)) _) _
  simp only [List.length_cons] at hl
  rw [app_gen (e := 128) (ei := ti128) (lx := [.int .i64 c.point, .int .i64 c.left]) (nx := 1) rfl rfl (by decide) rfl (by decide) rfl (by show (cs.length + 1 + 1) * 16 ≤ _; omega) (by omega) (by rw [chs_len]; simp [ti128])]
  rw [sr_tok_some]
  refine ⟨List.mem_cons_self, ?_⟩
  have : killTok (toksN (cs.length + 1)) (some cs.length) = [] := by simp [killTok, toksN]
  show K (.slice (chs (d :: cs) ++ [.int .i64 c.point, .int .i64 c.left]) (cs.length + 1 + 1) (.tok (cs.length + 1))) ⟨h, cs.length + 1 + 1, (cs.length + 1) :: killTok (toksN (cs.length + 1)) (some cs.length)⟩
  rw [this, show chs (d :: cs) ++ [.int .i64 c.point, .int .i64 c.left] = chs (d :: cs ++ [c]) by rw [← chs_app]; simp [chs]]
  have e : groH (d :: cs ++ [c]) = .slice (chs (d :: cs ++ [c])) (cs.length + 1 + 1) (.tok (cs.length + 1)) := by simp [groH]
  rw [← e]; exact next
def worstStep (l : LLine) (L : List Theft) (p : Nat) (off : Int) (c : Int) (read : Nat) : Int := if susL l L p read off > c then susL l L p read off else c
def worstL (l : LLine) (L : List Theft) (p : Nat) (off : Int) : Int := (List.range 401).foldl (worstStep l L p off) 0
def choices (l : LLine) (L : List Theft) (off : Int) (m : Nat) : List Ch := (List.range m).map fun (p : Nat) => ⟨p, worstL l L p off⟩
def nextL (l : LLine) (off : Int) : Ch := bestL (choices l (theftsL l) off (l.gives.length + 1))
def nextA (l : LLine) (off : Int) : AV := if askE l (inB off 0 20) = 0 then .tuple [.int .i64 (nextL l off).point, .int .i64 (nextL l off).left, .int .i64 0] else .tuple [.int .i64 0, .int .i64 0, .int .i64 (askE l (inB off 0 20))]
theorem Next_pc (l : LLine) (ok : okLine l) (off : Int) : PC Tryz.prog 43 [lineA l, .int .i64 off] (.pure (nextA l off)) := by
 refine PC.of_empty (AC.run (E_ok _) mix Tryz.func43 m43 rfl rfl rfl (Nat.le_of_ble_eq_true rfl) ?_) (by simp [bndL, AV.bnd]) (by unfold nextA; split <;> rfl)
 simp only [go_sem, boxA, reduceEqDiff, Nat.reduceBEq, reduceAdd, reduceIte, reduceCtorEq, reduceLeDiff]
 refine qp n95 (isOff_pc off) (SubL.refl _) ?_
 rw [show (decide (off ≥ 0) && decide (off ≤ (20 : Int))) = inB off 0 20 from rfl]
 generalize hf : inB off 0 20 = fine
 simp only [go_sem, reduceEqDiff, Nat.reduceBEq, reduceAdd, reduceIte, reduceCtorEq, reduceLeDiff]
 refine qp n75 (asked_pc l ok fine) (SubL.refl _) ?_
 cases h : isLineB l
 ·simp only [go_sem, askedA, h, extractA, Tryz.f43, reduceEqDiff, Nat.reduceBEq, reduceAdd, reduceIte, reduceCtorEq, reduceLeDiff]
  simp only [nextA, askE, h, hf]; rfl
 cases fine
 ·simp only [go_sem, askedA, h, extractA, Tryz.f43, reduceEqDiff, Nat.reduceBEq, reduceAdd, reduceIte, reduceCtorEq, reduceLeDiff]
  simp only [nextA, askE, h, hf]; rfl
 cases hp : possB l
 ·simp only [go_sem, askedA, h, hp, extractA, Tryz.f43, reduceEqDiff, Nat.reduceBEq, reduceAdd, reduceIte, reduceCtorEq, reduceLeDiff]
  simp only [nextA, askE, h, hf, hp]; rfl
 have hln := isLine_iff.1 h
 have hpts := hln.pts
 have e1 : nextA l off = .tuple [.int .i64 (nextL l off).point, .int .i64 (nextL l off).left, .int .i64 0] := by simp only [nextA, askE, h, hp, hf]; rfl
 rw [e1]
 have w0 : IntKind.i64.wrap ((l.gives.length : Int) + 1) = (l.gives.length + 1 : Nat) := wrap64 (by omega)
 unfold nextL
 have hsus := fun (p : Nat) (hp : p ≤ l.gives.length) (read : Nat) (hr : read ≤ 400) => suspects_pc l (by omega) (theftsL l) (by have := theftsL_len hln; omega) theft_sq (fun t ht => by have := theft_len ht; omega) p hp read off ⟨by omega, by omega⟩ (inB_iff.1 hf)
 simp only [go_sem, askedA, h, hp, extractA, builtinA, w0, reduceEqDiff, Nat.reduceBEq, reduceAdd, reduceIte, reduceCtorEq, reduceLeDiff]
 generalize theftsL l = L at *
 refine wc_forG (l.gives.length + 1) (fun k => [(1, .int .i64 off), (7, .ref 1 0), (9, groH (choices l L off k)), (27, .int .i64 (l.gives.length + 1 : Nat)), (28, .int .i64 k)])
  (fun k => ⟨[some (.cells (lineC l)), some (.cells (lnC l L))], k, toksN k⟩) rfl rfl (fun k hk => ?_) ?_
 ·have e : (choices l L off k).length = k := by simp [choices]
  have e2 := groH_bnd 2 (choices l L off k)
  rw [e] at e2
  refine ⟨Nat.zero_le _, Nat.zero_le _, by simp [bndTS, AV.bnd, e2], fun i B hB => ?_, fun t ht => toksN_lt ht⟩
  match i, hB with
  | 0, hB => simp at hB; subst hB; simp [Blk.bnd, bndL, AV.bnd]
  | 1, hB => simp at hB; subst hB; simp [Blk.bnd, bndL, AV.bnd]
  | i + 2, hB => simp at hB
 intro k hk I hI
 have ek : (choices l L off k).length = k := by simp [choices]
 by_cases h' : k < l.gives.length + 1
 ·have h1 : (k : Int) < (l.gives.length + 1 : Nat) := by omega
  have h6 : IntKind.i64.wrap ((k : Int) + 1) = (k + 1 : Nat) := wrap64 (by omega)
  have hI' := hI h'
  have ec : choices l L off (k + 1) = choices l L off k ++ [⟨(k : Int), worstL l L k off⟩] := by unfold choices; rw [List.range_succ, List.map_append]; rfl
  rw [ec] at hI'
  simp only [go_sem, l43_0, h1, decide_true, reduceEqDiff, Nat.reduceBEq, reduceAdd, reduceIte, reduceCtorEq, reduceLeDiff]
  refine wc_for 401 (fun j => [(1, .int .i64 off), (7, .ref 1 0), (9, groH (choices l L off k)), (27, .int .i64 (l.gives.length + 1 : Nat)), (28, .int .i64 k), (10, .int .i64 k), (11, .ref 2 0), (33, .int .i64 j)])
   (fun j => ⟨[some (.cells (lineC l)), some (.cells (lnC l L)), some (.cells [.int .i64 k, .int .i64 ((List.range j).foldl (worstStep l L k off) 0)])], k, toksN k⟩) rfl rfl ?_
  intro j hj I2 hI2
  by_cases hj' : j < 401
  ·have j1 : (j : Int) < 401 := by omega
   have j6 : IntKind.i64.wrap ((j : Int) + 1) = (j + 1 : Nat) := wrap64 (by omega)
   have hI2' := hI2 hj'
   rw [List.range_succ, List.foldl_append] at hI2'
   simp only [List.foldl_cons, List.foldl_nil] at hI2'
   generalize (List.range j).foldl (worstStep l L k off) 0 = c at *
   unfold worstStep at hI2'
   simp only [go_sem, l43_1, j1, decide_true, reduceEqDiff, Nat.reduceBEq, reduceAdd, reduceIte, reduceCtorEq, reduceLeDiff]
   refine qp n96 (hsus k (by omega) j (by omega)) (SubL.refl _) ?_
   simp only [go_sem, builtinA, maxsA, j6, reduceEqDiff, Nat.reduceBEq, reduceAdd, reduceIte, reduceCtorEq, reduceLeDiff]
   exact hI2'
  ·have j1 : ¬ (j : Int) < 401 := by omega
   have hj4 : j = 401 := by omega
   have ew : (List.range j).foldl (worstStep l L k off) 0 = worstL l L k off := by rw [hj4]; unfold worstL; exact Eq.refl _
   rw [ew]
   generalize worstL l L k off = wv at *
   simp only [go_sem, l43_1, j1, decide_false, reduceEqDiff, Nat.reduceBEq, reduceAdd, reduceIte, reduceCtorEq, reduceLeDiff]
   refine sr_groH (choices l L off k) ⟨(k : Int), wv⟩ ek (by omega) ?_
   simp only [go_sem, h6, reduceEqDiff, Nat.reduceBEq, reduceAdd, reduceIte, reduceCtorEq, reduceLeDiff]
   exact hI' [_]
 ·have h1 : ¬ (k : Int) < (l.gives.length + 1 : Nat) := by omega
  simp only [go_sem, l43_0, h1, decide_false, reduceEqDiff, Nat.reduceBEq, reduceAdd, reduceIte, reduceCtorEq, reduceLeDiff]
  refine cp n97 (best_pc (choices l L off k) (by omega) (by omega)) (SubL.cons (by rw [ek]; exact (by have := groH_sub (choices l L off k); rw [ek] at this; exact this)) (SubL.refl _)) ?_
  rw [show k = l.gives.length + 1 by omega]
  simp only [go_sem, Tryz.f43, reduceEqDiff, Nat.reduceBEq, reduceAdd, reduceIte, reduceCtorEq, reduceLeDiff]
end Go.Av.Fx
end
section
namespace Go.Av.Fx
open Go Go.Av Go.Proofs
open Go.Fw (Sq ent Bd Mat Tells Good)
structure Lw (l : LLine) : Prop where
 pts : 1 ≤ l.gives.length ∧ l.gives.length ≤ 5
 cts : l.counts.length ≤ 1000
 least : 1 ≤ l.least ∧ l.least ≤ l.most
 most : l.most ≤ 60
 taps : 0 ≤ l.taps ∧ l.taps ≤ 2
 gives : ∀ g ∈ l.gives, 0 ≤ g ∧ g ≤ 60
 counts : ∀ c ∈ l.counts, (0 ≤ c.point ∧ c.point ≤ l.gives.length) ∧ 0 ≤ c.low ∧ c.low ≤ c.high ∧ c.high ≤ 400
theorem Ln.lw {l : LLine} (h : Ln l) : Lw l := ⟨h.pts, by have := h.cts; omega, h.least, h.most, h.taps, h.gives, h.counts⟩
theorem Lw.give {l : LLine} (h : Lw l) (i : Nat) : 0 ≤ l.gives.getD i 0 ∧ l.gives.getD i 0 ≤ 60 := by
 rw [List.getD_eq_getElem?_getD]
 cases hx : l.gives[i]? with
 | none => simp
 | some g => exact h.gives g (List.mem_of_getElem? hx)
theorem Lw.low {l : LLine} (h : Lw l) (set : List Int) (i : Nat) : 0 ≤ lowL l set i ∧ lowL l set i ≤ highL l set i ∧ highL l set i ≤ 120 := by
 have := h.give i; have := h.least; have := h.most
 unfold lowL highL; split <;> omega
theorem lineB_okw {l : LLine} (h : Lw l) (set : List Int) {b dry n : Nat} (hb : b + l.gives.length < n) (hd : dry < n) (hne : dry < b ∨ b + l.gives.length < dry) : ∀ c ∈ lineB l set b dry, c.Ok 400 400 n := by
 intro c hc
 unfold lineB at hc
 simp only [List.mem_cons, List.mem_append, List.mem_flatMap, List.mem_map, List.mem_range, List.not_mem_nil, or_false] at hc
 rcases hc with rfl | (⟨i, hi, rfl | rfl⟩ | ⟨p, hp, rfl⟩) | ⟨x, hx, rfl | rfl⟩
 ·exact ⟨hd, by show b < n; omega, by show dry ≠ b; omega, by show (-400 : Int) ≤ 400; decide, by show (400 : Int) ≤ 400; decide⟩
 ·have := h.low set i
  exact ⟨by show b + i < n; omega, by show b + i + 1 < n; omega, by show b + i ≠ b + i + 1; omega, by show -400 ≤ -lowL l set i; omega, by show -lowL l set i ≤ 400; omega⟩
 ·have := h.low set i
  exact ⟨by show b + i + 1 < n; omega, by show b + i < n; omega, by show b + i + 1 ≠ b + i; omega, by show -400 ≤ highL l set i; omega, by show highL l set i ≤ 400; omega⟩
 ·exact ⟨by show b + p < n; omega, hd, by show b + p ≠ dry; omega, by show (-400 : Int) ≤ 0; decide, by show (0 : Int) ≤ 400; decide⟩
 ·have := h.counts x hx
  exact ⟨hd, by show b + x.point.toNat < n; omega, by show dry ≠ b + x.point.toNat; omega, by show -400 ≤ x.high; omega, by show x.high ≤ 400; omega⟩
 ·have := h.counts x hx
  exact ⟨by show b + x.point.toNat < n; omega, hd, by show b + x.point.toNat ≠ dry; omega, by show -400 ≤ -x.low; omega, by show -x.low ≤ 400; omega⟩
structure Fl (l : LLine) (s : List Int) (f : Nat → Int) : Prop where
 pos : ∀ p, p ≤ l.gives.length → 0 ≤ f p
 top : f 0 ≤ 400
 step : ∀ i, i < l.gives.length → lowL l s i ≤ f i - f (i + 1) ∧ f i - f (i + 1) ≤ highL l s i
 cnt : ∀ c ∈ l.counts, c.low ≤ f c.point.toNat ∧ f c.point.toNat ≤ c.high
theorem Fl.congr {l : LLine} (h : Lw l) {s : List Int} {f g : Nat → Int} (e : ∀ p, p ≤ l.gives.length → f p = g p) (hf : Fl l s f) : Fl l s g := by
 refine ⟨fun p hp => by rw [← e p hp]; exact hf.pos p hp, by rw [← e 0 (by omega)]; exact hf.top, fun i hi => ?_, fun c hc => ?_⟩
 ·rw [← e i (by omega), ← e (i + 1) (by omega)]; exact hf.step i hi
 ·have := h.counts c hc
  rw [← e c.point.toNat (by omega)]; exact hf.cnt c hc
theorem Fl.down {l : LLine} (h : Lw l) {s : List Int} {f : Nat → Int} (hf : Fl l s f) : ∀ {b a : Nat}, a ≤ b → b ≤ l.gives.length → f b ≤ f a
 | 0, a, hab, hb => by rw [show a = 0 by omega]; exact Int.le_refl _
 | b + 1, a, hab, hb => by
  by_cases e : a = b + 1
  ·rw [e]; exact Int.le_refl _
  ·have h1 := Fl.down h hf (b := b) (a := a) (by omega) (by omega)
   have h2 := hf.step b (by omega)
   have h3 := h.low s b
   omega
theorem Fl.bd {l : LLine} (h : Lw l) {s : List Int} {f : Nat → Int} (hf : Fl l s f) {p : Nat} (hp : p ≤ l.gives.length) : 0 ≤ f p ∧ f p ≤ 400 :=
 ⟨hf.pos p hp, Int.le_trans (hf.down h (Nat.zero_le p) hp) hf.top⟩
theorem mem_lineB {l : LLine} {s : List Int} {b dry : Nat} {c : Bd} : c ∈ lineB l s b dry ↔
  c = ⟨dry, b, 400⟩ ∨ (∃ i, i < l.gives.length ∧ (c = ⟨b + i, b + i + 1, -lowL l s i⟩ ∨ c = ⟨b + i + 1, b + i, highL l s i⟩)) ∨ (∃ p, p < l.gives.length + 1 ∧ c = ⟨b + p, dry, 0⟩) ∨
  ∃ k, k ∈ l.counts ∧ (c = ⟨dry, b + k.point.toNat, k.high⟩ ∨ c = ⟨b + k.point.toNat, dry, -k.low⟩) := by
 unfold lineB
 simp only [List.mem_cons, List.mem_append, List.mem_flatMap, List.mem_map, List.mem_range, List.not_mem_nil, or_false]
 constructor
 ·rintro (h | (h | ⟨p, hp, h⟩) | h)
  ·exact .inl h
  ·exact .inr (.inl h)
  ·exact .inr (.inr (.inl ⟨p, hp, h.symm⟩))
  ·exact .inr (.inr (.inr h))
 ·rintro (h | h | ⟨p, hp, h⟩ | h)
  ·exact .inl h
  ·exact .inr (.inl (.inl h))
  ·exact .inr (.inl (.inr ⟨p, hp, h.symm⟩))
  ·exact .inr (.inr h)
theorem lineB_holds (l : LLine) (s : List Int) (b dry : Nat) (x : Nat → Int) : (∀ c ∈ lineB l s b dry, c.holds x) ↔ Fl l s fun p => x (b + p) - x dry := by
 constructor
 ·intro hx
  refine ⟨fun p hp => ?_, ?_, fun i hi => ?_, fun c hc => ?_⟩
  ·have : x dry - x (b + p) ≤ 0 := hx _ (mem_lineB.2 (.inr (.inr (.inl ⟨p, by omega, rfl⟩))))
   show 0 ≤ x (b + p) - x dry; omega
  ·have : x b - x dry ≤ 400 := hx _ (mem_lineB.2 (.inl rfl))
   show x (b + 0) - x dry ≤ 400; rw [Nat.add_zero]; omega
  ·have h1 : x (b + i + 1) - x (b + i) ≤ -lowL l s i := hx _ (mem_lineB.2 (.inr (.inl ⟨i, hi, .inl rfl⟩)))
   have h2 : x (b + i) - x (b + i + 1) ≤ highL l s i := hx _ (mem_lineB.2 (.inr (.inl ⟨i, hi, .inr rfl⟩)))
   show lowL l s i ≤ x (b + i) - x dry - (x (b + (i + 1)) - x dry) ∧ x (b + i) - x dry - (x (b + (i + 1)) - x dry) ≤ highL l s i
   rw [← Nat.add_assoc]; omega
  ·have h1 : x (b + c.point.toNat) - x dry ≤ c.high := hx _ (mem_lineB.2 (.inr (.inr (.inr ⟨c, hc, .inl rfl⟩))))
   have h2 : x dry - x (b + c.point.toNat) ≤ -c.low := hx _ (mem_lineB.2 (.inr (.inr (.inr ⟨c, hc, .inr rfl⟩))))
   show c.low ≤ x (b + c.point.toNat) - x dry ∧ x (b + c.point.toNat) - x dry ≤ c.high
   omega
 ·intro hf c hc
  rcases mem_lineB.1 hc with rfl | ⟨i, hi, rfl | rfl⟩ | ⟨p, hp, rfl⟩ | ⟨k, hk, rfl | rfl⟩
  ·have h1 : x (b + 0) - x dry ≤ 400 := hf.top
   show x b - x dry ≤ 400; rw [Nat.add_zero] at h1; exact h1
  ·have h1 : lowL l s i ≤ x (b + i) - x dry - (x (b + (i + 1)) - x dry) := (hf.step i hi).1
   show x (b + i + 1) - x (b + i) ≤ -lowL l s i
   rw [← Nat.add_assoc] at h1; omega
  ·have h1 : x (b + i) - x dry - (x (b + (i + 1)) - x dry) ≤ highL l s i := (hf.step i hi).2
   show x (b + i) - x (b + i + 1) ≤ highL l s i
   rw [← Nat.add_assoc] at h1; omega
  ·have h1 : 0 ≤ x (b + p) - x dry := hf.pos p (by omega)
   show x dry - x (b + p) ≤ 0; omega
  ·exact (hf.cnt k hk).2
  ·have h1 : k.low ≤ x (b + k.point.toNat) - x dry := (hf.cnt k hk).1
   show x dry - x (b + k.point.toNat) ≤ -k.low; omega
theorem far_pos : (0 : Int) < far := by decide
theorem base_good (n : Nat) : Good far 400 400 n (Fw.base far n) := Fw.Good.base (by decide) (by decide) (by decide)
theorem closeC_none {n : Nat} {cs : List Bd} (hcs : ∀ c ∈ cs, c.Ok 400 400 n) (h : closeC n cs = none) (x : Nat → Int) : ¬ ∀ c ∈ cs, c.holds x := fun hx =>
 Fw.closed_none ((base_good n).fold hcs).sq far_pos h x ((Fw.obeys_fold (by decide) x (base_good n) hcs).2 ⟨Fw.obeys_base _ _ _, hx⟩)
theorem Tells.imp {n : Nat} {P Q : (Nat → Int) → Prop} {V : Mat} (h : Tells n P V) (e : ∀ x, P x ↔ Q x) : Tells n Q V :=
 ⟨fun x hx => h.most x ((e x).2 hx), fun a ha => (e _).1 (h.met a ha), h.diag⟩
theorem pow_far {n : Nat} (hn : n ≤ 13) : (2 : Int) ^ (n + 1) * 400 < far := by
 have h1 : (2 : Int) ^ (n + 1) ≤ 2 ^ 14 := Fw.pow_le (by decide) _ (by omega)
 have h2 : (2 : Int) ^ 14 = 16384 := by decide
 have h3 : far = 1099511627776 := rfl
 omega
theorem closeC_tells {n : Nat} (hn : n ≤ 13) {cs : List Bd} {V : Mat} (hcs : ∀ c ∈ cs, c.Ok 400 400 n) (h : closeC n cs = some V) (hfin : ∀ i j, i < n → j < n → ent V i j < far) : Tells n (fun x => ∀ c ∈ cs, c.holds x) V :=
 Tells.imp (Fw.closed_tells ((base_good n).fold hcs) (by decide) (pow_far hn) h hfin) fun x =>
  (Fw.obeys_fold (by decide) x (base_good n) hcs).trans ⟨fun h => h.2, fun h => ⟨Fw.obeys_base _ _ _, h⟩⟩
theorem closeC_mem {n : Nat} (hn : n ≤ 13) {cs : List Bd} {V : Mat} (hcs : ∀ c ∈ cs, c.Ok 400 400 n) (h : closeC n cs = some V) {c : Bd} (hc : c ∈ cs) : ent V c.a c.b < far :=
 Fw.fin_mem (base_good n) (by decide) (pow_far hn) hcs (by decide) h hc
theorem closeC_trans {n : Nat} (hn : n ≤ 13) {cs : List Bd} {V : Mat} (hcs : ∀ c ∈ cs, c.Ok 400 400 n) (h : closeC n cs = some V) {i k j : Nat} (hi : i < n) (hk : k < n) (hj : j < n) (h1 : ent V i k < far) (h2 : ent V k j < far) : ent V i j < far :=
 Fw.fin_trans ((base_good n).fold hcs) (by decide) (pow_far hn) h hi hk hj h1 h2
theorem line_fin {n : Nat} (hn : n ≤ 13) {cs : List Bd} {V : Mat} (hcs : ∀ c ∈ cs, c.Ok 400 400 n) (h : closeC n cs = some V) {l : LLine} {s : List Int} {b dry : Nat} (hb : b + l.gives.length < n) (hd : dry < n) (hsub : ∀ c ∈ lineB l s b dry, c ∈ cs) :
  ∀ p, p ≤ l.gives.length → ent V dry (b + p) < far ∧ ent V (b + p) dry < far
 | 0, hp => ⟨closeC_mem hn hcs h (c := ⟨dry, b, 400⟩) (hsub _ (mem_lineB.2 (.inl rfl))), closeC_mem hn hcs h (c := ⟨b + 0, dry, 0⟩) (hsub _ (mem_lineB.2 (.inr (.inr (.inl ⟨0, by omega, rfl⟩)))))⟩
 | p + 1, hp => by
  refine ⟨?_, closeC_mem hn hcs h (c := ⟨b + (p + 1), dry, 0⟩) (hsub _ (mem_lineB.2 (.inr (.inr (.inl ⟨p + 1, by omega, rfl⟩)))))⟩
  have h1 := (line_fin hn hcs h hb hd hsub p (by omega)).1
  have h2 := closeC_mem hn hcs h (c := ⟨b + p, b + p + 1, -lowL l s p⟩) (hsub _ (mem_lineB.2 (.inr (.inl ⟨p, by omega, .inl rfl⟩))))
  exact closeC_trans hn hcs h hd (by omega) (by omega) h1 h2
theorem expl_tells {l : LLine} (h : Lw l) {s : List Int} {W : Mat} (hW : explM l s = some W) : (s.length : Int) ≤ l.taps ∧ Tells (l.gives.length + 2) (fun x => Fl l s fun p => x p - x (l.gives.length + 1)) W := by
 have hp := h.pts
 unfold explM at hW
 split at hW
 ·cases hW
 rename_i ht
 refine ⟨by omega, ?_⟩
 have hok := lineB_okw h s (b := 0) (dry := l.gives.length + 1) (n := l.gives.length + 2) (by omega) (by omega) (.inr (by omega))
 have fin := line_fin (n := l.gives.length + 2) (by omega) hok hW (b := 0) (dry := l.gives.length + 1) (by omega) (by omega) fun c hc => hc
 simp only [Nat.zero_add] at fin
 have e : ∀ i, i < l.gives.length + 2 → ent W (l.gives.length + 1) i < far ∧ ent W i (l.gives.length + 1) < far := fun i hi => by
  by_cases g : i = l.gives.length + 1
  ·subst g
   have h1 := fin 0 (Nat.zero_le _)
   exact ⟨closeC_trans (by omega) hok hW (by omega) (show 0 < l.gives.length + 2 by omega) (by omega) h1.1 h1.2, closeC_trans (by omega) hok hW (by omega) (show 0 < l.gives.length + 2 by omega) (by omega) h1.1 h1.2⟩
  ·exact fin i (by omega)
 refine Tells.imp (closeC_tells (by omega) hok hW fun i j hi hj => closeC_trans (by omega) hok hW hi (show l.gives.length + 1 < l.gives.length + 2 by omega) hj (e i hi).2 (e j hj).1) fun x => ?_
 have := lineB_holds l s 0 (l.gives.length + 1) x
 simp only [Nat.zero_add] at this
 exact this
theorem expl_none {l : LLine} (h : Lw l) {s : List Int} (hW : explM l s = none) (ht : (s.length : Int) ≤ l.taps) (f : Nat → Int) : ¬ Fl l s f := by
 intro hf
 have hp := h.pts
 unfold explM at hW
 rw [if_neg (by omega)] at hW
 have hok := lineB_okw h s (b := 0) (dry := l.gives.length + 1) (n := l.gives.length + 2) (by omega) (by omega) (.inr (by omega))
 refine closeC_none hok hW (fun p => if p ≤ l.gives.length then f p else 0) ((lineB_holds l s 0 (l.gives.length + 1) _).2 (hf.congr h fun p hp => ?_))
 simp only [Nat.zero_add]
 rw [if_pos hp, if_neg (by omega)]; omega
theorem expl_iff {l : LLine} (h : Lw l) (s : List Int) : (explM l s).isSome = true ↔ (s.length : Int) ≤ l.taps ∧ ∃ f, Fl l s f := by
 cases hW : explM l s with
 | none => exact ⟨fun h => (by cases h), fun ⟨ht, f, hf⟩ => (expl_none h hW ht f hf).elim⟩
 | some W =>
  have := expl_tells h hW
  exact ⟨fun _ => ⟨this.1, _, this.2.met 0 (by omega)⟩, fun _ => rfl⟩
def Mx (P : (Nat → Int) → Prop) (g : (Nat → Int) → Int) (v : Int) : Prop := (∀ f, P f → g f ≤ v) ∧ ∃ f, P f ∧ g f = v
theorem Mx.imp {P : (Nat → Int) → Prop} {g g' : (Nat → Int) → Int} {v : Int} (h : Mx P g v) (e : ∀ f, P f → g f = g' f) : Mx P g' v := by
 obtain ⟨f, hf, e1⟩ := h.2
 exact ⟨fun f hf => by rw [← e f hf]; exact h.1 f hf, f, hf, by rw [← e f hf]; exact e1⟩
def ex (l : LLine) (f : Nat → Int) (p : Nat) : Int := if p ≤ l.gives.length then f p else 0
theorem thefts_fold (l : LLine) : ∀ (p : List (List Int)) (L : List Theft), p.foldl (addT l) L = L ++ p.filterMap fun s => (explM l s).map fun W => (s, W)
 | [], L => by simp
 | s :: p, L => by
  rw [List.foldl_cons, thefts_fold l p]
  unfold addT
  cases hW : explM l s with
  | none => simp [hW]
  | some W => simp [hW]
theorem thefts_eq (l : LLine) : theftsL l = (setsL l.gives.length).filterMap fun s => (explM l s).map fun W => (s, W) := by
 unfold theftsL; rw [thefts_fold]; rfl
theorem setsOut_eq (l : LLine) : setsOut l = (setsL l.gives.length).filter fun s => (explM l s).isSome := by
 unfold setsOut
 rw [thefts_eq]
 induction setsL l.gives.length with
 | nil => rfl
 | cons s p ih =>
  cases hW : explM l s with
  | none => simp [hW, ih]
  | some W => simp [hW, ih]
theorem setsOut_len (l : LLine) : (setsOut l).length = (theftsL l).length := by simp [setsOut]
end Go.Av.Fx
end
section
namespace Go.Av.Fx
open Go Go.Av Go.Proofs
open Go.Fw (Sq ent Bd Mat Tells Good)
def begM (n : Nat) : Mat := (List.range n).map fun i => (List.range n).map fun k => if 0 < i ∧ k = 0 then 0 else if k = i then 0 else 400
theorem ent_beg {n i j : Nat} (hi : i < n) (hj : j < n) : ent (begM n) i j = if 0 < i ∧ j = 0 then 0 else if j = i then 0 else 400 := by
  unfold ent begM
  rw [List.getD_eq_getElem?_getD, List.getD_eq_getElem?_getD, List.getElem?_map, List.getElem?_range hi]
  show (((List.range n).map fun k => if 0 < i ∧ k = 0 then (0 : Int) else if k = i then 0 else 400)[j]?).getD 0 = _
  rw [List.getElem?_map, List.getElem?_range hj]; rfl
theorem beg_good (n : Nat) : Good far 400 400 n (begM n) := by
  refine ⟨⟨by simp [begM], fun i r h => ?_⟩, fun i hi => ?_, fun i j hi hj => ?_, fun i j hi hj _ => ?_, fun i j hi hj => ?_⟩
  · have := List.mem_of_getElem? h
    simp only [begM, List.mem_map] at this
    obtain ⟨a, _, rfl⟩ := this
    simp
  · rw [ent_beg hi hi]; split
    · rfl
    · rw [if_pos rfl]
  · rw [ent_beg hi hj]; split
    · decide
    · split <;> decide
  · rw [ent_beg hi hj]; split
    · decide
    · split <;> decide
  · rw [ent_beg hi hj]; split
    · decide
    · split <;> decide
theorem obeys_beg {n : Nat} (x : Nat → Int) : Fw.Obeys far n (begM n) x ↔ ∀ i, i < n → 0 ≤ x i - x 0 ∧ x i - x 0 ≤ 400 := by
  constructor
  · intro h i hi
    by_cases g : i = 0
    · subst g; omega
    · have h1 := h i 0 hi (by omega)
      have h2 := h 0 i (by omega) hi
      rw [ent_beg hi (by omega), if_pos ⟨by omega, rfl⟩] at h1
      rw [ent_beg (by omega) hi, if_neg (by omega), if_neg g] at h2
      have h1 := h1 (by decide)
      have h2 := h2 (by decide)
      omega
  · intro h i j hi hj _
    have h1 := h i hi
    have h2 := h j hj
    rw [ent_beg hi hj]
    by_cases g : 0 < i ∧ j = 0
    · rw [if_pos g, g.2]; omega
    · rw [if_neg g]
      by_cases g2 : j = i
      · rw [if_pos g2, g2]; omega
      · rw [if_neg g2]; omega
def rcloseM (n : Nat) (cs : List Bd) : Mat := Fw.upto far n n (cs.foldl Fw.addc (begM n))
def diagB (n : Nat) (V : Mat) : Bool := (List.range n).all fun i => decide (0 ≤ ent V i i)
theorem rclosed (n : Nat) (cs : List Bd) : Fw.closed far n (cs.foldl Fw.addc (begM n)) = if diagB n (rcloseM n cs) = true then some (rcloseM n cs) else none := rfl
theorem rclose_sq (n : Nat) {cs : List Bd} (hcs : ∀ c ∈ cs, c.Ok 400 400 n) : Sq n (rcloseM n cs) := ((beg_good n).fold hcs).sq.upto _ _ _
theorem rclose_le {n : Nat} {cs : List Bd} (hcs : ∀ c ∈ cs, c.Ok 400 400 n) {i j : Nat} (hi : i < n) (hj : j < n) : ent (rcloseM n cs) i j ≤ 400 := by
  refine Int.le_trans (Fw.upto_le ((beg_good n).fold hcs).sq far n i j) (Int.le_trans (Fw.fold_le (beg_good n).sq (fun c hc => ⟨(hcs c hc).a, (hcs c hc).b⟩) i j) ?_)
  exact (beg_good n).small i j hi hj (by rw [ent_beg hi hj]; split; · decide
                                         · split <;> decide)
theorem robeys {n : Nat} {cs : List Bd} (hcs : ∀ c ∈ cs, c.Ok 400 400 n) (x : Nat → Int) :
    Fw.Obeys far n (cs.foldl Fw.addc (begM n)) x ↔ (∀ i, i < n → 0 ≤ x i - x 0 ∧ x i - x 0 ≤ 400) ∧ ∀ c ∈ cs, c.holds x :=
  (Fw.obeys_fold (by decide) x (beg_good n) hcs).trans (and_congr (obeys_beg x) Iff.rfl)
theorem rclose_none {n : Nat} {cs : List Bd} (hcs : ∀ c ∈ cs, c.Ok 400 400 n) (h : diagB n (rcloseM n cs) = false) (x : Nat → Int) : ¬ ((∀ i, i < n → 0 ≤ x i - x 0 ∧ x i - x 0 ≤ 400) ∧ ∀ c ∈ cs, c.holds x) := fun hx =>
  Fw.closed_none ((beg_good n).fold hcs).sq far_pos (by rw [rclosed, h]; rfl) x ((robeys hcs x).2 hx)
theorem rclose_tells {n : Nat} (hn : n ≤ 13) {cs : List Bd} (hcs : ∀ c ∈ cs, c.Ok 400 400 n) (h : diagB n (rcloseM n cs) = true) :
    Tells n (fun x => (∀ i, i < n → 0 ≤ x i - x 0 ∧ x i - x 0 ≤ 400) ∧ ∀ c ∈ cs, c.holds x) (rcloseM n cs) :=
  Tells.imp (Fw.closed_tells ((beg_good n).fold hcs) (by decide) (pow_far hn) (by rw [rclosed, h]; rfl) fun i j hi hj => by
    have := rclose_le hcs hi hj
    have h3 : far = 1099511627776 := rfl
    omega) fun x => robeys hcs x
def rlineB (l : LLine) (s : List Int) (b : Nat) : List Bd :=
  (List.range l.gives.length).flatMap (fun i => [⟨b + i, b + i + 1, -lowL l s i⟩, ⟨b + i + 1, b + i, highL l s i⟩]) ++ l.counts.flatMap fun c => [⟨0, b + c.point.toNat, c.high⟩, ⟨b + c.point.toNat, 0, -c.low⟩]
theorem mem_rlineB {l : LLine} {s : List Int} {b : Nat} {c : Bd} : c ∈ rlineB l s b ↔
    (∃ i, i < l.gives.length ∧ (c = ⟨b + i, b + i + 1, -lowL l s i⟩ ∨ c = ⟨b + i + 1, b + i, highL l s i⟩)) ∨ ∃ k, k ∈ l.counts ∧ (c = ⟨0, b + k.point.toNat, k.high⟩ ∨ c = ⟨b + k.point.toNat, 0, -k.low⟩) := by
  unfold rlineB
  simp only [List.mem_cons, List.mem_append, List.mem_flatMap, List.mem_range, List.not_mem_nil, or_false]
theorem rlineB_okw {l : LLine} (h : Lw l) (s : List Int) {b n : Nat} (hb : 0 < b) (hn : b + l.gives.length < n) : ∀ c ∈ rlineB l s b, c.Ok 400 400 n := by
  intro c hc
  rcases mem_rlineB.1 hc with ⟨i, hi, rfl | rfl⟩ | ⟨k, hk, rfl | rfl⟩
  · have := h.low s i
    exact ⟨by show b + i < n; omega, by show b + i + 1 < n; omega, by show b + i ≠ b + i + 1; omega, by show -400 ≤ -lowL l s i; omega, by show -lowL l s i ≤ 400; omega⟩
  · have := h.low s i
    exact ⟨by show b + i + 1 < n; omega, by show b + i < n; omega, by show b + i + 1 ≠ b + i; omega, by show -400 ≤ highL l s i; omega, by show highL l s i ≤ 400; omega⟩
  · have := h.counts k hk
    exact ⟨by show 0 < n; omega, by show b + k.point.toNat < n; omega, by show 0 ≠ b + k.point.toNat; omega, by show -400 ≤ k.high; omega, by show k.high ≤ 400; omega⟩
  · have := h.counts k hk
    exact ⟨by show b + k.point.toNat < n; omega, by show 0 < n; omega, by show b + k.point.toNat ≠ 0; omega, by show -400 ≤ -k.low; omega, by show -k.low ≤ 400; omega⟩
theorem rline_holds {l : LLine} (h : Lw l) (s : List Int) (b : Nat) (x : Nat → Int) :
    ((∀ p, p ≤ l.gives.length → 0 ≤ x (b + p) - x 0 ∧ x (b + p) - x 0 ≤ 400) ∧ ∀ c ∈ rlineB l s b, c.holds x) ↔ Fl l s fun p => x (b + p) - x 0 := by
  constructor
  · rintro ⟨hb, hx⟩
    refine ⟨fun p hp => (hb p hp).1, (hb 0 (Nat.zero_le _)).2, fun i hi => ?_, fun c hc => ?_⟩
    · have h1 : x (b + i + 1) - x (b + i) ≤ -lowL l s i := hx _ (mem_rlineB.2 (.inl ⟨i, hi, .inl rfl⟩))
      have h2 : x (b + i) - x (b + i + 1) ≤ highL l s i := hx _ (mem_rlineB.2 (.inl ⟨i, hi, .inr rfl⟩))
      show lowL l s i ≤ x (b + i) - x 0 - (x (b + (i + 1)) - x 0) ∧ x (b + i) - x 0 - (x (b + (i + 1)) - x 0) ≤ highL l s i
      rw [← Nat.add_assoc]; omega
    · have h1 : x (b + c.point.toNat) - x 0 ≤ c.high := hx _ (mem_rlineB.2 (.inr ⟨c, hc, .inl rfl⟩))
      have h2 : x 0 - x (b + c.point.toNat) ≤ -c.low := hx _ (mem_rlineB.2 (.inr ⟨c, hc, .inr rfl⟩))
      show c.low ≤ x (b + c.point.toNat) - x 0 ∧ x (b + c.point.toNat) - x 0 ≤ c.high
      omega
  · intro hf
    refine ⟨fun p hp => hf.bd h hp, fun c hc => ?_⟩
    rcases mem_rlineB.1 hc with ⟨i, hi, rfl | rfl⟩ | ⟨k, hk, rfl | rfl⟩
    · have h1 : lowL l s i ≤ x (b + i) - x 0 - (x (b + (i + 1)) - x 0) := (hf.step i hi).1
      show x (b + i + 1) - x (b + i) ≤ -lowL l s i
      rw [← Nat.add_assoc] at h1; omega
    · have h1 : x (b + i) - x 0 - (x (b + (i + 1)) - x 0) ≤ highL l s i := (hf.step i hi).2
      show x (b + i) - x (b + i + 1) ≤ highL l s i
      rw [← Nat.add_assoc] at h1; omega
    · exact (hf.cnt k hk).2
    · have h1 : k.low ≤ x (b + k.point.toNat) - x 0 := (hf.cnt k hk).1
      show x 0 - x (b + k.point.toNat) ≤ -k.low; omega
def withV (l : LLine) (s : List Int) : Mat := rcloseM (l.gives.length + 2) (rlineB l s 1)
def withB (l : LLine) (s : List Int) : Bool := diagB (l.gives.length + 2) (withV l s) && decide ((s.length : Int) ≤ l.taps)
theorem withV_sq {l : LLine} (h : Lw l) (s : List Int) : Sq (l.gives.length + 2) (withV l s) := rclose_sq _ (rlineB_okw h s (by omega) (by omega))
theorem with_holds {l : LLine} (h : Lw l) (s : List Int) (x : Nat → Int) : ((∀ i, i < l.gives.length + 2 → 0 ≤ x i - x 0 ∧ x i - x 0 ≤ 400) ∧ ∀ c ∈ rlineB l s 1, c.holds x) ↔ Fl l s fun p => x (1 + p) - x 0 := by
  rw [← rline_holds h s 1 x]
  refine and_congr ⟨fun hx p hp => hx _ (by omega), fun hx i hi => ?_⟩ Iff.rfl
  by_cases g : i = 0
  · subst g; omega
  · have := hx (i - 1) (by omega)
    rw [show 1 + (i - 1) = i by omega] at this; exact this
theorem with_tells {l : LLine} (h : Lw l) {s : List Int} (hW : withB l s = true) : Tells (l.gives.length + 2) (fun x => Fl l s fun p => x (1 + p) - x 0) (withV l s) := by
  have hp := h.pts
  unfold withB at hW
  rw [Bool.and_eq_true] at hW
  exact Tells.imp (rclose_tells (by omega) (rlineB_okw h s (by omega) (by omega)) hW.1) fun x => with_holds h s x
theorem withB_iff {l : LLine} (h : Lw l) (s : List Int) : withB l s = true ↔ (s.length : Int) ≤ l.taps ∧ ∃ f, Fl l s f := by
  constructor
  · intro hW
    refine ⟨?_, _, (with_tells h hW).met 0 (by omega)⟩
    unfold withB at hW
    rw [Bool.and_eq_true, decide_eq_true_iff] at hW
    exact hW.2
  · rintro ⟨ht, f, hf⟩
    unfold withB
    rw [Bool.and_eq_true, decide_eq_true_iff]
    refine ⟨?_, ht⟩
    cases hd : diagB (l.gives.length + 2) (withV l s) with
    | true => rfl
    | false =>
      refine (rclose_none (rlineB_okw h s (by omega) (by omega)) hd (fun i => if i = 0 then 0 else f (i - 1)) ((with_holds h s _).2 (hf.congr h fun p hp => ?_))).elim
      show f p = (if 1 + p = 0 then 0 else f (1 + p - 1)) - (if 0 = 0 then 0 else _)
      rw [if_neg (by omega), if_pos rfl, show 1 + p - 1 = p by omega]; omega
def rSets (l : LLine) : List (List Int) := (setsL l.gives.length).filter (withB l)
theorem rSets_eq {l : LLine} (h : Lw l) : rSets l = setsOut l := by
  rw [setsOut_eq]
  refine List.filter_congr fun s _ => ?_
  rw [Bool.eq_iff_iff, withB_iff h, expl_iff h]
def rPoss (l : LLine) : Bool := decide ((rSets l).length > 0)
theorem rPoss_eq {l : LLine} (h : Lw l) : rPoss l = possB l := by
  unfold rPoss possB
  rw [rSets_eq h, setsOut_len]
end Go.Av.Fx
end
section
namespace Go.Av.Fx
open Go Go.Av Go.Proofs
open Go.Fw (Sq ent Bd Mat Tells Good)
def Near (l : LLine) (a b : List Int) (pts : List Int) (off : Int) : Prop :=
 ∃ f g, Fl l a f ∧ Fl l b g ∧ ∀ p ∈ pts, g p.toNat - f p.toNat ≤ 2 * off ∧ f p.toNat - g p.toNat ≤ 2 * off
theorem Near.swap {l : LLine} {a b : List Int} {pts : List Int} {off : Int} : Near l a b pts off → Near l b a pts off :=
 fun ⟨f, g, hf, hg, h⟩ => ⟨g, f, hg, hf, fun p hp => ⟨(h p hp).2, (h p hp).1⟩⟩
abbrev PtsIn (l : LLine) (pts : List Int) : Prop := ∀ p ∈ pts, 0 ≤ p ∧ p ≤ l.gives.length
theorem alike_ok {l : LLine} (h : Lw l) (a b : List Int) {pts : List Int} (hp : PtsIn l pts) {off : Int} (ho : 0 ≤ off ∧ off ≤ 20) : ∀ c ∈ alikeCs l a b pts off, c.Ok 400 400 (2 * (l.gives.length + 1) + 1) := by
 intro c hc
 unfold alikeCs at hc
 rw [List.mem_append, List.mem_append, List.mem_flatMap] at hc
 rcases hc with (hc | hc) | ⟨p, hp1, hc⟩
 ·exact lineB_okw h a (by omega) (by omega) (.inr (by omega)) c hc
 ·exact lineB_okw h b (by omega) (by omega) (.inr (by omega)) c hc
 ·have := hp p hp1
  simp only [pairB, List.mem_cons, List.not_mem_nil, or_false] at hc
  rcases hc with rfl | rfl
  ·exact ⟨by show p.toNat < _; omega, by show l.gives.length + 1 + p.toNat < _; omega, by show p.toNat ≠ l.gives.length + 1 + p.toNat; omega, by show -400 ≤ 2 * off; omega, by show 2 * off ≤ 400; omega⟩
  ·exact ⟨by show l.gives.length + 1 + p.toNat < _; omega, by show p.toNat < _; omega, by show l.gives.length + 1 + p.toNat ≠ p.toNat; omega, by show -400 ≤ 2 * off; omega, by show 2 * off ≤ 400; omega⟩
theorem alike_holds (l : LLine) (a b pts : List Int) (off : Int) (x : Nat → Int) : (∀ c ∈ alikeCs l a b pts off, c.holds x) ↔
  Fl l a (fun p => x (0 + p) - x (2 * (l.gives.length + 1))) ∧ Fl l b (fun p => x (l.gives.length + 1 + p) - x (2 * (l.gives.length + 1))) ∧ ∀ p ∈ pts, x (l.gives.length + 1 + p.toNat) - x p.toNat ≤ 2 * off ∧ x p.toNat - x (l.gives.length + 1 + p.toNat) ≤ 2 * off := by
 rw [← lineB_holds l a 0, ← lineB_holds l b (l.gives.length + 1)]
 unfold alikeCs
 constructor
 ·intro hx
  refine ⟨fun c hc => hx c (List.mem_append_left _ (List.mem_append_left _ hc)), fun c hc => hx c (List.mem_append_left _ (List.mem_append_right _ hc)), fun p hp => ⟨?_, ?_⟩⟩
  ·exact hx ⟨p.toNat, l.gives.length + 1 + p.toNat, 2 * off⟩ (List.mem_append_right _ (List.mem_flatMap.2 ⟨p, hp, List.mem_cons_self⟩))
  ·exact hx ⟨l.gives.length + 1 + p.toNat, p.toNat, 2 * off⟩ (List.mem_append_right _ (List.mem_flatMap.2 ⟨p, hp, List.mem_cons_of_mem _ List.mem_cons_self⟩))
 ·rintro ⟨h1, h2, h3⟩ c hc
  rcases List.mem_append.1 hc with hc | hc
  ·rcases List.mem_append.1 hc with hc | hc
   ·exact h1 c hc
   ·exact h2 c hc
  ·obtain ⟨p, hp, hc⟩ := List.mem_flatMap.1 hc
   simp only [pairB, List.mem_cons, List.not_mem_nil, or_false] at hc
   rcases hc with rfl | rfl
   ·exact (h3 p hp).1
   ·exact (h3 p hp).2
theorem alike_iff {l : LLine} (h : Lw l) {a b pts : List Int} (hp : PtsIn l pts) {off : Int} (ho : 0 ≤ off ∧ off ≤ 20) : alikeB l a b pts off = true ↔ Near l a b pts off := by
 have hm := h.pts
 have hok := alike_ok h a b hp ho
 have hold := alike_holds l a b pts off
 unfold alikeB
 cases hc : closeC (2 * (l.gives.length + 1) + 1) (alikeCs l a b pts off) with
 | none =>
  refine ⟨fun e => (by cases e), fun ⟨f, g, hf, hg, hn⟩ => ?_⟩
  refine (closeC_none hok hc (fun i => if i ≤ l.gives.length then f i else if i ≤ 2 * l.gives.length + 1 then g (i - (l.gives.length + 1)) else 0) ((hold _).2 ⟨hf.congr h fun p hp => ?_, hg.congr h fun p hp => ?_, fun p hp' => ?_⟩)).elim
  ·show f p = (if 0 + p ≤ l.gives.length then f (0 + p) else _) - (if 2 * (l.gives.length + 1) ≤ l.gives.length then _ else if 2 * (l.gives.length + 1) ≤ 2 * l.gives.length + 1 then _ else 0)
   rw [Nat.zero_add, if_pos hp, if_neg (by omega), if_neg (by omega)]; omega
  ·show g p = (if l.gives.length + 1 + p ≤ l.gives.length then _ else if l.gives.length + 1 + p ≤ 2 * l.gives.length + 1 then g (l.gives.length + 1 + p - (l.gives.length + 1)) else 0) - (if 2 * (l.gives.length + 1) ≤ l.gives.length then _ else if 2 * (l.gives.length + 1) ≤ 2 * l.gives.length + 1 then _ else 0)
   rw [if_neg (by omega), if_pos (by omega), if_neg (by omega), if_neg (by omega), show l.gives.length + 1 + p - (l.gives.length + 1) = p by omega]; omega
  ·have hq := hp p hp'
   have hh := hn p hp'
   try dsimp only
   rw [if_neg (by omega), if_pos (by omega), if_pos (by omega), show l.gives.length + 1 + p.toNat - (l.gives.length + 1) = p.toNat by omega]
   exact hh
 | some W =>
  refine ⟨fun _ => ?_, fun _ => rfl⟩
  have finA := line_fin (n := 2 * (l.gives.length + 1) + 1) (by omega) hok hc (l := l) (s := a) (b := 0) (dry := 2 * (l.gives.length + 1)) (by omega) (by omega) fun c hc => List.mem_append_left _ (List.mem_append_left _ hc)
  have finB := line_fin (n := 2 * (l.gives.length + 1) + 1) (by omega) hok hc (l := l) (s := b) (b := l.gives.length + 1) (dry := 2 * (l.gives.length + 1)) (by omega) (by omega) fun c hc => List.mem_append_left _ (List.mem_append_right _ hc)
  have e : ∀ i, i < 2 * (l.gives.length + 1) + 1 → ent W (2 * (l.gives.length + 1)) i < far ∧ ent W i (2 * (l.gives.length + 1)) < far := fun i hi => by
   by_cases g : i = 2 * (l.gives.length + 1)
   ·subst g
    have h1 := finA 0 (Nat.zero_le _)
    exact ⟨closeC_trans (by omega) hok hc (by omega) (show 0 + 0 < 2 * (l.gives.length + 1) + 1 by omega) (by omega) h1.1 h1.2, closeC_trans (by omega) hok hc (by omega) (show 0 + 0 < 2 * (l.gives.length + 1) + 1 by omega) (by omega) h1.1 h1.2⟩
   ·by_cases g2 : i ≤ l.gives.length
    ·have := finA i g2
     rw [Nat.zero_add] at this; exact this
    ·have := finB (i - (l.gives.length + 1)) (by omega)
     rw [show l.gives.length + 1 + (i - (l.gives.length + 1)) = i by omega] at this; exact this
  have ht := closeC_tells (by omega) hok hc fun i j hi hj => closeC_trans (by omega) hok hc hi (show 2 * (l.gives.length + 1) < 2 * (l.gives.length + 1) + 1 by omega) hj (e i hi).2 (e j hj).1
  obtain ⟨h1, h2, h3⟩ := (hold _).1 (ht.met 0 (by omega))
  refine ⟨_, _, h1, h2, fun p hp' => ?_⟩
  have := h3 p hp'
  try dsimp only
  rw [Nat.zero_add]
  omega
def rpairB (l : LLine) (off : Int) (p : Int) : List Bd := [⟨1 + p.toNat, 1 + (l.gives.length + 1) + p.toNat, 2 * off⟩, ⟨1 + (l.gives.length + 1) + p.toNat, 1 + p.toNat, 2 * off⟩]
def ralikeCs (l : LLine) (a b pts : List Int) (off : Int) : List Bd := rlineB l a 1 ++ rlineB l b (1 + (l.gives.length + 1)) ++ pts.flatMap (rpairB l off)
def ralikeB (l : LLine) (a b pts : List Int) (off : Int) : Bool := diagB (2 * (l.gives.length + 1) + 1) (rcloseM (2 * (l.gives.length + 1) + 1) (ralikeCs l a b pts off))
theorem ralike_ok {l : LLine} (h : Lw l) (a b : List Int) {pts : List Int} (hp : PtsIn l pts) {off : Int} (ho : 0 ≤ off ∧ off ≤ 20) : ∀ c ∈ ralikeCs l a b pts off, c.Ok 400 400 (2 * (l.gives.length + 1) + 1) := by
 intro c hc
 unfold ralikeCs at hc
 rw [List.mem_append, List.mem_append, List.mem_flatMap] at hc
 rcases hc with (hc | hc) | ⟨p, hp1, hc⟩
 ·exact rlineB_okw h a (by omega) (by omega) c hc
 ·exact rlineB_okw h b (by omega) (by omega) c hc
 ·have := hp p hp1
  simp only [rpairB, List.mem_cons, List.not_mem_nil, or_false] at hc
  rcases hc with rfl | rfl
  ·exact ⟨by show 1 + p.toNat < _; omega, by show 1 + (l.gives.length + 1) + p.toNat < _; omega, by show 1 + p.toNat ≠ 1 + (l.gives.length + 1) + p.toNat; omega, by show -400 ≤ 2 * off; omega, by show 2 * off ≤ 400; omega⟩
  ·exact ⟨by show 1 + (l.gives.length + 1) + p.toNat < _; omega, by show 1 + p.toNat < _; omega, by show 1 + (l.gives.length + 1) + p.toNat ≠ 1 + p.toNat; omega, by show -400 ≤ 2 * off; omega, by show 2 * off ≤ 400; omega⟩
theorem ralike_holds {l : LLine} (h : Lw l) (a b pts : List Int) (off : Int) (x : Nat → Int) : ((∀ i, i < 2 * (l.gives.length + 1) + 1 → 0 ≤ x i - x 0 ∧ x i - x 0 ≤ 400) ∧ ∀ c ∈ ralikeCs l a b pts off, c.holds x) ↔
  Fl l a (fun p => x (1 + p) - x 0) ∧ Fl l b (fun p => x (1 + (l.gives.length + 1) + p) - x 0) ∧ ∀ p ∈ pts, x (1 + (l.gives.length + 1) + p.toNat) - x (1 + p.toNat) ≤ 2 * off ∧ x (1 + p.toNat) - x (1 + (l.gives.length + 1) + p.toNat) ≤ 2 * off := by
 rw [← rline_holds h a 1, ← rline_holds h b (1 + (l.gives.length + 1))]
 unfold ralikeCs
 constructor
 ·rintro ⟨hb, hx⟩
  refine ⟨⟨fun p hp => hb _ (by omega), fun c hc => hx c (List.mem_append_left _ (List.mem_append_left _ hc))⟩, ⟨fun p hp => hb _ (by omega), fun c hc => hx c (List.mem_append_left _ (List.mem_append_right _ hc))⟩, fun p hp => ⟨?_, ?_⟩⟩
  ·exact hx ⟨1 + p.toNat, 1 + (l.gives.length + 1) + p.toNat, 2 * off⟩ (List.mem_append_right _ (List.mem_flatMap.2 ⟨p, hp, List.mem_cons_self⟩))
  ·exact hx ⟨1 + (l.gives.length + 1) + p.toNat, 1 + p.toNat, 2 * off⟩ (List.mem_append_right _ (List.mem_flatMap.2 ⟨p, hp, List.mem_cons_of_mem _ List.mem_cons_self⟩))
 ·rintro ⟨⟨b1, h1⟩, ⟨b2, h2⟩, h3⟩
  refine ⟨fun i hi => ?_, fun c hc => ?_⟩
  ·by_cases g : i = 0
   ·subst g; omega
   ·by_cases g2 : i ≤ l.gives.length + 1
    ·have := b1 (i - 1) (by omega)
     rw [show 1 + (i - 1) = i by omega] at this; exact this
    ·have := b2 (i - (1 + (l.gives.length + 1))) (by omega)
     rw [show 1 + (l.gives.length + 1) + (i - (1 + (l.gives.length + 1))) = i by omega] at this; exact this
  rcases List.mem_append.1 hc with hc | hc
  ·rcases List.mem_append.1 hc with hc | hc
   ·exact h1 c hc
   ·exact h2 c hc
  ·obtain ⟨p, hp, hc⟩ := List.mem_flatMap.1 hc
   simp only [rpairB, List.mem_cons, List.not_mem_nil, or_false] at hc
   rcases hc with rfl | rfl
   ·exact (h3 p hp).1
   ·exact (h3 p hp).2
theorem ralike_iff {l : LLine} (h : Lw l) {a b pts : List Int} (hp : PtsIn l pts) {off : Int} (ho : 0 ≤ off ∧ off ≤ 20) : ralikeB l a b pts off = true ↔ Near l a b pts off := by
 have hm := h.pts
 have hok := ralike_ok h a b hp ho
 have hold := ralike_holds h a b pts off
 unfold ralikeB
 constructor
 ·intro hd
  obtain ⟨h1, h2, h3⟩ := (hold _).1 ((rclose_tells (by omega) hok hd).met 0 (by omega))
  refine ⟨_, _, h1, h2, fun p hp' => ?_⟩
  have := h3 p hp'
  try dsimp only
  omega
 ·rintro ⟨f, g, hf, hg, hn⟩
  cases hd : diagB (2 * (l.gives.length + 1) + 1) (rcloseM (2 * (l.gives.length + 1) + 1) (ralikeCs l a b pts off)) with
  | true => rfl
  | false =>
   refine (rclose_none hok hd (fun i => if i = 0 then 0 else if i ≤ l.gives.length + 1 then f (i - 1) else g (i - (1 + (l.gives.length + 1)))) ((hold _).2 ⟨hf.congr h fun p hp => ?_, hg.congr h fun p hp => ?_, fun p hp' => ?_⟩)).elim
   ·show f p = (if 1 + p = 0 then 0 else if 1 + p ≤ l.gives.length + 1 then f (1 + p - 1) else _) - (if 0 = 0 then 0 else _)
    rw [if_neg (by omega), if_pos (by omega), if_pos rfl, show 1 + p - 1 = p by omega]; omega
   ·show g p = (if 1 + (l.gives.length + 1) + p = 0 then 0 else if 1 + (l.gives.length + 1) + p ≤ l.gives.length + 1 then _ else g (1 + (l.gives.length + 1) + p - (1 + (l.gives.length + 1)))) - (if 0 = 0 then 0 else _)
    rw [if_neg (by omega), if_neg (by omega), if_pos rfl, show 1 + (l.gives.length + 1) + p - (1 + (l.gives.length + 1)) = p by omega]; omega
   ·have hq := hp p hp'
    have hh := hn p hp'
    try dsimp only
    rw [if_neg (by omega), if_neg (by omega), if_neg (by omega), if_pos (by omega), show 1 + (l.gives.length + 1) + p.toNat - (1 + (l.gives.length + 1)) = p.toNat by omega, show 1 + p.toNat - 1 = p.toNat by omega]
    exact hh
theorem alike_eq {l : LLine} (h : Lw l) {a b pts : List Int} (hp : PtsIn l pts) {off : Int} (ho : 0 ≤ off ∧ off ≤ 20) : ralikeB l b a pts off = alikeB l a b pts off := by
 rw [Bool.eq_iff_iff, ralike_iff h hp ho, alike_iff h hp ho]
 exact ⟨Near.swap, Near.swap⟩
def rTellsB (l : LLine) (pts : List Int) (off : Int) : Bool :=
 (List.range (rSets l).length).all fun i => (List.range i).all fun k => !ralikeB l ((rSets l).getD k []) ((rSets l).getD i []) pts off
theorem all_cong {α : Type} {L : List α} {p q : α → Bool} (h : ∀ x ∈ L, p x = q x) : L.all p = L.all q := by
 induction L with
 | nil => rfl
 | cons a L ih => rw [List.all_cons, List.all_cons, h a List.mem_cons_self, ih fun x hx => h x (List.mem_cons_of_mem _ hx)]
theorem tells_eq {l : LLine} (h : Lw l) {pts : List Int} (hp : PtsIn l pts) {off : Int} (ho : 0 ≤ off ∧ off ≤ 20) : rTellsB l pts off = tellsB l (theftsL l) pts off := by
 unfold rTellsB tellsB
 rw [rSets_eq h, setsOut_len]
 have e : ∀ i, (setsOut l).getD i [] = ((theftsL l).getD i ([], [])).1 := fun i => by
  unfold setsOut
  rw [List.getD_eq_getElem?_getD, List.getD_eq_getElem?_getD, List.getElem?_map]
  cases (theftsL l)[i]? <;> rfl
 refine all_cong fun i _ => all_cong fun k _ => ?_
 rw [e, e, alike_eq h hp ho]
end Go.Av.Fx
end

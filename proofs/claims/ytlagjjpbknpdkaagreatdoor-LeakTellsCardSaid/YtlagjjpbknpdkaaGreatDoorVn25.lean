/- Part 25 of the proof. -/
import Derived.Test.YtlagjjpbknpdkaaGreatDoorVn22
import Derived.Test.YtlagjjpbknpdkaaGreatDoorVn24
import Derived.Test.YtlagjjpbknpdkaaGreatDoorVn20
set_option linter.all false
set_option linter.unusedVariables false
set_option linter.unusedSimpArgs false
set_option linter.unusedSectionVars false
open Nat (reduceEqDiff reduceAdd reduceLeDiff)
section
namespace Go.Av.Fx
open Go Go.Av Go.Av.Tb Go.Proofs
open Go.Fw (Sq ent Bd Mat)
@[go_sem] theorem bs32_1s (l : List AV) (n : Nat) (t : Tail) : buildSliceA T 32 1 [(0, .slice l n t)] = some (.slice [.slice l n t] 1 .exact) := rfl
theorem sr_app32 {K : AV → St → Prop} {hK : Hold K} {h : List (Option Blk)} {k n : Nat} {l : List AV} {x : AV} (hx : AV.one x = true) (h7 : n ≤ 1000000) (h9 : l.length = n)
  (next : K (.slice (l ++ [x]) (n + 1) (tailN (k + 1))) ⟨h, k + 1, toksN (k + 1)⟩) : sr K hK (appendA T ⟨h, k, toksN k⟩ 32 (.slice l n (tailN k)) (.slice [x] 1 .exact)) ⟨h, k, toksN k⟩ := by
 rw [app_gen (e := 22) (ei := ti22) (lx := [x]) (nx := 1) rfl rfl (by decide) (by simp [heldA, ti22]) (by decide) (by simp [hx]) (by show (n + 1) * 24 ≤ _; omega) (by omega) (by simpa [ti22] using h9)]
 cases k with
 | zero => rw [tailN, sr_tok]; exact next
 | succ k =>
  rw [tailN, sr_tok_some]
  refine ⟨List.mem_cons_self, ?_⟩
  have : killTok (toksN (k + 1)) (some k) = [] := by simp [killTok, toksN]
  show K (.slice (l ++ [x]) (n + 1) (.tok (k + 1))) ⟨h, k + 1 + 1, (k + 1) :: killTok (toksN (k + 1)) (some k)⟩
  rw [this]; exact next
def R2 (m i j : Nat) : List (List Int) := ones m ++ ((List.range i).flatMap (twosAt m) ++ (List.range j).map fun (j : Nat) => [(i : Int), ((i + 1 + j : Nat) : Int)])
theorem R2_succ (m i j : Nat) : R2 m i (j + 1) = R2 m i j ++ [[(i : Int), ((i + 1 + j : Nat) : Int)]] := by simp [R2, List.range_succ]
theorem R2_next (m i : Nat) : R2 m (i + 1) 0 = R2 m i (m - (i + 1)) := by simp [R2, List.range_succ, twosAt]
theorem R2_zero (m : Nat) : R2 m 0 0 = ones m := by simp [R2]
theorem R2_all (m : Nat) : R2 m m 0 = ones m ++ twos m := by simp [R2, twos]
theorem ones_succ (k : Nat) : ones (k + 1) = ones k ++ [[(k : Int)]] := by simp [ones, List.range_succ]
theorem map_frz {α : Type} (h : List (Option Blk)) (f g : α → AV) (hf : ∀ a, Frz h (f a) (g a)) (L : List α) : ∀ (j : Nat) (x y : AV), (L.map f)[j]? = some x → (L.map g)[j]? = some y → Frz h x y := by
 intro j x y hx hy
 rw [List.getElem?_map] at hx hy
 cases e : L[j]? with
 | none => rw [e] at hx; cases hx
 | some a => rw [e] at hx hy; cases hx; cases hy; exact hf a
theorem rall_pc (l : LLine) (hl : l.gives.length ≤ 1000) : PC Tryz.prog 78 [lineA l] (.pure (sll (setsL l.gives.length))) := by
 refine PC.of_frz (AC.run (E_ok _) mix Tryz.func78 m78 rfl rfl rfl (Nat.le_of_ble_eq_true rfl) ?_) (by simp [bndL, AV.bnd]) (by simp [AV.bnd])
 simp only [go_sem, boxA, reduceEqDiff, Nat.reduceBEq, reduceAdd, reduceIte, reduceCtorEq, reduceLeDiff]
 refine wc_for l.gives.length (fun k => [(1, .ref 0 0), (3, .slice (([] :: ones k).map setA) ((ones k).length + 1) (tailN (ones k).length)), (4, .int .i64 k)]) (fun k => ⟨[some (.cells (lineC l))], (ones k).length, toksN (ones k).length⟩) rfl rfl ?_
 intro k hk I hI
 by_cases h' : k < l.gives.length
 ·have h1 : (k : Int) < l.gives.length := by omega
  have h4 : IntKind.i64.wrap ((k : Int) + 1) = (k + 1 : Nat) := wrap64 (by omega)
  simp only [go_sem, l78_0, builtinA, h1, decide_true, reduceEqDiff, Nat.reduceBEq, reduceAdd, reduceIte, reduceCtorEq, reduceLeDiff]
  refine sr_app32 (x := .slice [.int .i64 k] 1 .exact) rfl (by simp [ones]; omega) (by simp) ?_
  simp only [go_sem, h4, reduceEqDiff, Nat.reduceBEq, reduceAdd, reduceIte, reduceCtorEq, reduceLeDiff]
  have := hI h'
  rw [ones_succ, List.length_append] at this
  simpa [setA, ints] using this
 have h1 : ¬ (k : Int) < l.gives.length := by omega
 have e : k = l.gives.length := by omega
 subst e
 clear hI hk h'
 simp only [go_sem, l78_0, builtinA, h1, decide_false, reduceEqDiff, Nat.reduceBEq, reduceAdd, reduceIte, reduceCtorEq, reduceLeDiff]
 have hones : (ones l.gives.length).length ≤ 1000 := by simp [ones]; omega
 rw [← R2_zero]
 refine wc_for l.gives.length (fun i => [(1, .ref 0 0), (3, .slice (([] :: R2 l.gives.length i 0).map setA) ((R2 l.gives.length i 0).length + 1) (tailN (R2 l.gives.length i 0).length)), (5, .int .i64 i)]) (fun i => ⟨[some (.cells (lineC l))], (R2 l.gives.length i 0).length, toksN (R2 l.gives.length i 0).length⟩) rfl rfl ?_
 intro i hi I hI
 have hfl : ∀ i, i ≤ l.gives.length → ((List.range i).flatMap (twosAt l.gives.length)).length ≤ 1000 * i := by
  intro i
  induction i with
  | zero => intro _; simp
  | succ i ih =>
   intro hi
   have := ih (by omega)
   rw [List.range_succ, List.flatMap_append, List.length_append]
   have e : ([i].flatMap (twosAt l.gives.length)).length = l.gives.length - (i + 1) := by simp [twosAt]
   rw [e]; omega
 by_cases h' : i < l.gives.length
 ·have h1 : (i : Int) < l.gives.length := by omega
  have h4 : IntKind.i64.wrap ((i : Int) + 1) = (i + 1 : Nat) := wrap64 (by omega)
  simp only [go_sem, l78_1, builtinA, h1, decide_true, h4, reduceEqDiff, Nat.reduceBEq, reduceAdd, reduceIte, reduceCtorEq, reduceLeDiff]
  refine wc_for (l.gives.length - (i + 1)) (fun j => [(1, .ref 0 0), (3, .slice (([] :: R2 l.gives.length i j).map setA) ((R2 l.gives.length i j).length + 1) (tailN (R2 l.gives.length i j).length)), (5, .int .i64 i), (6, .int .i64 (i + 1 + j : Nat))]) (fun j => ⟨[some (.cells (lineC l))], (R2 l.gives.length i j).length, toksN (R2 l.gives.length i j).length⟩) rfl rfl ?_
  intro j hj I2 hI2
  by_cases h'' : j < l.gives.length - (i + 1)
  ·have g1 : ((i + 1 + j : Nat) : Int) < l.gives.length := by omega
   have g4 : IntKind.i64.wrap (((i + 1 + j : Nat) : Int) + 1) = (i + 1 + (j + 1) : Nat) := by rw [wrap64 (by omega)]; omega
   simp only [go_sem, l78_2, builtinA, g1, decide_true, reduceEqDiff, Nat.reduceBEq, reduceAdd, reduceIte, reduceCtorEq, reduceLeDiff]
   refine sr_app32 (x := .slice [.int .i64 i, .int .i64 (i + 1 + j : Nat)] 2 .exact) rfl (by have := hfl i (by omega); simp only [R2, ones, List.length_append, List.length_map, List.length_range]; omega) (by simp) ?_
   simp only [go_sem, g4, reduceEqDiff, Nat.reduceBEq, reduceAdd, reduceIte, reduceCtorEq, reduceLeDiff]
   have := hI2 h''
   rw [R2_succ, List.length_append] at this
   simpa [setA, ints] using this
  ·have g1 : ¬ ((i + 1 + j : Nat) : Int) < l.gives.length := by omega
   have e : j = l.gives.length - (i + 1) := by omega
   subst e
   simp only [go_sem, l78_2, builtinA, g1, decide_false, h4, reduceEqDiff, Nat.reduceBEq, reduceAdd, reduceIte, reduceCtorEq, reduceLeDiff]
   have := hI h'
   rw [R2_next] at this
   exact this
 ·have h1 : ¬ (i : Int) < l.gives.length := by omega
  have e : i = l.gives.length := by omega
  subst e
  rw [R2_all]
  simp only [go_sem, l78_1, builtinA, h1, decide_false, Tryz.f78, reduceEqDiff, Nat.reduceBEq, reduceAdd, reduceIte, reduceCtorEq, reduceLeDiff]
  refine ⟨_, rfl, ?_⟩
  have e : (setsL l.gives.length).length = (ones l.gives.length ++ twos l.gives.length).length + 1 := by simp [setsL]
  unfold sll
  rw [e]
  exact .slice _ _ _ _ (by simp [setsL, sls]) (map_frz _ setA sl (setA_frz _) (setsL l.gives.length))
theorem setsL_sz {m : Nat} (h : m ≤ 5) : ∀ s ∈ setsL m, s.length ≤ 1000 := by
 have : ∀ m, m ≤ 5 → ∀ s ∈ setsL m, s.length ≤ 1000 := by decide
 exact this m h
theorem rSets_pc (l : LLine) (h : Lw l) : PC Tryz.prog 27 [lineA l] (.pure (sll (rSets l))) := by
 have hp := h.pts
 refine PC.of_frz (AC.run (E_ok _) mix Tryz.func27 m27 rfl rfl rfl (Nat.le_of_ble_eq_true rfl) ?_) (by simp [bndL, AV.bnd]) (by simp [AV.bnd])
 simp only [go_sem, boxA, reduceEqDiff, Nat.reduceBEq, reduceAdd, reduceIte, reduceCtorEq, reduceLeDiff]
 refine cp n78 (rall_pc l (by omega)) (SubL.refl _) ?_
 simp only [go_sem, reduceEqDiff, Nat.reduceBEq, reduceAdd, reduceIte, reduceCtorEq, reduceLeDiff]
 have hr : rSets l = (setsL l.gives.length).filter (withB l) := rfl
 rw [hr]
 have hsz := setsL_sz hp.2
 have hlen := setsL_len5 hp.2
 generalize setsL l.gives.length = A at *
 refine wc_for A.length (fun k => [(1, .ref 0 0), (3, gro (sls ((A.take k).filter (withB l)))), (4, sll A), (5, .int .i64 k)]) (fun k => ⟨[some (.cells (lineC l))], ((A.take k).filter (withB l)).length, toksN ((A.take k).filter (withB l)).length⟩) rfl rfl ?_
 intro k hk I hI
 by_cases h' : k < A.length
 ·have h1 : (k : Int) < A.length := by omega
  have h2 : 0 ≤ (k : Int) ∧ (k : Int) < A.length := by omega
  have h3 : A[k]? = some A[k] := List.getElem?_eq_getElem h'
  have h4 : IntKind.i64.wrap ((k : Int) + 1) = (k + 1 : Nat) := wrap64 (by omega)
  have hI' := hI h'
  rw [List.take_succ_eq_append_getElem h', List.filter_append] at hI'
  simp only [go_sem, l27_0, builtinA, h1, decide_true, h2, sls_get, h3, Option.map_some, reduceEqDiff, Nat.reduceBEq, reduceAdd, reduceIte, reduceCtorEq, reduceLeDiff]
  refine qp n79 (with_pc l h A[k] (hsz _ (List.getElem_mem h'))) (SubL.refl _) ?_
  have hle := List.length_filter_le (withB l) (A.take k)
  rw [List.length_take] at hle
  cases hw : withB l A[k]
  ·rw [List.filter_cons, hw] at hI'
   simp only [Bool.false_eq_true, if_false, List.filter_nil, List.append_nil] at hI'
   simp only [go_sem, withA, hw, extractA, h4, reduceEqDiff, Nat.reduceBEq, reduceAdd, reduceIte, reduceCtorEq, reduceLeDiff]
   exact hI'
  ·rw [List.filter_cons, hw] at hI'
   simp only [if_true, List.filter_nil] at hI'
   simp only [go_sem, withA, hw, extractA, builtinA, h2, sls_get, h3, Option.map_some, reduceEqDiff, Nat.reduceBEq, reduceAdd, reduceIte, reduceCtorEq, reduceLeDiff]
   refine sr_gro32 _ _ _ _ _ (by simp) (by omega) ?_
   simp only [go_sem, h4, reduceEqDiff, Nat.reduceBEq, reduceAdd, reduceIte, reduceCtorEq, reduceLeDiff]
   rw [List.length_append] at hI'
   simpa [sls] using hI'
 ·have h1 : ¬ (k : Int) < A.length := by omega
  simp only [go_sem, l27_0, builtinA, h1, decide_false, Tryz.f27, reduceEqDiff, Nat.reduceBEq, reduceAdd, reduceIte, reduceCtorEq, reduceLeDiff]
  rw [List.take_of_length_le (by omega)]
  refine ⟨_, rfl, ?_⟩
  have := gro_frz_same [some (Blk.cells (lineC l))] (sls (A.filter (withB l)))
  rw [sls_len] at this
  exact this
theorem rPoss_pc (l : LLine) (h : Lw l) : PC Tryz.prog 71 [lineA l] (.pure (.bool (rPoss l))) := by
 refine PC.of_empty (AC.run (E_ok _) mix Tryz.func71 m71 rfl rfl rfl (Nat.le_of_ble_eq_true rfl) ?_) (by simp [bndL, AV.bnd]) rfl
 simp only [go_sem, boxA, reduceEqDiff, Nat.reduceBEq, reduceAdd, reduceIte, reduceCtorEq, reduceLeDiff]
 refine cp n27 (rSets_pc l h) (SubL.refl _) ?_
 have e : decide (((rSets l).length : Int) > 0) = rPoss l := by
  unfold rPoss
  rw [Bool.eq_iff_iff, decide_eq_true_iff, decide_eq_true_iff]
  omega
 simp only [go_sem, builtinA, e, Tryz.f71, reduceEqDiff, Nat.reduceBEq, reduceAdd, reduceIte, reduceCtorEq, reduceLeDiff]
theorem rasked_pc (l : LLine) (ok : okLine l) (fine : Bool) : PC Tryz.prog 23 [lineA l, .bool fine] (.pure (.int .i64 (askE l fine))) := by
 refine PC.of_empty (AC.run (E_ok _) mix Tryz.func23 m23 rfl rfl rfl (Nat.le_of_ble_eq_true rfl) ?_) (by simp [bndL, AV.bnd]) rfl
 simp only [go_sem, boxA, reduceEqDiff, Nat.reduceBEq, reduceAdd, reduceIte, reduceCtorEq, reduceLeDiff]
 refine cp n28 (rLine_pc l ok) (SubL.refl _) ?_
 unfold askE
 cases h : isLineB l
 ·simp only [go_sem, un_not, Bool.not_false, Tryz.f23, reduceEqDiff, Nat.reduceBEq, reduceAdd, reduceIte, reduceCtorEq, reduceLeDiff]
 cases fine
 ·simp only [go_sem, un_not, Bool.not_true, Bool.not_false, Tryz.f23, reduceEqDiff, Nat.reduceBEq, reduceAdd, reduceIte, reduceCtorEq, reduceLeDiff]
 simp only [go_sem, un_not, Bool.not_true, reduceEqDiff, Nat.reduceBEq, reduceAdd, reduceIte, reduceCtorEq, reduceLeDiff]
 refine cp n71 (rPoss_pc l (isLine_iff.1 h).lw) (SubL.refl _) ?_
 rw [rPoss_eq (isLine_iff.1 h).lw]
 cases hp : possB l
 ·simp only [go_sem, un_not, Bool.not_false, Tryz.f23, reduceEqDiff, Nat.reduceBEq, reduceAdd, reduceIte, reduceCtorEq, reduceLeDiff]
 ·simp only [go_sem, un_not, Bool.not_true, Tryz.f23, reduceEqDiff, Nat.reduceBEq, reduceAdd, reduceIte, reduceCtorEq, reduceLeDiff]
end Go.Av.Fx
end
section
namespace Go.Av.Fx
open Go Go.Av Go.Av.Tb Go.Proofs
@[go_sem] theorem bs93_b (n : Int) : buildSliceA T 93 1 [(0, .int .u8 n)] = some (.slice [.int .u8 n] 1 .exact) := rfl
theorem bstr (S : St) (n : Int) (t : Tail) : convMemA T S 93 9 (.slice [.int .u8 n] 1 t) = some (.pure (.str (strOfNums [n]))) := rfl
theorem itoa_dig {d : Nat} (h : d < 10) : strOfNums [48 + (d : Int)] = ⟨#[UInt8.ofNat (48 + d)]⟩ := by
 have : ∀ d : Nat, d < 10 → strOfNums [48 + (d : Int)] = ⟨#[UInt8.ofNat (48 + d)]⟩ := by
  intro d hd
  match d, hd with
  | 0, _ => rfl
  | 1, _ => rfl
  | 2, _ => rfl
  | 3, _ => rfl
  | 4, _ => rfl
  | 5, _ => rfl
  | 6, _ => rfl
  | 7, _ => rfl
  | 8, _ => rfl
  | 9, _ => rfl
 exact this d h
theorem ba_ext {a b : ByteArray} (h : a.data.toList = b.data.toList) : a = b := by
 cases a; cases b
 simp only [ByteArray.mk.injEq]
 exact Array.toList_inj.1 h
theorem app_list (a b : ByteArray) : (a ++ b).data.toList = a.data.toList ++ b.data.toList := by simp [ByteArray.data_append]
theorem itoaB_small {n : Int} (h0 : 0 ≤ n) (h : n < 10) : itoaB n = ⟨#[UInt8.ofNat (48 + n.toNat)]⟩ := by
 unfold itoaB Lib.itoa
 rw [if_neg (by omega), Lib.decDigits_one (by omega)]
theorem itoaB_negsmall {n : Int} (h0 : -10 < n) (h : n < 0) : itoaB n = ⟨#[45]⟩ ++ ⟨#[UInt8.ofNat (48 + (-n).toNat)]⟩ := by
 apply ba_ext
 rw [app_list]
 unfold itoaB Lib.itoa
 rw [if_pos h, Lib.decDigits_one (by omega), show n.natAbs = (-n).toNat by omega]; rfl
theorem itoaB_big {n : Int} (h : 10 ≤ n) : itoaB n = itoaB (n.tdiv 10) ++ ⟨#[UInt8.ofNat (48 + (n.tmod 10).toNat)]⟩ := by
 have d2 : n.tdiv 10 = n / 10 := Int.tdiv_eq_ediv_of_nonneg (by omega)
 have d4 : n.tmod 10 = n % 10 := Int.tmod_eq_emod_of_nonneg (by omega)
 apply ba_ext
 rw [app_list, d2, d4]
 unfold itoaB Lib.itoa
 rw [if_neg (by omega), if_neg (by omega), Lib.decDigits, dif_neg (by omega), show (n / 10).toNat = n.toNat / 10 by omega, show (n % 10).toNat = n.toNat % 10 by omega]
theorem itoaB_negbig {n : Int} (h : n ≤ -10) : itoaB n = itoaB (n.tdiv 10) ++ ⟨#[UInt8.ofNat (48 + (-(n.tmod 10)).toNat)]⟩ := by
 have e1 : n.tdiv 10 = -((-n) / 10) := by
  have := Int.neg_tdiv (-n) 10
  rw [Int.neg_neg] at this
  rw [this, Int.tdiv_eq_ediv_of_nonneg (by omega)]
 have e2 : n.tmod 10 = -((-n) % 10) := by
  have := Int.neg_tmod (-n) 10
  rw [Int.neg_neg] at this
  rw [this, Int.tmod_eq_emod_of_nonneg (by omega)]
 apply ba_ext
 rw [app_list, e1, e2, Int.neg_neg]
 unfold itoaB Lib.itoa
 rw [if_pos (by omega), if_pos (by omega), Lib.decDigits, dif_neg (by omega), show (-(-n / 10)).natAbs = n.natAbs / 10 by omega, show (-n % 10).toNat = n.natAbs % 10 by omega]
 simp
@[go_sem] theorem conv35 (n : Int) : convA T 3 5 (.int .i64 n) = some (.int .u8 (IntKind.u8.wrap n)) := rfl
@[go_sem] theorem conv939 (l : List AV) (n : Nat) (t : Tail) : convA T 93 9 (.slice l n t) = none := rfl
theorem u8w {n : Int} (h : 0 ≤ n ∧ n ≤ 255) : IntKind.u8.wrap n = n := by rw [IntKind.wrap_u8]; omega
theorem Decimal_pc : ∀ (k : Nat) (n : Int), n.natAbs ≤ k → i64 n → PC Tryz.prog 147 [.int .i64 n] (.pure (.str (itoaB n))) := by
 intro k
 induction k with
 | zero =>
  intro n hk h
  have e : n = 0 := by omega
  subst e
  refine PC.of_empty (AC.run (E_ok _) mix Tryz.func147 m147 rfl rfl rfl (Nat.le_of_ble_eq_true rfl) ?_) rfl rfl
  have g1 : ((0 : Int) > -10) := by decide
  have g2 : ¬ ((0 : Int) < 0) := by decide
  have g3 : ((0 : Int) < 10) := by decide
  have w1 : IntKind.i64.wrap 48 = 48 := by decide
  have w2 : IntKind.u8.wrap 48 = 48 := by decide
  have hs : strOfNums [48] = itoaB 0 := by
   rw [itoaB_small (by decide) (by decide)]; rfl
  simp only [go_sem, g1, g2, g3, decide_true, decide_false, w1, w2, bstr, hs, Tryz.f147, reduceEqDiff, Nat.reduceBEq, reduceAdd, reduceIte, reduceCtorEq, reduceLeDiff]
 | succ k ih =>
  intro n hk h
  refine PC.of_empty (AC.run (E_ok _) mix Tryz.func147 m147 rfl rfl rfl (Nat.le_of_ble_eq_true rfl) ?_) rfl rfl
  unfold i64 at h
  by_cases hn : n < 0
  ·by_cases g1 : n > -10
   ·obtain ⟨d, hd⟩ : ∃ d : Nat, n = -(d : Int) := ⟨(-n).toNat, by omega⟩
    have w1 : IntKind.i64.wrap (48 - n) = 48 + (d : Int) := by rw [wrap64 (by omega)]; omega
    have w2 : IntKind.u8.wrap (48 + (d : Int)) = 48 + (d : Int) := u8w (by omega)
    have hs : binA T .add 9 (.str ⟨#[45]⟩) (.str (strOfNums [48 + (d : Int)])) = some (.str (itoaB n)) := by
     rw [itoaB_negsmall g1 hn, itoa_dig (by omega), show (-n).toNat = d by omega]
     exact addS (by show 1 + 1 ≤ _; omega)
    simp only [go_sem, g1, hn, decide_true, w1, w2, bstr, hs, Tryz.f147, reduceEqDiff, Nat.reduceBEq, reduceAdd, reduceIte, reduceCtorEq, reduceLeDiff]
   ·have hb := itoaB_negbig (n := n) (by omega)
    have e1 : n.tdiv 10 = -((-n) / 10) := by
     have := Int.neg_tdiv (-n) 10
     rw [Int.neg_neg] at this
     rw [this, Int.tdiv_eq_ediv_of_nonneg (by omega)]
    have e2 : n.tmod 10 = -((-n) % 10) := by
     have := Int.neg_tmod (-n) 10
     rw [Int.neg_neg] at this
     rw [this, Int.tmod_eq_emod_of_nonneg (by omega)]
    obtain ⟨d, hd⟩ : ∃ d : Nat, -(n.tmod 10) = (d : Int) := ⟨(-(n.tmod 10)).toNat, by omega⟩
    have hd10 : d < 10 := by omega
    have q1 : intOp .quo .i64 n 10 = some (.int .i64 (n.tdiv 10)) := by
     show some (AV.int .i64 (IntKind.i64.wrap (n.tdiv 10))) = _
     rw [wrap64 (by omega)]
    have q2 : intOp .rem .i64 n 10 = some (.int .i64 (n.tmod 10)) := rfl
    have w1 : IntKind.i64.wrap (48 - n.tmod 10) = 48 + (d : Int) := by rw [wrap64 (by omega)]; omega
    have w2 : IntKind.u8.wrap (48 + (d : Int)) = 48 + (d : Int) := u8w (by omega)
    have hI : i64 (n.tdiv 10) := ⟨by omega, by omega⟩
    have hsz := itoaB_size hI
    have hs : binA T .add 9 (.str (itoaB (n.tdiv 10))) (.str (strOfNums [48 + (d : Int)])) = some (.str (itoaB n)) := by
     rw [hb, itoa_dig hd10, show (-(n.tmod 10)).toNat = d by omega]
     exact addS (by show _ + 1 ≤ _; omega)
    have hrec := ih (n.tdiv 10) (by omega) hI
    simp only [go_sem, g1, hn, decide_true, decide_false, q1, q2, reduceEqDiff, Nat.reduceBEq, reduceAdd, reduceIte, reduceCtorEq, reduceLeDiff]
    refine qp n147 hrec (SubL.refl _) ?_
    simp only [go_sem, q1, q2, w1, w2, bstr, hs, Tryz.f147, reduceEqDiff, Nat.reduceBEq, reduceAdd, reduceIte, reduceCtorEq, reduceLeDiff]
  ·have g1 : n > -10 := by omega
   by_cases g3 : n < 10
   ·obtain ⟨d, hd⟩ : ∃ d : Nat, n = (d : Int) := ⟨n.toNat, by omega⟩
    have w1 : IntKind.i64.wrap (48 + n) = 48 + (d : Int) := by rw [wrap64 (by omega)]; omega
    have w2 : IntKind.u8.wrap (48 + (d : Int)) = 48 + (d : Int) := u8w (by omega)
    have hs : strOfNums [48 + (d : Int)] = itoaB n := by
     rw [itoaB_small (by omega) g3, itoa_dig (by omega), show n.toNat = d by omega]
    simp only [go_sem, g1, hn, g3, decide_true, decide_false, w1, w2, bstr, hs, Tryz.f147, reduceEqDiff, Nat.reduceBEq, reduceAdd, reduceIte, reduceCtorEq, reduceLeDiff]
   ·have hb := itoaB_big (n := n) (by omega)
    have e1 : n.tdiv 10 = n / 10 := Int.tdiv_eq_ediv_of_nonneg (by omega)
    have e2 : n.tmod 10 = n % 10 := Int.tmod_eq_emod_of_nonneg (by omega)
    obtain ⟨d, hd⟩ : ∃ d : Nat, n.tmod 10 = (d : Int) := ⟨(n.tmod 10).toNat, by omega⟩
    have hd10 : d < 10 := by omega
    have q1 : intOp .quo .i64 n 10 = some (.int .i64 (n.tdiv 10)) := by
     show some (AV.int .i64 (IntKind.i64.wrap (n.tdiv 10))) = _
     rw [wrap64 (by omega)]
    have q2 : intOp .rem .i64 n 10 = some (.int .i64 (n.tmod 10)) := rfl
    have w1 : IntKind.i64.wrap (48 + n.tmod 10) = 48 + (d : Int) := by rw [wrap64 (by omega)]; omega
    have w2 : IntKind.u8.wrap (48 + (d : Int)) = 48 + (d : Int) := u8w (by omega)
    have hI : i64 (n.tdiv 10) := ⟨by omega, by omega⟩
    have hsz := itoaB_size hI
    have hs : binA T .add 9 (.str (itoaB (n.tdiv 10))) (.str (strOfNums [48 + (d : Int)])) = some (.str (itoaB n)) := by
     rw [hb, itoa_dig hd10, show (n.tmod 10).toNat = d by omega]
     exact addS (by show _ + 1 ≤ _; omega)
    have hrec := ih (n.tdiv 10) (by omega) hI
    simp only [go_sem, g1, hn, g3, decide_true, decide_false, q1, q2, reduceEqDiff, Nat.reduceBEq, reduceAdd, reduceIte, reduceCtorEq, reduceLeDiff]
    refine qp n147 hrec (SubL.refl _) ?_
    simp only [go_sem, q1, q2, w1, w2, bstr, hs, Tryz.f147, reduceEqDiff, Nat.reduceBEq, reduceAdd, reduceIte, reduceCtorEq, reduceLeDiff]
theorem rRow_pc (w : ByteArray) (hw : w.size ≤ 1000) (ns : List Int) (hn : ns.length ≤ 10) (h : ∀ n ∈ ns, i64 n) : PC Tryz.prog 111 [.str w, sl ns] (.pure (.str (rowN w ns))) := by
 refine PC.of_empty (AC.run (E_ok _) mix Tryz.func111 m111 rfl rfl rfl (Nat.le_of_ble_eq_true rfl) ?_) (by simp [bndL, AV.bnd]) rfl
 simp only [go_sem, reduceEqDiff, Nat.reduceBEq, reduceAdd, reduceIte, reduceCtorEq, reduceLeDiff]
 refine wc_for ns.length (fun k => [(0, .str (rowN w (ns.take k))), (1, sl ns), (5, .int .i64 k)]) (fun _ => St.empty) rfl rfl ?_
 intro k hk I hI
 by_cases h' : k < ns.length
 ·have h1 : (k : Int) < ns.length := by omega
  have h2 : 0 ≤ (k : Int) ∧ (k : Int) < ns.length := by omega
  have h3 : ns[k]? = some ns[k] := List.getElem?_eq_getElem h'
  have h4 : IntKind.i64.wrap ((k : Int) + 1) = (k + 1 : Nat) := wrap64 (by omega)
  have hm := h _ (List.getElem_mem h')
  have h5 := itoaB_size hm
  have h6 := rowN_size (ns.take k) w fun m hm => h m (List.mem_of_mem_take hm)
  have h8 : (ns.take k).length ≤ 10 := by simp; omega
  have a1 : binA T .add 9 (.str (rowN w (ns.take k))) (.str ⟨#[32]⟩) = some (.str (rowN w (ns.take k) ++ sp)) := addS (by show _ + 1 ≤ _; omega)
  have a2 : binA T .add 9 (.str (rowN w (ns.take k) ++ sp)) (.str (itoaB ns[k])) = some (.str (rowN w (ns.take k) ++ sp ++ itoaB ns[k])) := addS (by rw [ByteArray.size_append]; show _ + 1 + _ ≤ _; omega)
  simp only [go_sem, l111_0, builtinA, h1, decide_true, h2, ints_get, h3, a1, reduceEqDiff, Nat.reduceBEq, reduceAdd, reduceIte, reduceCtorEq, reduceLeDiff]
  refine cp n147 (Decimal_pc _ _ (Nat.le_refl _) hm) (SubL.refl _) ?_
  simp only [go_sem, a2, h4, reduceEqDiff, Nat.reduceBEq, reduceAdd, reduceIte, reduceCtorEq, reduceLeDiff]
  have := hI h'
  rw [rowN_take _ _ _ h', ← ByteArray.append_assoc] at this
  exact this
 ·have h1 : ¬ (k : Int) < ns.length := by omega
  have e : k = ns.length := by omega
  subst e
  simp only [go_sem, l111_0, builtinA, h1, decide_false, List.take_length, Tryz.f111, reduceEqDiff, Nat.reduceBEq, reduceAdd, reduceIte, reduceCtorEq, reduceLeDiff]
def catB (R : List ByteArray) : Nat → ByteArray
 | 0 => ByteArray.empty
 | i + 1 => catB R i ++ R.getD i ByteArray.empty ++ lf
theorem catB_size {R : List ByteArray} (h : ∀ r ∈ R, r.size ≤ 100) : ∀ i, (catB R i).size ≤ 101 * i
 | 0 => Nat.le_refl _
 | i + 1 => by
  have ih := catB_size h i
  have hs : (R.getD i ByteArray.empty).size ≤ 100 := by
   rw [List.getD_eq_getElem?_getD]
   cases e : R[i]? with
   | none => exact Nat.zero_le _
   | some r => exact h r (List.mem_of_getElem? e)
  show (catB R i ++ _ ++ lf).size ≤ _
  rw [ByteArray.size_append, ByteArray.size_append]
  show _ + _ + 1 ≤ _; omega
def sealB (R : List ByteArray) (m : Int) : ByteArray := catB R R.length ++ endB ((ck R R.length).tmod m) ++ lf
theorem rSealed_pc (R : List ByteArray) (m : Int) (hm : 0 < m ∧ m ≤ 1000) (hR : ∀ r ∈ R, r.size ≤ 100) (hN : R.length ≤ 2500) (t : Tail) : PC Tryz.prog 112 [.slice (strs R) R.length t, .int .i64 m] (.pure (.str (sealB R m))) := by
 have key : PC Tryz.prog 112 [.slice (strs R) R.length .unk, .int .i64 m] (.pure (.str (sealB R m))) := by
  refine PC.of_empty (AC.run (E_ok _) mix Tryz.func112 m112 rfl rfl rfl (Nat.le_of_ble_eq_true rfl) ?_) (by simp [bndL, AV.bnd]) rfl
  simp only [go_sem, reduceEqDiff, Nat.reduceBEq, reduceAdd, reduceIte, reduceCtorEq, reduceLeDiff]
  refine wc_for R.length (fun i => [(0, .slice (strs R) R.length .unk), (1, .int .i64 m), (5, .str (catB R i)), (6, .int .i64 (ck R i)), (7, .int .i64 i)]) (fun _ => St.empty) rfl rfl ?_
  intro i hi I hI
  by_cases h' : i < R.length
  ·have h1 : (i : Int) < R.length := by omega
   have h2 : 0 ≤ (i : Int) ∧ (i : Int) < R.length := by omega
   have h3 : R[i]? = some R[i] := List.getElem?_eq_getElem h'
   have h4 : IntKind.i64.wrap ((i : Int) + 1) = (i + 1 : Nat) := wrap64 (by omega)
   have hr := hR _ (List.getElem_mem h')
   simp only [go_sem, l112_0, builtinA, h1, decide_true, reduceEqDiff, Nat.reduceBEq, reduceAdd, reduceIte, reduceCtorEq, reduceLeDiff]
   have hck : ck R (i + 1) = ck R i + rs R[i] R[i].size * (i + 1 : Nat) := by
    show ck R i + rs (R.getD i _) (R.getD i _).size * _ = _
    rw [List.getD_eq_getElem?_getD, h3]; rfl
   have hcat : catB R (i + 1) = catB R i ++ R[i] ++ lf := by
    show catB R i ++ R.getD i _ ++ lf = _
    rw [List.getD_eq_getElem?_getD, h3]; rfl
   have hb := ck_bd hR i (by omega)
   have hcs := catB_size hR i
   have hI' := hI h'
   rw [hck, hcat] at hI'
   generalize R[i] = r at *
   refine wc_for r.size (fun k => [(0, .slice (strs R) R.length .unk), (1, .int .i64 m), (5, .str (catB R i)), (6, .int .i64 (ck R i + rs r k * (i + 1 : Nat))), (7, .int .i64 i), (8, .int .i64 k)]) (fun _ => St.empty) (by simp only [rs, Int.zero_mul, Int.add_zero]; rfl) rfl ?_
   intro k hk I2 hI2
   by_cases h'' : k < r.size
   ·have g1 : (k : Int) < r.size := by omega
    have g4 : IntKind.i64.wrap ((k : Int) + 1) = (k + 1 : Nat) := wrap64 (by omega)
    have hbt : r[k]? = some r[k] := by simp [h'']
    have hB : r[k].toNat ≤ 255 := Nat.le_of_lt_succ (UInt8.toNat_lt _)
    have hrs : rs r (k + 1) = rs r k + (r[k].toNat : Int) * (k + 1 : Nat) := by
     show rs r k + (((r[k]?).getD 0).toNat : Int) * _ = _
     rw [hbt]; rfl
    have hb2 := rs_bd100 r (k := k) (by omega)
    have p1 : 0 ≤ (r[k].toNat : Int) * (k + 1 : Nat) := Int.mul_nonneg (by omega) (by omega)
    have p2 : (r[k].toNat : Int) * (k + 1 : Nat) ≤ 255 * (100 : Int) := Int.mul_le_mul (by omega) (by omega) (by omega) (by omega)
    have p3 : 0 ≤ (r[k].toNat : Int) * (k + 1 : Nat) * (i + 1 : Nat) := Int.mul_nonneg p1 (by omega)
    have p4 : (r[k].toNat : Int) * (k + 1 : Nat) * (i + 1 : Nat) ≤ 25500 * (3000 : Int) := Int.mul_le_mul (by omega) (by omega) (by omega) (by omega)
    have p5 : 0 ≤ rs r k * (i + 1 : Nat) := Int.mul_nonneg hb2.1 (by omega)
    have p6 : rs r k * (i + 1 : Nat) ≤ 2550000 * (3000 : Int) := Int.mul_le_mul hb2.2 (by omega) (by omega) (by omega)
    have w1 : IntKind.i64.wrap (r[k].toNat : Int) = r[k].toNat := wrap64 (by omega)
    have w2 : IntKind.i64.wrap ((r[k].toNat : Int) * (k + 1 : Nat)) = (r[k].toNat : Int) * (k + 1 : Nat) := wrap64 (by omega)
    have w3 : IntKind.i64.wrap ((r[k].toNat : Int) * (k + 1 : Nat) * (i + 1 : Nat)) = (r[k].toNat : Int) * (k + 1 : Nat) * (i + 1 : Nat) := wrap64 (by omega)
    have w4 : IntKind.i64.wrap (ck R i + rs r k * (i + 1 : Nat) + (r[k].toNat : Int) * (k + 1 : Nat) * (i + 1 : Nat)) = ck R i + rs r k * (i + 1 : Nat) + (r[k].toNat : Int) * (k + 1 : Nat) * (i + 1 : Nat) := wrap64 (by omega)
    have hz : 0 ≤ (k : Int) := by omega
    simp only [go_sem, l112_1, builtinA, h2, strs_get, h3, Option.map_some, g1, decide_true, hz, hbt, convA, w1, w2, w3, w4, g4, h4, reduceEqDiff, Nat.reduceBEq, reduceAdd, reduceIte, reduceCtorEq, reduceLeDiff]
    have := hI2 h''
    rw [hrs, Int.add_mul, ← Int.add_assoc] at this
    exact this
   have g1 : ¬ (k : Int) < r.size := by omega
   have e : k = r.size := by omega
   subst e
   clear hI2 hk h''
   have a1 : binA T .add 9 (.str (catB R i)) (.str r) = some (.str (catB R i ++ r)) := addS (by omega)
   have a2 : binA T .add 9 (.str (catB R i ++ r)) (.str ⟨#[10]⟩) = some (.str (catB R i ++ r ++ lf)) := addS (by rw [ByteArray.size_append]; show _ + _ + 1 ≤ _; omega)
   simp only [go_sem, l112_1, builtinA, h2, strs_get, h3, Option.map_some, g1, decide_false, a1, a2, h4, reduceEqDiff, Nat.reduceBEq, reduceAdd, reduceIte, reduceCtorEq, reduceLeDiff]
   exact hI'
  have h1 : ¬ (i : Int) < R.length := by omega
  have e : i = R.length := by omega
  subst e
  clear hI hi h'
  have hb := ck_bd hR R.length (by omega)
  have hcs := catB_size hR R.length
  have hfin : sealB R m = catB R R.length ++ endB ((ck R R.length).tmod m) ++ lf := rfl
  rw [hfin]
  generalize ck R R.length = C at *
  generalize catB R R.length = Z at *
  have e1 : intOp .rem .i64 C m = some (.int .i64 (C.tmod m)) := by
   show (if m = 0 then none else some (AV.int .i64 (C.tmod m))) = _
   rw [if_neg (by omega)]
  have hc0 : 0 ≤ C.tmod m := Int.tmod_nonneg _ hb.1
  have hc1 : C.tmod m < m := Int.tmod_lt_of_pos _ hm.1
  simp only [go_sem, l112_0, builtinA, h1, decide_false, e1, reduceEqDiff, Nat.reduceBEq, reduceAdd, reduceIte, reduceCtorEq, reduceLeDiff]
  generalize C.tmod m = c at *
  have d1 : c.tdiv 100 = c / 100 := Int.tdiv_eq_ediv_of_nonneg hc0
  have d2 : c.tdiv 10 = c / 10 := Int.tdiv_eq_ediv_of_nonneg hc0
  have d3 : (c.tdiv 10).tmod 10 = c / 10 % 10 := by rw [d2]; exact Int.tmod_eq_emod_of_nonneg (by omega)
  have d4 : c.tmod 10 = c % 10 := Int.tmod_eq_emod_of_nonneg hc0
  have e2 : intOp .quo .i64 c 100 = some (.int .i64 (c.tdiv 100)) := by
   show some (AV.int .i64 (IntKind.i64.wrap (c.tdiv 100))) = _
   rw [wrap64 (by omega)]
  have e3 : intOp .quo .i64 c 10 = some (.int .i64 (c.tdiv 10)) := by
   show some (AV.int .i64 (IntKind.i64.wrap (c.tdiv 10))) = _
   rw [wrap64 (by omega)]
  have e4 : intOp .rem .i64 (c.tdiv 10) 10 = some (.int .i64 ((c.tdiv 10).tmod 10)) := rfl
  have e5 : intOp .rem .i64 c 10 = some (.int .i64 (c.tmod 10)) := rfl
  have i1 : i64 (c.tdiv 100) := ⟨by omega, by omega⟩
  have i2 : i64 ((c.tdiv 10).tmod 10) := ⟨by omega, by omega⟩
  have i3 : i64 (c.tmod 10) := ⟨by omega, by omega⟩
  have z1 := itoaB_size i1
  have z2 := itoaB_size i2
  have z3 := itoaB_size i3
  have a1 : binA T .add 9 (.str Z) (.str ⟨#[101, 110, 100, 32]⟩) = some (.str (Z ++ endW)) := addS (by show _ + 4 ≤ _; omega)
  have s1 : (Z ++ endW).size ≤ 101 * R.length + 4 := by rw [ByteArray.size_append]; show _ + 4 ≤ _; omega
  have a2 : binA T .add 9 (.str (Z ++ endW)) (.str (itoaB (c.tdiv 100))) = some (.str (Z ++ endW ++ itoaB (c.tdiv 100))) := addS (by omega)
  have s2 : (Z ++ endW ++ itoaB (c.tdiv 100)).size ≤ 101 * R.length + 25 := by rw [ByteArray.size_append]; omega
  have a3 := addS (a := Z ++ endW ++ itoaB (c.tdiv 100)) (b := itoaB ((c.tdiv 10).tmod 10)) (by omega)
  have s3 : (Z ++ endW ++ itoaB (c.tdiv 100) ++ itoaB ((c.tdiv 10).tmod 10)).size ≤ 101 * R.length + 46 := by rw [ByteArray.size_append]; omega
  have a4 := addS (a := Z ++ endW ++ itoaB (c.tdiv 100) ++ itoaB ((c.tdiv 10).tmod 10)) (b := itoaB (c.tmod 10)) (by omega)
  have s4 : (Z ++ endW ++ itoaB (c.tdiv 100) ++ itoaB ((c.tdiv 10).tmod 10) ++ itoaB (c.tmod 10)).size ≤ 101 * R.length + 67 := by rw [ByteArray.size_append]; omega
  have a5 : binA T .add 9 (.str (Z ++ endW ++ itoaB (c.tdiv 100) ++ itoaB ((c.tdiv 10).tmod 10) ++ itoaB (c.tmod 10))) (.str ⟨#[10]⟩) = some (.str (Z ++ endB c ++ lf)) := by
   have : Z ++ endB c ++ lf = Z ++ endW ++ itoaB (c.tdiv 100) ++ itoaB ((c.tdiv 10).tmod 10) ++ itoaB (c.tmod 10) ++ lf := by
    unfold endB
    simp only [ByteArray.append_assoc]
   rw [this]
   exact addS (by show _ + 1 ≤ _; omega)
  simp only [go_sem, a1, e2, reduceEqDiff, Nat.reduceBEq, reduceAdd, reduceIte, reduceCtorEq, reduceLeDiff]
  refine cp n147 (Decimal_pc _ _ (Nat.le_refl _) i1) (SubL.refl _) ?_
  simp only [go_sem, a2, e3, e4, reduceEqDiff, Nat.reduceBEq, reduceAdd, reduceIte, reduceCtorEq, reduceLeDiff]
  refine cp n147 (Decimal_pc _ _ (Nat.le_refl _) i2) (SubL.refl _) ?_
  simp only [go_sem, a3, e5, reduceEqDiff, Nat.reduceBEq, reduceAdd, reduceIte, reduceCtorEq, reduceLeDiff]
  refine cp n147 (Decimal_pc _ _ (Nat.le_refl _) i3) (SubL.refl _) ?_
  simp only [go_sem, a4, a5, Tryz.f112, reduceEqDiff, Nat.reduceBEq, reduceAdd, reduceIte, reduceCtorEq, reduceLeDiff]
 exact fun c S w vs h1 h2 => key c S w vs h1 (SubL.cons (Sub.unk _ _ _) (SubL.refl _) c vs h2)
end Go.Av.Fx
end
section
namespace Go.Av.Fx
open Go Go.Av Go.Av.Tb Go.Proofs
theorem join_snoc (sep x : List UInt8) : ∀ (R : List (List UInt8)) (a : List UInt8), a ++ Lib.joinTail sep (R ++ [x]) = ((a :: R).map (· ++ sep)).flatten ++ x
 | [], a => by simp [Lib.joinTail]
 | b :: R, a => by
  have ih := join_snoc sep x R b
  have e : Lib.joinTail sep (b :: R ++ [x]) = sep ++ (b ++ Lib.joinTail sep (R ++ [x])) := by simp [Lib.joinTail]
  rw [e, ih]
  simp
theorem catB_list (R : List ByteArray) : ∀ k, k ≤ R.length → (catB R k).data.toList = ((R.take k).map fun r => r.data.toList ++ lf.data.toList).flatten
 | 0, _ => rfl
 | k + 1, h => by
  have ih := catB_list R k (by omega)
  have h' : k < R.length := by omega
  rw [List.take_succ_eq_append_getElem h', List.map_append, List.flatten_append, ← ih]
  show (catB R k ++ R.getD k ByteArray.empty ++ lf).data.toList = _
  rw [app_list, app_list, getD_at _ h']
  simp
theorem join_cat (R : List ByteArray) (x : ByteArray) : joinB (R ++ [x]) lf ++ lf = catB R R.length ++ x ++ lf := by
 apply ba_ext
 rw [app_list, app_list, app_list, catB_list R R.length (Nat.le_refl _), List.take_length]
 congr 1
 unfold joinB
 cases R with
 | nil => simp [Lib.join_one]
 | cons a R =>
  rw [List.cons_append, List.map_cons, Lib.join_cons, List.map_append]
  have := join_snoc lf.data.toList x.data.toList (R.map (·.data.toList)) a.data.toList
  simp only [List.map_cons, List.map_nil, List.map_map] at this ⊢
  exact this
theorem seal_text (l : LLine) : sealB (rowsL l) 157 = textB l := by
 unfold textB
 rw [join_cat]; rfl
theorem rPrint_pc (l : LLine) (h : Plain l) : PC Tryz.prog 62 [lineA l] (.pure (.str (textB l))) := by
 have hG := h.gives
 have hC := h.counts
 rw [← seal_text]
 refine PC.of_empty (AC.run (E_ok _) mix Tryz.func62 m62 rfl rfl rfl (Nat.le_of_ble_eq_true rfl) ?_) (by simp [bndL, AV.bnd]) rfl
 simp only [go_sem, boxA, reduceEqDiff, Nat.reduceBEq, reduceAdd, reduceIte, reduceCtorEq, reduceLeDiff]
 refine cp n111 (rRow_pc (wordB 0) (by decide) [l.least, l.most, l.taps] (Nat.le_of_ble_eq_true rfl) h.head) (SubL.cons (Sub.refl _) (SubL.cons (Sub.unk _ _ _) (SubL.refl _))) ?_
 simp only [go_sem, builtinA, reduceEqDiff, Nat.reduceBEq, reduceAdd, reduceIte, reduceCtorEq, reduceLeDiff]
 refine wc_for l.gives.length (fun k => [(1, .ref 0 0), (3, .slice (strs (headR l :: gsR l k)) (headR l :: gsR l k).length (tailN k)), (4, .int .i64 k)]) (fun k => ⟨[some (.cells (lineC l))], k, toksN k⟩) rfl rfl ?_
 intro k hk I hI
 have eg := gsR_len l k hk
 by_cases h' : k < l.gives.length
 ·have h1 : (k : Int) < l.gives.length := by omega
  have h2 : 0 ≤ (k : Int) ∧ (k : Int) < l.gives.length := by omega
  have h3 : l.gives[k]? = some l.gives[k] := List.getElem?_eq_getElem h'
  have h4 : IntKind.i64.wrap ((k : Int) + 1) = (k + 1 : Nat) := wrap64 (by omega)
  simp only [go_sem, l62_0, builtinA, h1, decide_true, h2, ints_get, h3, reduceEqDiff, Nat.reduceBEq, reduceAdd, reduceIte, reduceCtorEq, reduceLeDiff]
  refine cp n111 (rRow_pc (wordB 1) (by decide) [l.gives[k]] (Nat.le_of_ble_eq_true rfl) (by intro n hn; simp at hn; subst hn; exact h.give _ (List.getElem_mem h'))) (SubL.cons (Sub.refl _) (SubL.cons (Sub.unk _ _ _) (SubL.refl _))) ?_
  simp only [go_sem, builtinA, reduceEqDiff, Nat.reduceBEq, reduceAdd, reduceIte, reduceCtorEq, reduceLeDiff]
  refine sr_app141 (l := headR l :: gsR l k) _ rfl (by simp; omega) ?_
  simp only [go_sem, builtinA, h4, reduceEqDiff, Nat.reduceBEq, reduceAdd, reduceIte, reduceCtorEq, reduceLeDiff]
  have := hI h'
  rw [gsR_succ l k h'] at this
  simp only [List.length_cons, List.length_append, List.length_nil] at this
  exact this
 have h1 : ¬ (k : Int) < l.gives.length := by omega
 have e : k = l.gives.length := by omega
 subst e
 clear hI hk h'
 simp only [go_sem, l62_0, builtinA, h1, decide_false, reduceEqDiff, Nat.reduceBEq, reduceAdd, reduceIte, reduceCtorEq, reduceLeDiff]
 rw [eg]
 refine wc_forG l.counts.length (fun k => [(1, .ref 0 0), (3, .slice (strs ((headR l :: gsR l l.gives.length) ++ csR l k)) (l.gives.length + 1 + k) (tailN (l.gives.length + k))), (5, .int .i64 k)]) (fun k => ⟨[some (.cells (lineC l))], l.gives.length + k, toksN (l.gives.length + k)⟩) (by simp [csR]) rfl (fun k hk => ?_) ?_
 ·refine ⟨Nat.zero_le _, Nat.zero_le _, by cases h : l.gives.length + k <;> simp [bndTS, AV.bnd, tailN], fun i B hB => ?_, fun t ht => toksN_lt ht⟩
  cases i with
  | zero => simp at hB; subst hB; simp [Blk.bnd, bndL, AV.bnd]
  | succ i => simp at hB
 intro k hk I hI
 have ec := csR_len l k hk
 by_cases h' : k < l.counts.length
 ·have h1 : (k : Int) < l.counts.length := by omega
  have h2 : 0 ≤ (k : Int) ∧ (k : Int) < l.counts.length := by omega
  have h3 : k * 3 + 3 ≤ (cnts l.counts).length := by rw [cnts_len]; omega
  have h5 := cnts_at l.counts k h'
  have h4 : IntKind.i64.wrap ((k : Int) + 1) = (k + 1 : Nat) := wrap64 (by omega)
  have hm := List.getElem_mem h'
  simp only [go_sem, l62_1, builtinA, h1, decide_true, h2, h3, h5, reduceEqDiff, Nat.reduceBEq, reduceAdd, reduceIte, reduceCtorEq, reduceLeDiff]
  refine cp n111 (rRow_pc (wordB 2) (by decide) [l.counts[k].point, l.counts[k].low, l.counts[k].high] (Nat.le_of_ble_eq_true rfl) (h.count _ hm)) (SubL.cons (Sub.refl _) (SubL.cons (Sub.unk _ _ _) (SubL.refl _))) ?_
  simp only [go_sem, builtinA, reduceEqDiff, Nat.reduceBEq, reduceAdd, reduceIte, reduceCtorEq, reduceLeDiff]
  refine sr_app141 (k := l.gives.length + k) (l := (headR l :: gsR l l.gives.length) ++ csR l k) _ (by simp [eg, ec]; omega) (by omega) ?_
  simp only [go_sem, builtinA, h4, reduceEqDiff, Nat.reduceBEq, reduceAdd, reduceIte, reduceCtorEq, reduceLeDiff]
  have := hI h' [some (.cells (cntC l.counts[k]))]
  rw [csR_succ l k h'] at this
  simp only [← Nat.add_assoc, List.append_assoc, List.cons_append, List.nil_append] at this
  exact this
 have h1 : ¬ (k : Int) < l.counts.length := by omega
 have e : k = l.counts.length := by omega
 subst e
 clear hI hk h'
 rw [← rowsL_eq, show l.gives.length + 1 + l.counts.length = (rowsL l).length by rw [rowsL_len]; omega]
 simp only [go_sem, l62_1, builtinA, h1, decide_false, reduceEqDiff, Nat.reduceBEq, reduceAdd, reduceIte, reduceCtorEq, reduceLeDiff]
 refine cp n112 (rSealed_pc (rowsL l) 157 (by decide) (rowsL_size h) (by rw [rowsL_len]; omega) _) (SubL.refl _) ?_
 simp only [go_sem, Tryz.f62, reduceEqDiff, Nat.reduceBEq, reduceAdd, reduceIte, reduceCtorEq, reduceLeDiff]
def lineM : LLine := ⟨[10, 0, 20], 5, 15, 1, [⟨0, 100, 104⟩, ⟨3, 58, 62⟩]⟩
def lineN : LLine := ⟨[10, 0, 20], 5, 15, 1, [⟨0, 100, 104⟩, ⟨3, 58, 62⟩, ⟨1, 97, 100⟩]⟩
theorem M_key : PC Tryz.prog 74 [] (.pure (.agg [.slice (ints [10, 0, 20]) 3 .exact, .int .i64 5, .int .i64 15, .int .i64 1, .slice (cnts [⟨0, 100, 104⟩, ⟨3, 58, 62⟩]) 2 .exact])) := by
 refine PC.of_empty (AC.run (E_ok _) mix Tryz.func74 m74 rfl rfl rfl (Nat.le_of_ble_eq_true rfl) ?_) rfl rfl
 have e1 : buildSliceA T 23 2 [(0, .agg [.int .i64 0, .int .i64 100, .int .i64 104]), (1, .agg [.int .i64 3, .int .i64 58, .int .i64 62])] = some (.slice (cnts [⟨0, 100, 104⟩, ⟨3, 58, 62⟩]) 2 .exact) := rfl
 simp only [go_sem, e1, Tryz.f74, reduceEqDiff, Nat.reduceBEq, reduceAdd, reduceIte, reduceCtorEq, reduceLeDiff]
 rfl
theorem M_pc : PC Tryz.prog 74 [] (.pure (lineA lineM)) := by
 intro c S w vs h1 h2
 refine (M_key c S w vs h1 h2).mono fun e w' ⟨x, he, hp⟩ => ⟨x, he, ?_⟩
 obtain ⟨c', p1, p2, p3, p4, p5⟩ := hp
 exact ⟨c', p1, p2, p3, p4, Sub.agg (SubL.cons (Sub.unk _ _ _) (SubL.cons (Sub.refl _) (SubL.cons (Sub.refl _) (SubL.cons (Sub.refl _) (SubL.cons (Sub.unk _ _ _) (SubL.refl _)))))) c' x p5⟩
theorem N_pc : PC Tryz.prog 73 [] (.pure (lineA lineN)) := by
 refine PC.of_frz (AC.run (E_ok _) mix Tryz.func73 m73 rfl rfl rfl (Nat.le_of_ble_eq_true rfl) ?_) rfl (by simp [bndL, AV.bnd])
 simp only [go_sem, reduceEqDiff, Nat.reduceBEq, reduceAdd, reduceIte, reduceCtorEq, reduceLeDiff]
 refine cp n74 M_key (SubL.refl _) ?_
 have ha : ∀ S, appendA T S 23 (.slice (cnts [⟨0, 100, 104⟩, ⟨3, 58, 62⟩]) 2 .exact) (.slice [.int .i64 1, .int .i64 97, .int .i64 100] 1 .exact) = some (.tok none (fun j => .slice (cnts lineN.counts) 3 (.tok j))) := fun S => rfl
 simp only [go_sem, put_eq, builtinA, ha, Tryz.f73, reduceEqDiff, Nat.reduceBEq, reduceAdd, reduceIte, reduceCtorEq, reduceLeDiff]
 refine ⟨_, rfl, .agg _ _ rfl fun j x y hx hy => ?_⟩
 match j, hx, hy with
 | 0, hx, hy => simp at hx hy; subst hx; subst hy; exact .unk _ _ _
 | 1, hx, hy => simp at hx hy; subst hx; subst hy; exact .same _
 | 2, hx, hy => simp at hx hy; subst hx; subst hy; exact .same _
 | 3, hx, hy => simp at hx hy; subst hx; subst hy; exact .same _
 | 4, hx, hy => simp at hx hy; subst hx; subst hy; exact .unk _ _ _
 | j + 5, hx, hy => simp at hx
end Go.Av.Fx
end
section
namespace Go.Av.Fx
open Go Go.Av Go.Av.Tb Go.Proofs
set_option maxHeartbeats 1000000 in
theorem rTells_pc (l : LLine) (h : Lw l) (pts : List Int) (hpl : pts.length ≤ 1000) (hp : PtsIn l pts) (off : Int) (ho : 0 ≤ off ∧ off ≤ 20) :
  PC Tryz.prog 52 [lineA l, sl pts, .int .i64 off] (.pure (.bool (rTellsB l pts off))) := by
 have hm := h.pts
 refine PC.of_empty (AC.run (E_ok _) mix Tryz.func52 m52 rfl rfl rfl (Nat.le_of_ble_eq_true rfl) ?_) (by simp [bndL, AV.bnd]) rfl
 simp only [go_sem, boxA, reduceEqDiff, Nat.reduceBEq, reduceAdd, reduceIte, reduceCtorEq, reduceLeDiff]
 refine cp n27 (rSets_pc l h) (SubL.refl _) ?_
 simp only [go_sem, reduceEqDiff, Nat.reduceBEq, reduceAdd, reduceIte, reduceCtorEq, reduceLeDiff]
 have hsz : ∀ s ∈ rSets l, s.length ≤ 1000 := fun s hs => setsL_sz hm.2 s (List.mem_filter.1 hs).1
 have hlen : (rSets l).length ≤ 100 := Nat.le_trans (List.length_filter_le _ _) (setsL_len5 hm.2)
 have hr : rTellsB l pts off = (List.range (rSets l).length).all fun i => (List.range i).all fun k => !ralikeB l ((rSets l).getD k []) ((rSets l).getD i []) pts off := rfl
 rw [hr]
 clear hr
 generalize rSets l = L at *
 refine wc_forP L.length (fun k => ∀ i, i < k → ∀ j, j < i → ralikeB l (L.getD j []) (L.getD i []) pts off = false) (fun k => [(1, sl pts), (2, .int .i64 off), (3, .ref 0 0), (7, sll L), (8, .int .i64 k)]) (fun _ => ⟨[some (.cells (lineC l))], 0, []⟩) (fun i hi => absurd hi (Nat.not_lt_zero _)) rfl rfl ?_
 intro i hi hP I hI
 by_cases h' : i < L.length
 ·have h1 : (i : Int) < L.length := by omega
  have h2 : 0 ≤ (i : Int) ∧ (i : Int) < L.length := by omega
  have h3 : L[i]? = some (L.getD i []) := by rw [getD_at [] h', List.getElem?_eq_getElem h']
  have h6 : IntKind.i64.wrap ((i : Int) + 1) = (i + 1 : Nat) := wrap64 (by omega)
  have hi0 : (L.getD i []).length ≤ 1000 := by rw [getD_at [] h']; exact hsz _ (List.getElem_mem h')
  simp only [go_sem, l52_0, builtinA, h1, decide_true, reduceEqDiff, Nat.reduceBEq, reduceAdd, reduceIte, reduceCtorEq, reduceLeDiff]
  refine wc_forP i (fun k => ∀ j, j < k → ralikeB l (L.getD j []) (L.getD i []) pts off = false) (fun k => [(1, sl pts), (2, .int .i64 off), (3, .ref 0 0), (7, sll L), (8, .int .i64 i), (9, .int .i64 k)]) (fun _ => ⟨[some (.cells (lineC l))], 0, []⟩) (fun i hi => absurd hi (Nat.not_lt_zero _)) rfl rfl ?_
  intro j hj hP2 I2 hI2
  by_cases hji : j < i
  ·have g1 : (j : Int) < i := by omega
   have g2 : 0 ≤ (j : Int) ∧ (j : Int) < L.length := by omega
   have g3 : L[j]? = some (L.getD j []) := by rw [getD_at [] (by omega), List.getElem?_eq_getElem]
   have g6 : IntKind.i64.wrap ((j : Int) + 1) = (j + 1 : Nat) := wrap64 (by omega)
   have hj0 : (L.getD j []).length ≤ 1000 := by rw [getD_at [] (by omega)]; exact hsz _ (List.getElem_mem _)
   simp only [go_sem, l52_1, g1, decide_true, g2, h2, sls_get, g3, h3, Option.map_some, reduceEqDiff, Nat.reduceBEq, reduceAdd, reduceIte, reduceCtorEq, reduceLeDiff]
   refine cp n104 (ralike_pc l h _ _ hj0 hi0 pts hpl hp off ho) (SubL.refl _) ?_
   cases ha : ralikeB l (L.getD j []) (L.getD i []) pts off
   ·simp only [go_sem, g6, reduceEqDiff, Nat.reduceBEq, reduceAdd, reduceIte, reduceCtorEq, reduceLeDiff]
    refine hI2 hji fun x hx => ?_
    by_cases e : x = j
    ·subst e; exact ha
    ·exact hP2 x (by omega)
   ·have ht : ((List.range L.length).all fun i => (List.range i).all fun k => !ralikeB l (L.getD k []) (L.getD i []) pts off) = false := by
     rw [List.all_eq_false]
     refine ⟨i, List.mem_range.2 h', fun hh => ?_⟩
     rw [List.all_eq_true] at hh
     have := hh j (List.mem_range.2 hji)
     rw [ha] at this; cases this
    simp only [go_sem, Tryz.f52, reduceEqDiff, Nat.reduceBEq, reduceAdd, reduceIte, reduceCtorEq, reduceLeDiff]
    rw [ht]
  ·have g1 : ¬ (j : Int) < i := by omega
   have ej : j = i := by omega
   simp only [go_sem, l52_1, g1, decide_false, h6, reduceEqDiff, Nat.reduceBEq, reduceAdd, reduceIte, reduceCtorEq, reduceLeDiff]
   refine hI h' fun x hx y hy => ?_
   by_cases e : x = i
   ·subst e; exact hP2 y (by omega)
   ·exact hP x (by omega) y hy
 ·have h1 : ¬ (i : Int) < L.length := by omega
  have ei : i = L.length := by omega
  have ht : ((List.range L.length).all fun i => (List.range i).all fun k => !ralikeB l (L.getD k []) (L.getD i []) pts off) = true := by
   rw [List.all_eq_true]; intro x hx
   rw [List.all_eq_true]; intro y hy
   rw [hP x (by have := List.mem_range.1 hx; omega) y (List.mem_range.1 hy)]; rfl
  simp only [go_sem, l52_0, builtinA, h1, decide_false, Tryz.f52, reduceEqDiff, Nat.reduceBEq, reduceAdd, reduceIte, reduceCtorEq, reduceLeDiff]
  rw [ht]
end Go.Av.Fx
end
section
namespace Go.Av.Fx
open Go Go.Av Go.Proofs
open Go.Fw (Sq ent Bd Mat Tells Good)
structure Spn (P : (Nat → Int) → Prop) (g : (Nat → Int) → Int) (sp : Span) : Prop where
 bd : ∀ f, P f → sp.low ≤ g f ∧ g f ≤ sp.high
 lo : ∃ f, P f ∧ g f = sp.low
 hi : ∃ f, P f ∧ g f = sp.high
theorem Spn.imp {P Q : (Nat → Int) → Prop} {g : (Nat → Int) → Int} {a : Span} (h : Spn P g a) (e : ∀ f, P f ↔ Q f) : Spn Q g a := by
 obtain ⟨f1, p1, e1⟩ := h.lo
 obtain ⟨f2, p2, e2⟩ := h.hi
 exact ⟨fun f hf => h.bd f ((e f).2 hf), ⟨f1, (e _).1 p1, e1⟩, ⟨f2, (e _).1 p2, e2⟩⟩
theorem Spn.join {P Q : (Nat → Int) → Prop} {g : (Nat → Int) → Int} {a b : Span} (h : Spn P g a) (h' : Spn Q g b) : Spn (fun f => P f ∨ Q f) g (joinS a b) := by
 obtain ⟨f1, p1, e1⟩ := h.lo
 obtain ⟨f2, p2, e2⟩ := h.hi
 obtain ⟨f3, p3, e3⟩ := h'.lo
 obtain ⟨f4, p4, e4⟩ := h'.hi
 unfold joinS
 refine ⟨?_, ?_, ?_⟩
 ·rintro f (hf | hf)
  ·have := h.bd f hf
   constructor
   ·show (if b.low < a.low then b.low else a.low) ≤ _; split <;> omega
   ·show _ ≤ (if b.high > a.high then b.high else a.high); split <;> omega
  ·have := h'.bd f hf
   constructor
   ·show (if b.low < a.low then b.low else a.low) ≤ _; split <;> omega
   ·show _ ≤ (if b.high > a.high then b.high else a.high); split <;> omega
 ·by_cases c : b.low < a.low
  ·exact ⟨f3, .inr p3, by show _ = if b.low < a.low then b.low else a.low; rw [if_pos c]; exact e3⟩
  ·exact ⟨f1, .inl p1, by show _ = if b.low < a.low then b.low else a.low; rw [if_neg c]; exact e1⟩
 ·by_cases c : b.high > a.high
  ·exact ⟨f4, .inr p4, by show _ = if b.high > a.high then b.high else a.high; rw [if_pos c]; exact e4⟩
  ·exact ⟨f2, .inl p2, by show _ = if b.high > a.high then b.high else a.high; rw [if_neg c]; exact e2⟩
theorem Spn.fold {α : Type} {P : α → (Nat → Int) → Prop} {g : (Nat → Int) → Int} {f : α → Span} : ∀ (L : List α) {Q : (Nat → Int) → Prop} {o : Span}, Spn Q g o → (∀ t ∈ L, Spn (P t) g (f t)) →
  Spn (fun x => Q x ∨ ∃ t, t ∈ L ∧ P t x) g (L.foldl (fun o t => joinS o (f t)) o)
 | [], Q, o, h, _ => h.imp fun x => ⟨.inl, fun hx => hx.elim id fun ⟨t, ht, _⟩ => by cases ht⟩
 | t :: L, Q, o, h, hL => by
  refine (Spn.fold L (h.join (hL t List.mem_cons_self)) fun t ht => hL t (List.mem_cons_of_mem _ ht)).imp fun x => ?_
  constructor
  ·rintro ((h | h) | ⟨u, hu, h⟩)
   ·exact .inl h
   ·exact .inr ⟨t, List.mem_cons_self, h⟩
   ·exact .inr ⟨u, List.mem_cons_of_mem _ hu, h⟩
  ·rintro (h | ⟨u, hu, h⟩)
   ·exact .inl (.inl h)
   ·rcases List.mem_cons.1 hu with rfl | hu
    ·exact .inl (.inr h)
    ·exact .inr ⟨u, hu, h⟩
end Go.Av.Fx
end
section
namespace Go.Av.Fx
open Go Go.Av Go.Av.Tb Go.Proofs
def lexB : List Int → List Int → Bool
 | x :: a, y :: b => if x = y then lexB a b else decide (x < y)
 | _, _ => false
def beforeB (a b : List Int) : Bool := if a.length = b.length then lexB a b else decide (a.length < b.length)
def ptR (l : LLine) (x : List Int) (i : Nat) : Bool := inB (x.getD i 0) 0 l.gives.length && (decide (i = 0) || decide (x.getD (i - 1) 0 < x.getD i 0))
def ptsR (l : LLine) (x : List Int) : Bool := (List.range x.length).all (ptR l x)
theorem rPoints_pc (l : LLine) (x : List Int) (hs : okL x.length) : PC Tryz.prog 51 [lineA l, sl x] (.pure (.bool (ptsR l x))) := by
 refine PC.of_empty (AC.run (E_ok _) mix Tryz.func51 m51 rfl rfl rfl (Nat.le_of_ble_eq_true rfl) ?_) (by simp [bndL, AV.bnd]) rfl
 simp only [go_sem, boxA, builtinA, reduceEqDiff, Nat.reduceBEq, reduceAdd, reduceIte, reduceCtorEq, reduceLeDiff]
 refine wc_forP x.length (fun k => ∀ i (h1 : i < k), ptR l x i = true) (fun k => [(1, sl x), (2, .ref 0 0), (5, .int .i64 k)]) (fun _ => ⟨[some (.cells (lineC l))], 0, []⟩) (fun i hi => absurd hi (Nat.not_lt_zero _)) rfl rfl ?_
 intro k hk hP I hI
 by_cases h : k < x.length
 ·have h' : (k : Int) < x.length := by omega
  have h2 : 0 ≤ (k : Int) ∧ (k : Int) < x.length := by omega
  have h3 : x[k]? = some (x.getD k 0) := by rw [List.getD_eq_getElem?_getD, List.getElem?_eq_getElem h]; rfl
  have h4 : IntKind.i64.wrap ((k : Int) + 1) = (k + 1 : Nat) := wrap64 (by omega)
  have bad : ptR l x k = false → ptsR l x = false := fun hb => by
   unfold ptsR; rw [List.all_eq_false]; exact ⟨k, List.mem_range.2 h, by rw [hb]; decide⟩
  have good : ptR l x k = true → ∀ i (h1 : i < k + 1), ptR l x i = true := fun hb i hi => by
   by_cases e : i = k
   ·subst e; exact hb
   ·exact hP i (by omega)
  simp only [go_sem, l51_0, builtinA, h', decide_true, h2, ints_get, h3, Option.map_some, reduceEqDiff, Nat.reduceBEq, reduceAdd, reduceIte, reduceCtorEq, reduceLeDiff]
  refine qp n37 (rPoint_pc _ _) (SubL.refl _) ?_
  cases hb : inB (x.getD k 0) 0 l.gives.length
  ·simp only [go_sem, un_not, Bool.not_false, Tryz.f51, reduceEqDiff, Nat.reduceBEq, reduceAdd, reduceIte, reduceCtorEq, reduceLeDiff]
   rw [bad (by unfold ptR; rw [hb]; rfl)]
  ·by_cases hz : k = 0
   ·have hz' : ¬ (k : Int) > 0 := by omega
    simp only [go_sem, un_not, Bool.not_true, hz', decide_false, h4, reduceEqDiff, Nat.reduceBEq, reduceAdd, reduceIte, reduceCtorEq, reduceLeDiff]
    exact hI h (good (by unfold ptR; rw [hb, hz]; rfl))
   ·have hz' : (k : Int) > 0 := by omega
    have w1 : IntKind.i64.wrap ((k : Int) - 1) = (k - 1 : Nat) := by rw [wrap64 (by omega)]; omega
    have w2 : 0 ≤ ((k - 1 : Nat) : Int) ∧ ((k - 1 : Nat) : Int) < x.length := by omega
    have w3 : x[k - 1]? = some (x.getD (k - 1) 0) := by rw [List.getD_eq_getElem?_getD, List.getElem?_eq_getElem (by omega)]; rfl
    by_cases hc : x.getD k 0 ≤ x.getD (k - 1) 0
    ·simp only [go_sem, un_not, Bool.not_true, hz', decide_true, h2, ints_get, h3, w1, w2, w3, Option.map_some, hc, Tryz.f51, reduceEqDiff, Nat.reduceBEq, reduceAdd, reduceIte, reduceCtorEq, reduceLeDiff]
     rw [bad (by unfold ptR; rw [hb, decide_eq_false hz, decide_eq_false (by omega)]; rfl)]
    ·simp only [go_sem, un_not, Bool.not_true, hz', decide_true, h2, ints_get, h3, w1, w2, w3, Option.map_some, hc, decide_false, h4, reduceEqDiff, Nat.reduceBEq, reduceAdd, reduceIte, reduceCtorEq, reduceLeDiff]
     exact hI h (good (by unfold ptR; rw [hb, decide_eq_true (p := x.getD (k - 1) 0 < x.getD k 0) (by omega)]; simp))
 have h' : ¬ (k : Int) < x.length := by omega
 have hs2 : ptsR l x = true := by
  unfold ptsR; rw [List.all_eq_true]; intro i hi; exact hP i (by have := List.mem_range.1 hi; omega)
 rw [hs2]
 simp only [go_sem, l51_0, builtinA, h', decide_false, Tryz.f51, reduceEqDiff, Nat.reduceBEq, reduceAdd, reduceIte, reduceCtorEq, reduceLeDiff]
end Go.Av.Fx
end
section
namespace Go.Av.Fx
open Go Go.Av Go.Proofs
open Go.Fw (Sq ent Bd Mat Tells Good)
def upB (lo hi : Int) (s : List Int) : Bool := (List.range s.length).all fun i => inB (s.getD i 0) lo hi && (decide (i = 0) || decide (s.getD (i - 1) 0 < s.getD i 0))
theorem up_iff {lo hi : Int} {s : List Int} : upB lo hi s = true ↔ (∀ x ∈ s, lo ≤ x ∧ x ≤ hi) ∧ s.Pairwise (· < ·) := by
 unfold upB
 rw [List.all_eq_true]
 constructor
 ·intro h
  have h' : ∀ i (hi' : i < s.length), (lo ≤ s[i] ∧ s[i] ≤ hi) ∧ (i = 0 ∨ s.getD (i - 1) 0 < s[i]) := fun i hi' => by
   have := h i (List.mem_range.2 hi')
   rw [Bool.and_eq_true, inB_iff, Bool.or_eq_true, decide_eq_true_iff, decide_eq_true_iff, getD_at _ hi'] at this
   exact this
  refine ⟨fun x hx => ?_, ?_⟩
  ·obtain ⟨i, hi', rfl⟩ := List.mem_iff_getElem.1 hx
   exact (h' i hi').1
  ·rw [List.pairwise_iff_getElem]
   intro i j hi' hj hij
   induction j with
   | zero => omega
   | succ j ih =>
    have h1 := (h' (j + 1) hj).2
    have h2 : s.getD (j + 1 - 1) 0 = s[j]'(by omega) := by rw [Nat.add_sub_cancel]; exact getD_at _ (by omega)
    rw [h2] at h1
    by_cases e : i = j
    ·subst e; omega
    ·have := ih (by omega) (by omega); omega
 ·rintro ⟨h1, h2⟩ i hi'
  have hi' := List.mem_range.1 hi'
  rw [Bool.and_eq_true, inB_iff, Bool.or_eq_true, decide_eq_true_iff, decide_eq_true_iff, getD_at _ hi']
  refine ⟨h1 _ (List.getElem_mem hi'), ?_⟩
  by_cases e : i = 0
  ·exact .inl e
  ·refine .inr ?_
   rw [getD_at _ (by omega : i - 1 < s.length)]
   exact List.pairwise_iff_getElem.1 h2 (i - 1) i (by omega) hi' (by omega)
theorem pts_up (l : LLine) (s : List Int) : ptsR l s = upB 0 l.gives.length s := rfl
theorem isPts_up (l : LLine) (s : List Int) : isPtsB l s = upB 0 l.gives.length s := rfl
end Go.Av.Fx
end
section
namespace Go.Av.Fx
open Go Go.Av Go.Proofs
open Go.Fw (Sq ent Bd Mat Tells Good)
end Go.Av.Fx
end
section
namespace Go.Av.Fx
open Go Go.Av Go.Av.Tb Go.Proofs
end Go.Av.Fx
end
section
namespace Go.Av.Fx
open Go Go.Av Go.Av.Tb Go.Proofs
end Go.Av.Fx
end
section
namespace Go.Av.Fx
open Go Go.Av Go.Av.Tb Go.Proofs
theorem wc_forT {E : Env} {c : MC} {Q : AQ} {ts : TS} {S : St} (N : Nat) (P : Nat → Prop) (f : Nat → TS) (g : Nat → St) (hP : P 0) (h0 : f 0 = ts) (h1 : g 0 = S) (hb : ∀ k, k ≤ N → Neat E.base E.bt (f k) (g k))
  (h : ∀ k, k ≤ N → P k → ∀ I : TS → St → Prop, (k < N → P (k + 1) → ∀ nt toks, (g (k + 1)).nt ≤ nt → (∀ t ∈ (g (k + 1)).toks, t ∈ toks) → I (f (k + 1)) ⟨(g (k + 1)).heap, nt, toks⟩) → WC E c (thenQ I Q) (f k) (g k)) : WC E (.loop c) Q ts S := by
 refine wc_loop (fun n ts' S' => ∃ k, k ≤ N ∧ P k ∧ n = N - k ∧ ts' = f k ∧ S' = g k) N ⟨0, Nat.zero_le _, hP, rfl, h0.symm, h1.symm⟩ ?_
 rintro n ts' S' ⟨k, hk, hp, rfl, rfl, rfl⟩
 refine h k hk hp _ fun hlt hp' nt toks hnt htk => ⟨N - (k + 1), by omega, .inr ⟨f (k + 1), g (k + 1), (hb _ hlt).base, (hb _ hlt).bt, ?_, ?_, k + 1, hlt, hp', rfl, rfl, rfl⟩⟩
 ·exact ⟨Nat.le_refl _, fun i B hB => ⟨hB, (hb _ hlt).heap i B hB⟩, hnt, fun t ht => ⟨htk t ht, (hb _ hlt).toks t ht⟩⟩
 ·intro d v hv
  exact ⟨v, hv, Sub.refl v, bndTS_get (hb _ hlt).ts hv⟩
end Go.Av.Fx
end

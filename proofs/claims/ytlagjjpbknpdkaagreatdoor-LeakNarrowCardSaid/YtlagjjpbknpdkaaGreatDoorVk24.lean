/- Part 24 of the proof. -/
import Derived.Test.YtlagjjpbknpdkaaGreatDoorVk23
import Derived.Test.YtlagjjpbknpdkaaGreatDoorVk20
set_option linter.all false
set_option linter.unusedVariables false
set_option linter.unusedSimpArgs false
set_option linter.unusedSectionVars false
open Nat (reduceEqDiff reduceAdd reduceLeDiff)
section
namespace Go.Av.Fx
open Go Go.Av Go.Av.Tb Go.Proofs
@[go_sem] theorem bs93_b (n : Int) : buildSliceA T 93 1 [(0, .int .u8 n)] = some (.slice [.int .u8 n] 1 .exact) := rfl
theorem bstr (S : St) (n : Int) (t : Tail) : convMemA T S 93 9 (.slice [.int .u8 n] 1 t) = some (.pure (.str (strOfNums [n]))) := rfl
theorem itoa_dig {d : Nat} (h : d < 10) : strOfNums [48 + (d : Int)] = ⟨#[UInt8.ofNat (48 + d)]⟩ := by
 have : ∀ d : Nat, d < 10 → strOfNums [48 + (d : Int)] = ⟨#[UInt8.ofNat (48 + d)]⟩ := by
  intro d hd
  match d, hd with
  | 0, _ => rfl
  | 1, _ => rfl
  | 2, _ => rfl
  | 3, _ => rfl
  | 4, _ => rfl
  | 5, _ => rfl
  | 6, _ => rfl
  | 7, _ => rfl
  | 8, _ => rfl
  | 9, _ => rfl
 exact this d h
theorem ba_ext {a b : ByteArray} (h : a.data.toList = b.data.toList) : a = b := by
 cases a; cases b
 simp only [ByteArray.mk.injEq]
 exact Array.toList_inj.1 h
theorem app_list (a b : ByteArray) : (a ++ b).data.toList = a.data.toList ++ b.data.toList := by simp [ByteArray.data_append]
theorem itoaB_small {n : Int} (h0 : 0 ≤ n) (h : n < 10) : itoaB n = ⟨#[UInt8.ofNat (48 + n.toNat)]⟩ := by
 unfold itoaB Lib.itoa
 rw [if_neg (by omega), Lib.decDigits_one (by omega)]
theorem itoaB_negsmall {n : Int} (h0 : -10 < n) (h : n < 0) : itoaB n = ⟨#[45]⟩ ++ ⟨#[UInt8.ofNat (48 + (-n).toNat)]⟩ := by
 apply ba_ext
 rw [app_list]
 unfold itoaB Lib.itoa
 rw [if_pos h, Lib.decDigits_one (by omega), show n.natAbs = (-n).toNat by omega]; rfl
theorem itoaB_big {n : Int} (h : 10 ≤ n) : itoaB n = itoaB (n.tdiv 10) ++ ⟨#[UInt8.ofNat (48 + (n.tmod 10).toNat)]⟩ := by
 have d2 : n.tdiv 10 = n / 10 := Int.tdiv_eq_ediv_of_nonneg (by omega)
 have d4 : n.tmod 10 = n % 10 := Int.tmod_eq_emod_of_nonneg (by omega)
 apply ba_ext
 rw [app_list, d2, d4]
 unfold itoaB Lib.itoa
 rw [if_neg (by omega), if_neg (by omega), Lib.decDigits, dif_neg (by omega), show (n / 10).toNat = n.toNat / 10 by omega, show (n % 10).toNat = n.toNat % 10 by omega]
theorem itoaB_negbig {n : Int} (h : n ≤ -10) : itoaB n = itoaB (n.tdiv 10) ++ ⟨#[UInt8.ofNat (48 + (-(n.tmod 10)).toNat)]⟩ := by
 have e1 : n.tdiv 10 = -((-n) / 10) := by
  have := Int.neg_tdiv (-n) 10
  rw [Int.neg_neg] at this
  rw [this, Int.tdiv_eq_ediv_of_nonneg (by omega)]
 have e2 : n.tmod 10 = -((-n) % 10) := by
  have := Int.neg_tmod (-n) 10
  rw [Int.neg_neg] at this
  rw [this, Int.tmod_eq_emod_of_nonneg (by omega)]
 apply ba_ext
 rw [app_list, e1, e2, Int.neg_neg]
 unfold itoaB Lib.itoa
 rw [if_pos (by omega), if_pos (by omega), Lib.decDigits, dif_neg (by omega), show (-(-n / 10)).natAbs = n.natAbs / 10 by omega, show (-n % 10).toNat = n.natAbs % 10 by omega]
 simp
@[go_sem] theorem conv35 (n : Int) : convA T 3 5 (.int .i64 n) = some (.int .u8 (IntKind.u8.wrap n)) := rfl
@[go_sem] theorem conv939 (l : List AV) (n : Nat) (t : Tail) : convA T 93 9 (.slice l n t) = none := rfl
theorem u8w {n : Int} (h : 0 ≤ n ∧ n ≤ 255) : IntKind.u8.wrap n = n := by rw [IntKind.wrap_u8]; omega
theorem Decimal_pc : ∀ (k : Nat) (n : Int), n.natAbs ≤ k → i64 n → PC Tryz.prog 147 [.int .i64 n] (.pure (.str (itoaB n))) := by
 intro k
 induction k with
 | zero =>
  intro n hk h
  have e : n = 0 := by omega
  subst e
  refine PC.of_empty (AC.run (E_ok _) mix Tryz.func147 m147 rfl rfl rfl (Nat.le_of_ble_eq_true rfl) ?_) rfl rfl
  have g1 : ((0 : Int) > -10) := by decide
  have g2 : ¬ ((0 : Int) < 0) := by decide
  have g3 : ((0 : Int) < 10) := by decide
  have w1 : IntKind.i64.wrap 48 = 48 := by decide
  have w2 : IntKind.u8.wrap 48 = 48 := by decide
  have hs : strOfNums [48] = itoaB 0 := by
   rw [itoaB_small (by decide) (by decide)]; rfl
  simp only [go_sem, g1, g2, g3, decide_true, decide_false, w1, w2, bstr, hs, Tryz.f147, reduceEqDiff, Nat.reduceBEq, reduceAdd, reduceIte, reduceCtorEq, reduceLeDiff]
 | succ k ih =>
  intro n hk h
  refine PC.of_empty (AC.run (E_ok _) mix Tryz.func147 m147 rfl rfl rfl (Nat.le_of_ble_eq_true rfl) ?_) rfl rfl
  unfold i64 at h
  by_cases hn : n < 0
  ·by_cases g1 : n > -10
   ·obtain ⟨d, hd⟩ : ∃ d : Nat, n = -(d : Int) := ⟨(-n).toNat, by omega⟩
    have w1 : IntKind.i64.wrap (48 - n) = 48 + (d : Int) := by rw [wrap64 (by omega)]; omega
    have w2 : IntKind.u8.wrap (48 + (d : Int)) = 48 + (d : Int) := u8w (by omega)
    have hs : binA T .add 9 (.str ⟨#[45]⟩) (.str (strOfNums [48 + (d : Int)])) = some (.str (itoaB n)) := by
     rw [itoaB_negsmall g1 hn, itoa_dig (by omega), show (-n).toNat = d by omega]
     exact addS (by show 1 + 1 ≤ _; omega)
    simp only [go_sem, g1, hn, decide_true, w1, w2, bstr, hs, Tryz.f147, reduceEqDiff, Nat.reduceBEq, reduceAdd, reduceIte, reduceCtorEq, reduceLeDiff]
   ·have hb := itoaB_negbig (n := n) (by omega)
    have e1 : n.tdiv 10 = -((-n) / 10) := by
     have := Int.neg_tdiv (-n) 10
     rw [Int.neg_neg] at this
     rw [this, Int.tdiv_eq_ediv_of_nonneg (by omega)]
    have e2 : n.tmod 10 = -((-n) % 10) := by
     have := Int.neg_tmod (-n) 10
     rw [Int.neg_neg] at this
     rw [this, Int.tmod_eq_emod_of_nonneg (by omega)]
    obtain ⟨d, hd⟩ : ∃ d : Nat, -(n.tmod 10) = (d : Int) := ⟨(-(n.tmod 10)).toNat, by omega⟩
    have hd10 : d < 10 := by omega
    have q1 : intOp .quo .i64 n 10 = some (.int .i64 (n.tdiv 10)) := by
     show some (AV.int .i64 (IntKind.i64.wrap (n.tdiv 10))) = _
     rw [wrap64 (by omega)]
    have q2 : intOp .rem .i64 n 10 = some (.int .i64 (n.tmod 10)) := rfl
    have w1 : IntKind.i64.wrap (48 - n.tmod 10) = 48 + (d : Int) := by rw [wrap64 (by omega)]; omega
    have w2 : IntKind.u8.wrap (48 + (d : Int)) = 48 + (d : Int) := u8w (by omega)
    have hI : i64 (n.tdiv 10) := ⟨by omega, by omega⟩
    have hsz := itoaB_size hI
    have hs : binA T .add 9 (.str (itoaB (n.tdiv 10))) (.str (strOfNums [48 + (d : Int)])) = some (.str (itoaB n)) := by
     rw [hb, itoa_dig hd10, show (-(n.tmod 10)).toNat = d by omega]
     exact addS (by show _ + 1 ≤ _; omega)
    have hrec := ih (n.tdiv 10) (by omega) hI
    simp only [go_sem, g1, hn, decide_true, decide_false, q1, q2, reduceEqDiff, Nat.reduceBEq, reduceAdd, reduceIte, reduceCtorEq, reduceLeDiff]
    refine qp n147 hrec (SubL.refl _) ?_
    simp only [go_sem, q1, q2, w1, w2, bstr, hs, Tryz.f147, reduceEqDiff, Nat.reduceBEq, reduceAdd, reduceIte, reduceCtorEq, reduceLeDiff]
  ·have g1 : n > -10 := by omega
   by_cases g3 : n < 10
   ·obtain ⟨d, hd⟩ : ∃ d : Nat, n = (d : Int) := ⟨n.toNat, by omega⟩
    have w1 : IntKind.i64.wrap (48 + n) = 48 + (d : Int) := by rw [wrap64 (by omega)]; omega
    have w2 : IntKind.u8.wrap (48 + (d : Int)) = 48 + (d : Int) := u8w (by omega)
    have hs : strOfNums [48 + (d : Int)] = itoaB n := by
     rw [itoaB_small (by omega) g3, itoa_dig (by omega), show n.toNat = d by omega]
    simp only [go_sem, g1, hn, g3, decide_true, decide_false, w1, w2, bstr, hs, Tryz.f147, reduceEqDiff, Nat.reduceBEq, reduceAdd, reduceIte, reduceCtorEq, reduceLeDiff]
   ·have hb := itoaB_big (n := n) (by omega)
    have e1 : n.tdiv 10 = n / 10 := Int.tdiv_eq_ediv_of_nonneg (by omega)
    have e2 : n.tmod 10 = n % 10 := Int.tmod_eq_emod_of_nonneg (by omega)
    obtain ⟨d, hd⟩ : ∃ d : Nat, n.tmod 10 = (d : Int) := ⟨(n.tmod 10).toNat, by omega⟩
    have hd10 : d < 10 := by omega
    have q1 : intOp .quo .i64 n 10 = some (.int .i64 (n.tdiv 10)) := by
     show some (AV.int .i64 (IntKind.i64.wrap (n.tdiv 10))) = _
     rw [wrap64 (by omega)]
    have q2 : intOp .rem .i64 n 10 = some (.int .i64 (n.tmod 10)) := rfl
    have w1 : IntKind.i64.wrap (48 + n.tmod 10) = 48 + (d : Int) := by rw [wrap64 (by omega)]; omega
    have w2 : IntKind.u8.wrap (48 + (d : Int)) = 48 + (d : Int) := u8w (by omega)
    have hI : i64 (n.tdiv 10) := ⟨by omega, by omega⟩
    have hsz := itoaB_size hI
    have hs : binA T .add 9 (.str (itoaB (n.tdiv 10))) (.str (strOfNums [48 + (d : Int)])) = some (.str (itoaB n)) := by
     rw [hb, itoa_dig hd10, show (n.tmod 10).toNat = d by omega]
     exact addS (by show _ + 1 ≤ _; omega)
    have hrec := ih (n.tdiv 10) (by omega) hI
    simp only [go_sem, g1, hn, g3, decide_true, decide_false, q1, q2, reduceEqDiff, Nat.reduceBEq, reduceAdd, reduceIte, reduceCtorEq, reduceLeDiff]
    refine qp n147 hrec (SubL.refl _) ?_
    simp only [go_sem, q1, q2, w1, w2, bstr, hs, Tryz.f147, reduceEqDiff, Nat.reduceBEq, reduceAdd, reduceIte, reduceCtorEq, reduceLeDiff]
theorem rRow_pc (w : ByteArray) (hw : w.size ≤ 1000) (ns : List Int) (hn : ns.length ≤ 10) (h : ∀ n ∈ ns, i64 n) : PC Tryz.prog 111 [.str w, sl ns] (.pure (.str (rowN w ns))) := by
 refine PC.of_empty (AC.run (E_ok _) mix Tryz.func111 m111 rfl rfl rfl (Nat.le_of_ble_eq_true rfl) ?_) (by simp [bndL, AV.bnd]) rfl
 simp only [go_sem, reduceEqDiff, Nat.reduceBEq, reduceAdd, reduceIte, reduceCtorEq, reduceLeDiff]
 refine wc_for ns.length (fun k => [(0, .str (rowN w (ns.take k))), (1, sl ns), (5, .int .i64 k)]) (fun _ => St.empty) rfl rfl ?_
 intro k hk I hI
 by_cases h' : k < ns.length
 ·have h1 : (k : Int) < ns.length := by omega
  have h2 : 0 ≤ (k : Int) ∧ (k : Int) < ns.length := by omega
  have h3 : ns[k]? = some ns[k] := List.getElem?_eq_getElem h'
  have h4 : IntKind.i64.wrap ((k : Int) + 1) = (k + 1 : Nat) := wrap64 (by omega)
  have hm := h _ (List.getElem_mem h')
  have h5 := itoaB_size hm
  have h6 := rowN_size (ns.take k) w fun m hm => h m (List.mem_of_mem_take hm)
  have h8 : (ns.take k).length ≤ 10 := by simp; omega
  have a1 : binA T .add 9 (.str (rowN w (ns.take k))) (.str ⟨#[32]⟩) = some (.str (rowN w (ns.take k) ++ sp)) := addS (by show _ + 1 ≤ _; omega)
  have a2 : binA T .add 9 (.str (rowN w (ns.take k) ++ sp)) (.str (itoaB ns[k])) = some (.str (rowN w (ns.take k) ++ sp ++ itoaB ns[k])) := addS (by rw [ByteArray.size_append]; show _ + 1 + _ ≤ _; omega)
  simp only [go_sem, l111_0, builtinA, h1, decide_true, h2, ints_get, h3, a1, reduceEqDiff, Nat.reduceBEq, reduceAdd, reduceIte, reduceCtorEq, reduceLeDiff]
  refine cp n147 (Decimal_pc _ _ (Nat.le_refl _) hm) (SubL.refl _) ?_
  simp only [go_sem, a2, h4, reduceEqDiff, Nat.reduceBEq, reduceAdd, reduceIte, reduceCtorEq, reduceLeDiff]
  have := hI h'
  rw [rowN_take _ _ _ h', ← ByteArray.append_assoc] at this
  exact this
 ·have h1 : ¬ (k : Int) < ns.length := by omega
  have e : k = ns.length := by omega
  subst e
  simp only [go_sem, l111_0, builtinA, h1, decide_false, List.take_length, Tryz.f111, reduceEqDiff, Nat.reduceBEq, reduceAdd, reduceIte, reduceCtorEq, reduceLeDiff]
def catB (R : List ByteArray) : Nat → ByteArray
 | 0 => ByteArray.empty
 | i + 1 => catB R i ++ R.getD i ByteArray.empty ++ lf
theorem catB_size {R : List ByteArray} (h : ∀ r ∈ R, r.size ≤ 100) : ∀ i, (catB R i).size ≤ 101 * i
 | 0 => Nat.le_refl _
 | i + 1 => by
  have ih := catB_size h i
  have hs : (R.getD i ByteArray.empty).size ≤ 100 := by
   rw [List.getD_eq_getElem?_getD]
   cases e : R[i]? with
   | none => exact Nat.zero_le _
   | some r => exact h r (List.mem_of_getElem? e)
  show (catB R i ++ _ ++ lf).size ≤ _
  rw [ByteArray.size_append, ByteArray.size_append]
  show _ + _ + 1 ≤ _; omega
def sealB (R : List ByteArray) (m : Int) : ByteArray := catB R R.length ++ endB ((ck R R.length).tmod m) ++ lf
theorem rSealed_pc (R : List ByteArray) (m : Int) (hm : 0 < m ∧ m ≤ 1000) (hR : ∀ r ∈ R, r.size ≤ 100) (hN : R.length ≤ 2500) (t : Tail) : PC Tryz.prog 112 [.slice (strs R) R.length t, .int .i64 m] (.pure (.str (sealB R m))) := by
 have key : PC Tryz.prog 112 [.slice (strs R) R.length .unk, .int .i64 m] (.pure (.str (sealB R m))) := by
  refine PC.of_empty (AC.run (E_ok _) mix Tryz.func112 m112 rfl rfl rfl (Nat.le_of_ble_eq_true rfl) ?_) (by simp [bndL, AV.bnd]) rfl
  simp only [go_sem, reduceEqDiff, Nat.reduceBEq, reduceAdd, reduceIte, reduceCtorEq, reduceLeDiff]
  refine wc_for R.length (fun i => [(0, .slice (strs R) R.length .unk), (1, .int .i64 m), (5, .str (catB R i)), (6, .int .i64 (ck R i)), (7, .int .i64 i)]) (fun _ => St.empty) rfl rfl ?_
  intro i hi I hI
  by_cases h' : i < R.length
  ·have h1 : (i : Int) < R.length := by omega
   have h2 : 0 ≤ (i : Int) ∧ (i : Int) < R.length := by omega
   have h3 : R[i]? = some R[i] := List.getElem?_eq_getElem h'
   have h4 : IntKind.i64.wrap ((i : Int) + 1) = (i + 1 : Nat) := wrap64 (by omega)
   have hr := hR _ (List.getElem_mem h')
   simp only [go_sem, l112_0, builtinA, h1, decide_true, reduceEqDiff, Nat.reduceBEq, reduceAdd, reduceIte, reduceCtorEq, reduceLeDiff]
   have hck : ck R (i + 1) = ck R i + rs R[i] R[i].size * (i + 1 : Nat) := by
    show ck R i + rs (R.getD i _) (R.getD i _).size * _ = _
    rw [List.getD_eq_getElem?_getD, h3]; rfl
   have hcat : catB R (i + 1) = catB R i ++ R[i] ++ lf := by
    show catB R i ++ R.getD i _ ++ lf = _
    rw [List.getD_eq_getElem?_getD, h3]; rfl
   have hb := ck_bd hR i (by omega)
   have hcs := catB_size hR i
   have hI' := hI h'
   rw [hck, hcat] at hI'
   generalize R[i] = r at *
   refine wc_for r.size (fun k => [(0, .slice (strs R) R.length .unk), (1, .int .i64 m), (5, .str (catB R i)), (6, .int .i64 (ck R i + rs r k * (i + 1 : Nat))), (7, .int .i64 i), (8, .int .i64 k)]) (fun _ => St.empty) (by simp only [rs, Int.zero_mul, Int.add_zero]; rfl) rfl ?_
   intro k hk I2 hI2
   by_cases h'' : k < r.size
   ·have g1 : (k : Int) < r.size := by omega
    have g4 : IntKind.i64.wrap ((k : Int) + 1) = (k + 1 : Nat) := wrap64 (by omega)
    have hbt : r[k]? = some r[k] := by simp [h'']
    have hB : r[k].toNat ≤ 255 := Nat.le_of_lt_succ (UInt8.toNat_lt _)
    have hrs : rs r (k + 1) = rs r k + (r[k].toNat : Int) * (k + 1 : Nat) := by
     show rs r k + (((r[k]?).getD 0).toNat : Int) * _ = _
     rw [hbt]; rfl
    have hb2 := rs_bd100 r (k := k) (by omega)
    have p1 : 0 ≤ (r[k].toNat : Int) * (k + 1 : Nat) := Int.mul_nonneg (by omega) (by omega)
    have p2 : (r[k].toNat : Int) * (k + 1 : Nat) ≤ 255 * (100 : Int) := Int.mul_le_mul (by omega) (by omega) (by omega) (by omega)
    have p3 : 0 ≤ (r[k].toNat : Int) * (k + 1 : Nat) * (i + 1 : Nat) := Int.mul_nonneg p1 (by omega)
    have p4 : (r[k].toNat : Int) * (k + 1 : Nat) * (i + 1 : Nat) ≤ 25500 * (3000 : Int) := Int.mul_le_mul (by omega) (by omega) (by omega) (by omega)
    have p5 : 0 ≤ rs r k * (i + 1 : Nat) := Int.mul_nonneg hb2.1 (by omega)
    have p6 : rs r k * (i + 1 : Nat) ≤ 2550000 * (3000 : Int) := Int.mul_le_mul hb2.2 (by omega) (by omega) (by omega)
    have w1 : IntKind.i64.wrap (r[k].toNat : Int) = r[k].toNat := wrap64 (by omega)
    have w2 : IntKind.i64.wrap ((r[k].toNat : Int) * (k + 1 : Nat)) = (r[k].toNat : Int) * (k + 1 : Nat) := wrap64 (by omega)
    have w3 : IntKind.i64.wrap ((r[k].toNat : Int) * (k + 1 : Nat) * (i + 1 : Nat)) = (r[k].toNat : Int) * (k + 1 : Nat) * (i + 1 : Nat) := wrap64 (by omega)
    have w4 : IntKind.i64.wrap (ck R i + rs r k * (i + 1 : Nat) + (r[k].toNat : Int) * (k + 1 : Nat) * (i + 1 : Nat)) = ck R i + rs r k * (i + 1 : Nat) + (r[k].toNat : Int) * (k + 1 : Nat) * (i + 1 : Nat) := wrap64 (by omega)
    have hz : 0 ≤ (k : Int) := by omega
    simp only [go_sem, l112_1, builtinA, h2, strs_get, h3, Option.map_some, g1, decide_true, hz, hbt, convA, w1, w2, w3, w4, g4, h4, reduceEqDiff, Nat.reduceBEq, reduceAdd, reduceIte, reduceCtorEq, reduceLeDiff]
    have := hI2 h''
    rw [hrs, Int.add_mul, ← Int.add_assoc] at this
    exact this
   have g1 : ¬ (k : Int) < r.size := by omega
   have e : k = r.size := by omega
   subst e
   clear hI2 hk h''
   have a1 : binA T .add 9 (.str (catB R i)) (.str r) = some (.str (catB R i ++ r)) := addS (by omega)
   have a2 : binA T .add 9 (.str (catB R i ++ r)) (.str ⟨#[10]⟩) = some (.str (catB R i ++ r ++ lf)) := addS (by rw [ByteArray.size_append]; show _ + _ + 1 ≤ _; omega)
   simp only [go_sem, l112_1, builtinA, h2, strs_get, h3, Option.map_some, g1, decide_false, a1, a2, h4, reduceEqDiff, Nat.reduceBEq, reduceAdd, reduceIte, reduceCtorEq, reduceLeDiff]
   exact hI'
  have h1 : ¬ (i : Int) < R.length := by omega
  have e : i = R.length := by omega
  subst e
  clear hI hi h'
  have hb := ck_bd hR R.length (by omega)
  have hcs := catB_size hR R.length
  have hfin : sealB R m = catB R R.length ++ endB ((ck R R.length).tmod m) ++ lf := rfl
  rw [hfin]
  generalize ck R R.length = C at *
  generalize catB R R.length = Z at *
  have e1 : intOp .rem .i64 C m = some (.int .i64 (C.tmod m)) := by
   show (if m = 0 then none else some (AV.int .i64 (C.tmod m))) = _
   rw [if_neg (by omega)]
  have hc0 : 0 ≤ C.tmod m := Int.tmod_nonneg _ hb.1
  have hc1 : C.tmod m < m := Int.tmod_lt_of_pos _ hm.1
  simp only [go_sem, l112_0, builtinA, h1, decide_false, e1, reduceEqDiff, Nat.reduceBEq, reduceAdd, reduceIte, reduceCtorEq, reduceLeDiff]
  generalize C.tmod m = c at *
  have d1 : c.tdiv 100 = c / 100 := Int.tdiv_eq_ediv_of_nonneg hc0
  have d2 : c.tdiv 10 = c / 10 := Int.tdiv_eq_ediv_of_nonneg hc0
  have d3 : (c.tdiv 10).tmod 10 = c / 10 % 10 := by rw [d2]; exact Int.tmod_eq_emod_of_nonneg (by omega)
  have d4 : c.tmod 10 = c % 10 := Int.tmod_eq_emod_of_nonneg hc0
  have e2 : intOp .quo .i64 c 100 = some (.int .i64 (c.tdiv 100)) := by
   show some (AV.int .i64 (IntKind.i64.wrap (c.tdiv 100))) = _
   rw [wrap64 (by omega)]
  have e3 : intOp .quo .i64 c 10 = some (.int .i64 (c.tdiv 10)) := by
   show some (AV.int .i64 (IntKind.i64.wrap (c.tdiv 10))) = _
   rw [wrap64 (by omega)]
  have e4 : intOp .rem .i64 (c.tdiv 10) 10 = some (.int .i64 ((c.tdiv 10).tmod 10)) := rfl
  have e5 : intOp .rem .i64 c 10 = some (.int .i64 (c.tmod 10)) := rfl
  have i1 : i64 (c.tdiv 100) := ⟨by omega, by omega⟩
  have i2 : i64 ((c.tdiv 10).tmod 10) := ⟨by omega, by omega⟩
  have i3 : i64 (c.tmod 10) := ⟨by omega, by omega⟩
  have z1 := itoaB_size i1
  have z2 := itoaB_size i2
  have z3 := itoaB_size i3
  have a1 : binA T .add 9 (.str Z) (.str ⟨#[101, 110, 100, 32]⟩) = some (.str (Z ++ endW)) := addS (by show _ + 4 ≤ _; omega)
  have s1 : (Z ++ endW).size ≤ 101 * R.length + 4 := by rw [ByteArray.size_append]; show _ + 4 ≤ _; omega
  have a2 : binA T .add 9 (.str (Z ++ endW)) (.str (itoaB (c.tdiv 100))) = some (.str (Z ++ endW ++ itoaB (c.tdiv 100))) := addS (by omega)
  have s2 : (Z ++ endW ++ itoaB (c.tdiv 100)).size ≤ 101 * R.length + 25 := by rw [ByteArray.size_append]; omega
  have a3 := addS (a := Z ++ endW ++ itoaB (c.tdiv 100)) (b := itoaB ((c.tdiv 10).tmod 10)) (by omega)
  have s3 : (Z ++ endW ++ itoaB (c.tdiv 100) ++ itoaB ((c.tdiv 10).tmod 10)).size ≤ 101 * R.length + 46 := by rw [ByteArray.size_append]; omega
  have a4 := addS (a := Z ++ endW ++ itoaB (c.tdiv 100) ++ itoaB ((c.tdiv 10).tmod 10)) (b := itoaB (c.tmod 10)) (by omega)
  have s4 : (Z ++ endW ++ itoaB (c.tdiv 100) ++ itoaB ((c.tdiv 10).tmod 10) ++ itoaB (c.tmod 10)).size ≤ 101 * R.length + 67 := by rw [ByteArray.size_append]; omega
  have a5 : binA T .add 9 (.str (Z ++ endW ++ itoaB (c.tdiv 100) ++ itoaB ((c.tdiv 10).tmod 10) ++ itoaB (c.tmod 10))) (.str ⟨#[10]⟩) = some (.str (Z ++ endB c ++ lf)) := by
   have : Z ++ endB c ++ lf = Z ++ endW ++ itoaB (c.tdiv 100) ++ itoaB ((c.tdiv 10).tmod 10) ++ itoaB (c.tmod 10) ++ lf := by
    unfold endB
    simp only [ByteArray.append_assoc]
   rw [this]
   exact addS (by show _ + 1 ≤ _; omega)
  simp only [go_sem, a1, e2, reduceEqDiff, Nat.reduceBEq, reduceAdd, reduceIte, reduceCtorEq, reduceLeDiff]
  refine cp n147 (Decimal_pc _ _ (Nat.le_refl _) i1) (SubL.refl _) ?_
  simp only [go_sem, a2, e3, e4, reduceEqDiff, Nat.reduceBEq, reduceAdd, reduceIte, reduceCtorEq, reduceLeDiff]
  refine cp n147 (Decimal_pc _ _ (Nat.le_refl _) i2) (SubL.refl _) ?_
  simp only [go_sem, a3, e5, reduceEqDiff, Nat.reduceBEq, reduceAdd, reduceIte, reduceCtorEq, reduceLeDiff]
  refine cp n147 (Decimal_pc _ _ (Nat.le_refl _) i3) (SubL.refl _) ?_
  simp only [go_sem, a4, a5, Tryz.f112, reduceEqDiff, Nat.reduceBEq, reduceAdd, reduceIte, reduceCtorEq, reduceLeDiff]
 exact fun c S w vs h1 h2 => key c S w vs h1 (SubL.cons (Sub.unk _ _ _) (SubL.refl _) c vs h2)
end Go.Av.Fx
end
section
namespace Go.Av.Fx
open Go Go.Av Go.Av.Tb Go.Proofs
theorem join_snoc (sep x : List UInt8) : ∀ (R : List (List UInt8)) (a : List UInt8), a ++ Lib.joinTail sep (R ++ [x]) = ((a :: R).map (· ++ sep)).flatten ++ x
 | [], a => by simp [Lib.joinTail]
 | b :: R, a => by
  have ih := join_snoc sep x R b
  have e : Lib.joinTail sep (b :: R ++ [x]) = sep ++ (b ++ Lib.joinTail sep (R ++ [x])) := by simp [Lib.joinTail]
  rw [e, ih]
  simp
theorem catB_list (R : List ByteArray) : ∀ k, k ≤ R.length → (catB R k).data.toList = ((R.take k).map fun r => r.data.toList ++ lf.data.toList).flatten
 | 0, _ => rfl
 | k + 1, h => by
  have ih := catB_list R k (by omega)
  have h' : k < R.length := by omega
  rw [List.take_succ_eq_append_getElem h', List.map_append, List.flatten_append, ← ih]
  show (catB R k ++ R.getD k ByteArray.empty ++ lf).data.toList = _
  rw [app_list, app_list, getD_at _ h']
  simp
theorem join_cat (R : List ByteArray) (x : ByteArray) : joinB (R ++ [x]) lf ++ lf = catB R R.length ++ x ++ lf := by
 apply ba_ext
 rw [app_list, app_list, app_list, catB_list R R.length (Nat.le_refl _), List.take_length]
 congr 1
 unfold joinB
 cases R with
 | nil => simp [Lib.join_one]
 | cons a R =>
  rw [List.cons_append, List.map_cons, Lib.join_cons, List.map_append]
  have := join_snoc lf.data.toList x.data.toList (R.map (·.data.toList)) a.data.toList
  simp only [List.map_cons, List.map_nil, List.map_map] at this ⊢
  exact this
theorem seal_text (l : LLine) : sealB (rowsL l) 157 = textB l := by
 unfold textB
 rw [join_cat]; rfl
theorem rPrint_pc (l : LLine) (h : Plain l) : PC Tryz.prog 62 [lineA l] (.pure (.str (textB l))) := by
 have hG := h.gives
 have hC := h.counts
 rw [← seal_text]
 refine PC.of_empty (AC.run (E_ok _) mix Tryz.func62 m62 rfl rfl rfl (Nat.le_of_ble_eq_true rfl) ?_) (by simp [bndL, AV.bnd]) rfl
 simp only [go_sem, boxA, reduceEqDiff, Nat.reduceBEq, reduceAdd, reduceIte, reduceCtorEq, reduceLeDiff]
 refine cp n111 (rRow_pc (wordB 0) (by decide) [l.least, l.most, l.taps] (Nat.le_of_ble_eq_true rfl) h.head) (SubL.cons (Sub.refl _) (SubL.cons (Sub.unk _ _ _) (SubL.refl _))) ?_
 simp only [go_sem, builtinA, reduceEqDiff, Nat.reduceBEq, reduceAdd, reduceIte, reduceCtorEq, reduceLeDiff]
 refine wc_for l.gives.length (fun k => [(1, .ref 0 0), (3, .slice (strs (headR l :: gsR l k)) (headR l :: gsR l k).length (tailN k)), (4, .int .i64 k)]) (fun k => ⟨[some (.cells (lineC l))], k, toksN k⟩) rfl rfl ?_
 intro k hk I hI
 have eg := gsR_len l k hk
 by_cases h' : k < l.gives.length
 ·have h1 : (k : Int) < l.gives.length := by omega
  have h2 : 0 ≤ (k : Int) ∧ (k : Int) < l.gives.length := by omega
  have h3 : l.gives[k]? = some l.gives[k] := List.getElem?_eq_getElem h'
  have h4 : IntKind.i64.wrap ((k : Int) + 1) = (k + 1 : Nat) := wrap64 (by omega)
  simp only [go_sem, l62_0, builtinA, h1, decide_true, h2, ints_get, h3, reduceEqDiff, Nat.reduceBEq, reduceAdd, reduceIte, reduceCtorEq, reduceLeDiff]
  refine cp n111 (rRow_pc (wordB 1) (by decide) [l.gives[k]] (Nat.le_of_ble_eq_true rfl) (by intro n hn; simp at hn; subst hn; exact h.give _ (List.getElem_mem h'))) (SubL.cons (Sub.refl _) (SubL.cons (Sub.unk _ _ _) (SubL.refl _))) ?_
  simp only [go_sem, builtinA, reduceEqDiff, Nat.reduceBEq, reduceAdd, reduceIte, reduceCtorEq, reduceLeDiff]
  refine sr_app141 (l := headR l :: gsR l k) _ rfl (by simp; omega) ?_
  simp only [go_sem, builtinA, h4, reduceEqDiff, Nat.reduceBEq, reduceAdd, reduceIte, reduceCtorEq, reduceLeDiff]
  have := hI h'
  rw [gsR_succ l k h'] at this
  simp only [List.length_cons, List.length_append, List.length_nil] at this
  exact this
 have h1 : ¬ (k : Int) < l.gives.length := by omega
 have e : k = l.gives.length := by omega
 subst e
 clear hI hk h'
 simp only [go_sem, l62_0, builtinA, h1, decide_false, reduceEqDiff, Nat.reduceBEq, reduceAdd, reduceIte, reduceCtorEq, reduceLeDiff]
 rw [eg]
 refine wc_forG l.counts.length (fun k => [(1, .ref 0 0), (3, .slice (strs ((headR l :: gsR l l.gives.length) ++ csR l k)) (l.gives.length + 1 + k) (tailN (l.gives.length + k))), (5, .int .i64 k)]) (fun k => ⟨[some (.cells (lineC l))], l.gives.length + k, toksN (l.gives.length + k)⟩) (by simp [csR]) rfl (fun k hk => ?_) ?_
 ·refine ⟨Nat.zero_le _, Nat.zero_le _, by cases h : l.gives.length + k <;> simp [bndTS, AV.bnd, tailN], fun i B hB => ?_, fun t ht => toksN_lt ht⟩
  cases i with
  | zero => simp at hB; subst hB; simp [Blk.bnd, bndL, AV.bnd]
  | succ i => simp at hB
 intro k hk I hI
 have ec := csR_len l k hk
 by_cases h' : k < l.counts.length
 ·have h1 : (k : Int) < l.counts.length := by omega
  have h2 : 0 ≤ (k : Int) ∧ (k : Int) < l.counts.length := by omega
  have h3 : k * 3 + 3 ≤ (cnts l.counts).length := by rw [cnts_len]; omega
  have h5 := cnts_at l.counts k h'
  have h4 : IntKind.i64.wrap ((k : Int) + 1) = (k + 1 : Nat) := wrap64 (by omega)
  have hm := List.getElem_mem h'
  simp only [go_sem, l62_1, builtinA, h1, decide_true, h2, h3, h5, reduceEqDiff, Nat.reduceBEq, reduceAdd, reduceIte, reduceCtorEq, reduceLeDiff]
  refine cp n111 (rRow_pc (wordB 2) (by decide) [l.counts[k].point, l.counts[k].low, l.counts[k].high] (Nat.le_of_ble_eq_true rfl) (h.count _ hm)) (SubL.cons (Sub.refl _) (SubL.cons (Sub.unk _ _ _) (SubL.refl _))) ?_
  simp only [go_sem, builtinA, reduceEqDiff, Nat.reduceBEq, reduceAdd, reduceIte, reduceCtorEq, reduceLeDiff]
  refine sr_app141 (k := l.gives.length + k) (l := (headR l :: gsR l l.gives.length) ++ csR l k) _ (by simp [eg, ec]; omega) (by omega) ?_
  simp only [go_sem, builtinA, h4, reduceEqDiff, Nat.reduceBEq, reduceAdd, reduceIte, reduceCtorEq, reduceLeDiff]
  have := hI h' [some (.cells (cntC l.counts[k]))]
  rw [csR_succ l k h'] at this
  simp only [← Nat.add_assoc, List.append_assoc, List.cons_append, List.nil_append] at this
  exact this
 have h1 : ¬ (k : Int) < l.counts.length := by omega
 have e : k = l.counts.length := by omega
 subst e
 clear hI hk h'
 rw [← rowsL_eq, show l.gives.length + 1 + l.counts.length = (rowsL l).length by rw [rowsL_len]; omega]
 simp only [go_sem, l62_1, builtinA, h1, decide_false, reduceEqDiff, Nat.reduceBEq, reduceAdd, reduceIte, reduceCtorEq, reduceLeDiff]
 refine cp n112 (rSealed_pc (rowsL l) 157 (by decide) (rowsL_size h) (by rw [rowsL_len]; omega) _) (SubL.refl _) ?_
 simp only [go_sem, Tryz.f62, reduceEqDiff, Nat.reduceBEq, reduceAdd, reduceIte, reduceCtorEq, reduceLeDiff]
def lineM : LLine := ⟨[10, 0, 20], 5, 15, 1, [⟨0, 100, 104⟩, ⟨3, 58, 62⟩]⟩
def lineN : LLine := ⟨[10, 0, 20], 5, 15, 1, [⟨0, 100, 104⟩, ⟨3, 58, 62⟩, ⟨1, 97, 100⟩]⟩
theorem M_key : PC Tryz.prog 74 [] (.pure (.agg [.slice (ints [10, 0, 20]) 3 .exact, .int .i64 5, .int .i64 15, .int .i64 1, .slice (cnts [⟨0, 100, 104⟩, ⟨3, 58, 62⟩]) 2 .exact])) := by
 refine PC.of_empty (AC.run (E_ok _) mix Tryz.func74 m74 rfl rfl rfl (Nat.le_of_ble_eq_true rfl) ?_) rfl rfl
 have e1 : buildSliceA T 23 2 [(0, .agg [.int .i64 0, .int .i64 100, .int .i64 104]), (1, .agg [.int .i64 3, .int .i64 58, .int .i64 62])] = some (.slice (cnts [⟨0, 100, 104⟩, ⟨3, 58, 62⟩]) 2 .exact) := rfl
 simp only [go_sem, e1, Tryz.f74, reduceEqDiff, Nat.reduceBEq, reduceAdd, reduceIte, reduceCtorEq, reduceLeDiff]
 rfl
theorem M_pc : PC Tryz.prog 74 [] (.pure (lineA lineM)) := by
 intro c S w vs h1 h2
 refine (M_key c S w vs h1 h2).mono fun e w' ⟨x, he, hp⟩ => ⟨x, he, ?_⟩
 obtain ⟨c', p1, p2, p3, p4, p5⟩ := hp
 exact ⟨c', p1, p2, p3, p4, Sub.agg (SubL.cons (Sub.unk _ _ _) (SubL.cons (Sub.refl _) (SubL.cons (Sub.refl _) (SubL.cons (Sub.refl _) (SubL.cons (Sub.unk _ _ _) (SubL.refl _)))))) c' x p5⟩
theorem N_pc : PC Tryz.prog 73 [] (.pure (lineA lineN)) := by
 refine PC.of_frz (AC.run (E_ok _) mix Tryz.func73 m73 rfl rfl rfl (Nat.le_of_ble_eq_true rfl) ?_) rfl (by simp [bndL, AV.bnd])
 simp only [go_sem, reduceEqDiff, Nat.reduceBEq, reduceAdd, reduceIte, reduceCtorEq, reduceLeDiff]
 refine cp n74 M_key (SubL.refl _) ?_
 have ha : ∀ S, appendA T S 23 (.slice (cnts [⟨0, 100, 104⟩, ⟨3, 58, 62⟩]) 2 .exact) (.slice [.int .i64 1, .int .i64 97, .int .i64 100] 1 .exact) = some (.tok none (fun j => .slice (cnts lineN.counts) 3 (.tok j))) := fun S => rfl
 simp only [go_sem, put_eq, builtinA, ha, Tryz.f73, reduceEqDiff, Nat.reduceBEq, reduceAdd, reduceIte, reduceCtorEq, reduceLeDiff]
 refine ⟨_, rfl, .agg _ _ rfl fun j x y hx hy => ?_⟩
 match j, hx, hy with
 | 0, hx, hy => simp at hx hy; subst hx; subst hy; exact .unk _ _ _
 | 1, hx, hy => simp at hx hy; subst hx; subst hy; exact .same _
 | 2, hx, hy => simp at hx hy; subst hx; subst hy; exact .same _
 | 3, hx, hy => simp at hx hy; subst hx; subst hy; exact .same _
 | 4, hx, hy => simp at hx hy; subst hx; subst hy; exact .unk _ _ _
 | j + 5, hx, hy => simp at hx
end Go.Av.Fx
end
section
namespace Go.Av.Fx
open Go Go.Av Go.Proofs
open Go.Fw (Sq ent Bd Mat Tells Good)
structure Spn (P : (Nat → Int) → Prop) (g : (Nat → Int) → Int) (sp : Span) : Prop where
 bd : ∀ f, P f → sp.low ≤ g f ∧ g f ≤ sp.high
 lo : ∃ f, P f ∧ g f = sp.low
 hi : ∃ f, P f ∧ g f = sp.high
theorem Spn.imp {P Q : (Nat → Int) → Prop} {g : (Nat → Int) → Int} {a : Span} (h : Spn P g a) (e : ∀ f, P f ↔ Q f) : Spn Q g a := by
 obtain ⟨f1, p1, e1⟩ := h.lo
 obtain ⟨f2, p2, e2⟩ := h.hi
 exact ⟨fun f hf => h.bd f ((e f).2 hf), ⟨f1, (e _).1 p1, e1⟩, ⟨f2, (e _).1 p2, e2⟩⟩
theorem Spn.join {P Q : (Nat → Int) → Prop} {g : (Nat → Int) → Int} {a b : Span} (h : Spn P g a) (h' : Spn Q g b) : Spn (fun f => P f ∨ Q f) g (joinS a b) := by
 obtain ⟨f1, p1, e1⟩ := h.lo
 obtain ⟨f2, p2, e2⟩ := h.hi
 obtain ⟨f3, p3, e3⟩ := h'.lo
 obtain ⟨f4, p4, e4⟩ := h'.hi
 unfold joinS
 refine ⟨?_, ?_, ?_⟩
 ·rintro f (hf | hf)
  ·have := h.bd f hf
   constructor
   ·show (if b.low < a.low then b.low else a.low) ≤ _; split <;> omega
   ·show _ ≤ (if b.high > a.high then b.high else a.high); split <;> omega
  ·have := h'.bd f hf
   constructor
   ·show (if b.low < a.low then b.low else a.low) ≤ _; split <;> omega
   ·show _ ≤ (if b.high > a.high then b.high else a.high); split <;> omega
 ·by_cases c : b.low < a.low
  ·exact ⟨f3, .inr p3, by show _ = if b.low < a.low then b.low else a.low; rw [if_pos c]; exact e3⟩
  ·exact ⟨f1, .inl p1, by show _ = if b.low < a.low then b.low else a.low; rw [if_neg c]; exact e1⟩
 ·by_cases c : b.high > a.high
  ·exact ⟨f4, .inr p4, by show _ = if b.high > a.high then b.high else a.high; rw [if_pos c]; exact e4⟩
  ·exact ⟨f2, .inl p2, by show _ = if b.high > a.high then b.high else a.high; rw [if_neg c]; exact e2⟩
theorem Spn.fold {α : Type} {P : α → (Nat → Int) → Prop} {g : (Nat → Int) → Int} {f : α → Span} : ∀ (L : List α) {Q : (Nat → Int) → Prop} {o : Span}, Spn Q g o → (∀ t ∈ L, Spn (P t) g (f t)) →
  Spn (fun x => Q x ∨ ∃ t, t ∈ L ∧ P t x) g (L.foldl (fun o t => joinS o (f t)) o)
 | [], Q, o, h, _ => h.imp fun x => ⟨.inl, fun hx => hx.elim id fun ⟨t, ht, _⟩ => by cases ht⟩
 | t :: L, Q, o, h, hL => by
  refine (Spn.fold L (h.join (hL t List.mem_cons_self)) fun t ht => hL t (List.mem_cons_of_mem _ ht)).imp fun x => ?_
  constructor
  ·rintro ((h | h) | ⟨u, hu, h⟩)
   ·exact .inl h
   ·exact .inr ⟨t, List.mem_cons_self, h⟩
   ·exact .inr ⟨u, List.mem_cons_of_mem _ hu, h⟩
  ·rintro (h | ⟨u, hu, h⟩)
   ·exact .inl (.inl h)
   ·rcases List.mem_cons.1 hu with rfl | hu
    ·exact .inl (.inr h)
    ·exact .inr ⟨u, hu, h⟩
theorem span_eq {l : LLine} (h : Lw l) {s : List Int} {W : Mat} (hW : explM l s = some W) {a b : Nat} (ha : a < l.gives.length + 2) (hb : b < l.gives.length + 2) : spanM W a b = ⟨-ent W b a, ent W a b⟩ := by
 have := expl_bd h hW hb ha
 unfold spanM
 rw [w64_eq (by omega), Int.zero_sub]
theorem flow_spn {l : LLine} (h : Lw l) {s : List Int} {W : Mat} (hW : explM l s = some W) {p : Nat} (hp : p ≤ l.gives.length) : Spn (Fl l s) (fun f => f p) (spanM W (l.gives.length + 1) p) := by
 rw [span_eq h hW (by omega) (by omega)]
 have h1 := expl_mx h hW (a := l.gives.length + 1) (b := p) (by omega) (by omega)
 have h2 := expl_mx h hW (a := p) (b := l.gives.length + 1) (by omega) (by omega)
 have e1 : ∀ f, ex l f p = f p := fun f => by unfold ex; rw [if_pos hp]
 have e2 : ∀ f, ex l f (l.gives.length + 1) = 0 := fun f => by unfold ex; rw [if_neg (by omega)]
 simp only [e1, e2] at h1 h2
 obtain ⟨f1, p1, q1⟩ := h1.2
 obtain ⟨f2, p2, q2⟩ := h2.2
 refine ⟨fun f hf => ?_, ⟨f2, p2, ?_⟩, ⟨f1, p1, ?_⟩⟩
 ·have := h1.1 f hf; have := h2.1 f hf
  simp only at *; omega
 ·simp only at *; omega
 ·simp only at *; omega
def Fa (l : LLine) (f : Nat → Int) : Prop := ∃ s, s ∈ setsL l.gives.length ∧ (s.length : Int) ≤ l.taps ∧ Fl l s f
theorem poss_fa {l : LLine} (h : Lw l) : possB l = true ↔ ∃ f, Fa l f := by
 rw [poss_iff h]
 exact ⟨fun ⟨s, h1, h2, f, h3⟩ => ⟨f, s, h1, h2, h3⟩, fun ⟨f, s, h1, h2, h3⟩ => ⟨s, h1, h2, f, h3⟩⟩
theorem poss_len {l : LLine} : possB l = true ↔ 0 < (theftsL l).length := by
 unfold possB; rw [decide_eq_true_iff]
end Go.Av.Fx
end
section
namespace Go.Av.Fx
open Go Go.Av Go.Av.Tb Go.Proofs
end Go.Av.Fx
end
section
namespace Go.Av.Fx
open Go Go.Av Go.Proofs
open Go.Fw (Sq ent Bd Mat Tells Good)
theorem mem_setsL {m : Nat} {s : List Int} : s ∈ setsL m ↔ s = [] ∨ (∃ i : Nat, i < m ∧ s = [(i : Int)]) ∨ ∃ i k : Nat, i < k ∧ k < m ∧ s = [(i : Int), (k : Int)] := by
 unfold setsL ones twos twosAt
 simp only [List.mem_cons, List.mem_append, List.mem_map, List.mem_range, List.mem_flatMap]
 constructor
 ·rintro (h | ⟨i, hi, h⟩ | ⟨i, hi, j, hj, h⟩)
  ·exact .inl h
  ·exact .inr (.inl ⟨i, hi, h.symm⟩)
  ·exact .inr (.inr ⟨i, i + 1 + j, by omega, by omega, h.symm⟩)
 ·rintro (h | ⟨i, hi, h⟩ | ⟨i, k, hi, hk, h⟩)
  ·exact .inl h
  ·exact .inr (.inl ⟨i, hi, h.symm⟩)
  ·exact .inr (.inr ⟨i, by omega, k - (i + 1), by omega, by rw [h, show i + 1 + (k - (i + 1)) = k by omega]⟩)
theorem setsL_in {m : Nat} {s : List Int} (h : s ∈ setsL m) : ∀ x ∈ s, 0 ≤ x ∧ x < m := by
 intro x hx
 rcases mem_setsL.1 h with rfl | ⟨i, hi, rfl⟩ | ⟨i, k, hi, hk, rfl⟩
 ·cases hx
 ·simp at hx; subst hx; omega
 ·simp at hx; rcases hx with rfl | rfl <;> omega
def cntS (s : List Int) : Nat → Int
 | 0 => 0
 | k + 1 => cntS s k + (if s.contains (k : Int) = true then 1 else 0)
end Go.Av.Fx
end
section
namespace Go.Av.Fx
open Go Go.Av Go.Proofs
open Go.Fw (Sq ent Bd Mat Tells Good)
def moreL (l : LLine) (c : Cnt) : LLine := { l with counts := l.counts ++ [c] }
def addedL (l : LLine) (p : Int) (read off : Int) : LLine := moreL l ⟨p, susLo read off, susHi read off⟩
theorem more_lw {l : LLine} (h : Lw l) (hc : l.counts.length < 1000) {c : Cnt} (hk : (0 ≤ c.point ∧ c.point ≤ l.gives.length) ∧ 0 ≤ c.low ∧ c.low ≤ c.high ∧ c.high ≤ 400) : Lw (moreL l c) := by
 refine ⟨h.pts, by simp [moreL]; omega, h.least, h.most, h.taps, h.gives, fun d hd => ?_⟩
 rcases List.mem_append.1 hd with hd | hd
 ·exact h.counts d hd
 ·simp at hd; subst hd; exact hk
theorem more_ln {l : LLine} (h : Ln l) (hc : l.counts.length < 8) {c : Cnt} (hk : (0 ≤ c.point ∧ c.point ≤ l.gives.length) ∧ 0 ≤ c.low ∧ c.low ≤ c.high ∧ c.high ≤ 400) : Ln (moreL l c) :=
 (more_lw h.lw (by omega) hk).ln (by simp [moreL]; omega)
theorem more_fl {l : LLine} {c : Cnt} {s : List Int} {f : Nat → Int} : Fl (moreL l c) s f ↔ Fl l s f ∧ c.low ≤ f c.point.toNat ∧ f c.point.toNat ≤ c.high := by
 constructor
 ·intro h
  exact ⟨⟨h.pos, h.top, h.step, fun d hd => h.cnt d (List.mem_append_left _ hd)⟩, h.cnt c (List.mem_append_right _ List.mem_cons_self)⟩
 ·rintro ⟨h, hc⟩
  refine ⟨h.pos, h.top, h.step, fun d hd => ?_⟩
  rcases List.mem_append.1 hd with hd | hd
  ·exact h.cnt d hd
  ·simp at hd; subst hd; exact hc
theorem more_fa {l : LLine} {c : Cnt} {f : Nat → Int} : Fa (moreL l c) f ↔ Fa l f ∧ c.low ≤ f c.point.toNat ∧ f c.point.toNat ≤ c.high := by
 unfold Fa
 constructor
 ·rintro ⟨s, h1, h2, h3⟩
  obtain ⟨h3, h4⟩ := more_fl.1 h3
  exact ⟨⟨s, h1, h2, h3⟩, h4⟩
 ·rintro ⟨⟨s, h1, h2, h3⟩, h4⟩
  exact ⟨s, h1, h2, more_fl.2 ⟨h3, h4⟩⟩
theorem sus_bd {read off : Int} (hr : 0 ≤ read ∧ read ≤ 400) (ho : 0 ≤ off) : 0 ≤ susLo read off ∧ susLo read off ≤ susHi read off ∧ susHi read off ≤ 400 := by
 unfold susLo susHi
 split <;> split <;> omega
theorem added_lw {l : LLine} (h : Lw l) (hc : l.counts.length < 1000) {p read off : Int} (hp : 0 ≤ p ∧ p ≤ l.gives.length) (hr : 0 ≤ read ∧ read ≤ 400) (ho : 0 ≤ off) : Lw (addedL l p read off) :=
 more_lw h hc ⟨hp, sus_bd hr ho⟩
theorem added_ln {l : LLine} (h : Ln l) (hc : l.counts.length < 8) {p read off : Int} (hp : 0 ≤ p ∧ p ≤ l.gives.length) (hr : 0 ≤ read ∧ read ≤ 400) (ho : 0 ≤ off) : Ln (addedL l p read off) :=
 more_ln h hc ⟨hp, sus_bd hr ho⟩
theorem fa_bd {l : LLine} (h : Lw l) {f : Nat → Int} (hf : Fa l f) {p : Nat} (hp : p ≤ l.gives.length) : 0 ≤ f p ∧ f p ≤ 400 := by
 obtain ⟨s, _, _, h3⟩ := hf
 exact h3.bd h hp
theorem poss_out {l : LLine} : possB l = true ↔ 0 < (setsOut l).length := by
 rw [setsOut_len]; exact poss_len
theorem Fl.between {l : LLine} {s : List Int} {f g : Nat → Int} (hf : Fl l s f) (hg : Fl l s g) {p : Nat} {v : Int} (h1 : f p ≤ v) (h2 : v ≤ g p) : ∃ x, Fl l s x ∧ x p = v := by
 refine ⟨fun q => min (g q) (f q + (v - f p)), ⟨fun q hq => ?_, ?_, fun i hi => ?_, fun c hc => ?_⟩, ?_⟩
 ·have := hf.pos q hq; have := hg.pos q hq
  show 0 ≤ min (g q) (f q + (v - f p)); omega
 ·have := hg.top
  show min (g 0) (f 0 + (v - f p)) ≤ 400; omega
 ·have := hf.step i hi; have := hg.step i hi
  show lowL l s i ≤ min (g i) (f i + (v - f p)) - min (g (i + 1)) (f (i + 1) + (v - f p)) ∧ min (g i) (f i + (v - f p)) - min (g (i + 1)) (f (i + 1) + (v - f p)) ≤ highL l s i
  omega
 ·have := hf.cnt c hc; have := hg.cnt c hc
  show c.low ≤ min (g c.point.toNat) (f c.point.toNat + (v - f p)) ∧ min (g c.point.toNat) (f c.point.toNat + (v - f p)) ≤ c.high
  omega
 ·show min (g p) (f p + (v - f p)) = v; omega
theorem overlap_iff {l : LLine} (h : Lw l) {s : List Int} {W : Mat} (hW : explM l s = some W) {p : Nat} (hp : p ≤ l.gives.length) {lo hi : Int} (hlh : lo ≤ hi) :
  (¬ (spanM W (l.gives.length + 1) p).low > hi ∧ ¬ (spanM W (l.gives.length + 1) p).high < lo) ↔ ∃ f, Fl l s f ∧ lo ≤ f p ∧ f p ≤ hi := by
 have hs := flow_spn h hW hp
 obtain ⟨f1, p1, e1⟩ := hs.lo
 obtain ⟨f2, p2, e2⟩ := hs.hi
 constructor
 ·rintro ⟨h1, h2⟩
  obtain ⟨x, hx, ex⟩ := p1.between p2 (p := p) (v := max (f1 p) lo) (by omega) (by have := (hs.bd f2 p2).1; omega)
  exact ⟨x, hx, by omega⟩
 ·rintro ⟨f, hf, h1, h2⟩
  have := hs.bd f hf
  omega
theorem added_expl {l : LLine} (h : Lw l) (hc : l.counts.length < 1000) {s : List Int} {p read off : Int} (hp : 0 ≤ p ∧ p ≤ l.gives.length) (hr : 0 ≤ read ∧ read ≤ 400) (ho : 0 ≤ off) :
  (explM (addedL l p read off) s).isSome = true ↔ ∃ W, explM l s = some W ∧ ¬ (spanM W (l.gives.length + 1) p.toNat).low > susHi read off ∧ ¬ (spanM W (l.gives.length + 1) p.toNat).high < susLo read off := by
 rw [expl_iff (added_lw h hc hp hr ho)]
 have hb := sus_bd hr ho
 constructor
 ·rintro ⟨ht, f, hf⟩
  obtain ⟨h1, h2⟩ := more_fl.1 hf
  obtain ⟨W, hW⟩ := Option.isSome_iff_exists.1 ((expl_iff h s).2 ⟨ht, f, h1⟩)
  exact ⟨W, hW, (overlap_iff h hW (by omega) hb.2.1).2 ⟨f, h1, h2⟩⟩
 ·rintro ⟨W, hW, ho⟩
  obtain ⟨f, hf, h2⟩ := (overlap_iff h hW (by omega) hb.2.1).1 ho
  exact ⟨((expl_iff h s).1 (by rw [hW]; rfl)).1, f, more_fl.2 ⟨hf, h2⟩⟩
end Go.Av.Fx
end
section
namespace Go.Av.Fx
open Go Go.Av Go.Av.Tb Go.Proofs
theorem cnts_ones (l : List Cnt) : (cnts l).all AV.one = true := by
 rw [List.all_eq_true]
 intro x hx
 unfold cnts at hx
 obtain ⟨c, _, h⟩ := List.mem_flatMap.1 hx
 simp [cntC] at h
 rcases h with rfl | rfl | rfl <;> rfl
theorem app_nil23 {S : St} {cs : List Cnt} {t : Tail} (h0 : 0 < cs.length) (hl : cs.length ≤ 1000) : appendA T S 23 .nilS (.slice (cnts cs) cs.length t) = some (.tok none fun j => .slice (cnts cs) cs.length (.tok j)) := by
 have h1 : descOf T 23 = some (.slice 82) := rfl
 have h2 : T 82 = some ti82 := rfl
 have h3 : ti82.size = 3 := rfl
 have h4 : ti82.bytes = 24 := rfl
 have h5 : heldA S 3 (.slice (cnts cs) cs.length t) = some (cnts cs, cs.length) := by
  show (if (cnts cs).length = cs.length * 3 then some (cnts cs, cs.length) else none) = _
  rw [if_pos (by rw [cnts_len]; omega)]
 unfold appendA
 simp only [h1, h2, h3, h4, h5, cnts_ones, Bool.not_true, Bool.false_eq_true, if_false]
 rw [if_neg (by decide), if_neg (by omega), if_pos (by omega)]
theorem app_tok23 {S : St} {cs : List Cnt} {c : Cnt} {k : Nat} (hl : cs.length ≤ 1000) : appendA T S 23 (.slice (cnts cs) cs.length (.tok k)) (.slice [.int .i64 c.point, .int .i64 c.low, .int .i64 c.high] 1 .exact) = some (.tok (some k) fun j => .slice (cnts (cs ++ [c])) (cs.length + 1) (.tok j)) := by
 rw [app_gen (e := 82) (ei := ti82) (lx := [.int .i64 c.point, .int .i64 c.low, .int .i64 c.high]) (nx := 1) rfl rfl (by decide) rfl (by decide) rfl (by show (cs.length + 1) * 24 ≤ _; omega) (by omega) (by rw [cnts_len]; simp [ti82]; omega)]
 show some (Res.tok (some k) fun j => .slice (cnts cs ++ cnts [c]) (cs.length + 1) (.tok j)) = _
 rw [cnts_app]
theorem moreL_frz (H : List (Option Blk)) (l : LLine) (c : Cnt) (n : Nat) (hn : n = l.counts.length + 1) (t : Tail) : Frz H (.agg [sl l.gives, .int .i64 l.least, .int .i64 l.most, .int .i64 l.taps, .slice (cnts (l.counts ++ [c])) n t]) (lineA (moreL l c)) := by
 refine .agg _ _ rfl fun j x y hx hy => ?_
 have e : (l.counts ++ [c]).length = n := by rw [hn]; simp
 match j, hx, hy with
 | 0, hx, hy => simp at hx; cases hy; subst hx; exact .same _
 | 1, hx, hy => simp at hx; cases hy; subst hx; exact .same _
 | 2, hx, hy => simp at hx; cases hy; subst hx; exact .same _
 | 3, hx, hy => simp at hx; cases hy; subst hx; exact .same _
 | 4, hx, hy =>
  simp at hx; subst hx
  have : y = .slice (cnts (l.counts ++ [c])) (l.counts ++ [c]).length .unk := by cases hy; rfl
  rw [this, e]; exact .unk _ _ _
 | j + 5, hx, hy => simp at hx
theorem sr_pure' {K : AV → St → Prop} {h : Hold K} {v : AV} {S : St} (hk : K v S) : sr K h (some (.pure v)) S := by
 rw [sr_pure]; exact hk
theorem Added_pc (l : LLine) (hc : l.counts.length ≤ 1000) (p read off : Int) (hr : 0 ≤ read ∧ read ≤ 400) (ho : 0 ≤ off ∧ off ≤ 400) : PC Tryz.prog 42 [lineA l, .int .i64 p, .int .i64 read, .int .i64 off] (.pure (lineA (addedL l p read off))) := by
 refine PC.of_frz (AC.run (E_ok _) mix Tryz.func42 m42 rfl rfl rfl (Nat.le_of_ble_eq_true rfl) ?_) (by simp [bndL, AV.bnd]) (by simp [bndL, AV.bnd])
 have w1 : IntKind.i64.wrap (read - off) = read - off := wrap64 (by omega)
 have w2 : IntKind.i64.wrap (read + off) = read + off := wrap64 (by omega)
 unfold addedL
 simp only [go_sem, boxA, put_eq, builtinA, reduceEqDiff, Nat.reduceBEq, reduceAdd, reduceIte, reduceCtorEq, reduceLeDiff]
 rcases Nat.eq_zero_or_pos l.counts.length with h0 | h0
 ·have hn : l.counts = [] := List.length_eq_zero_iff.1 h0
  have e1 : ∀ S, appendA T S 23 .nilS (.slice (cnts l.counts) l.counts.length .unk) = some (.pure .nilS) := fun S => by rw [hn]; rfl
  have e2 : ∀ S (c : Cnt), appendA T S 23 .nilS (.slice [.int .i64 c.point, .int .i64 c.low, .int .i64 c.high] 1 .exact) = some (.tok none fun j => .slice [.int .i64 c.point, .int .i64 c.low, .int .i64 c.high] 1 (.tok j)) := fun S c => rfl
  have e2' := fun S => e2 S ⟨p, susLo read off, susHi read off⟩
  unfold susLo susHi at e2'
  simp only at e2'
  rw [e1]
  refine sr_pure' ?_
  simp only [go_sem, put_eq, builtinA, w1, w2, minsA, maxsA, e2', Tryz.f42, reduceEqDiff, Nat.reduceBEq, reduceAdd, reduceIte, reduceCtorEq, reduceLeDiff]
  refine ⟨_, rfl, ?_⟩
  have hh := fun H => moreL_frz H l ⟨p, susLo read off, susHi read off⟩ 1 (by rw [hn]; rfl) (.tok 0)
  rw [show l.counts ++ [⟨p, susLo read off, susHi read off⟩] = [⟨p, susLo read off, susHi read off⟩] by rw [hn]; rfl] at hh
  exact hh _
 ·have e2 : ∀ S k, appendA T S 23 (.slice (cnts l.counts) l.counts.length (.tok k)) (.slice [.int .i64 p, .int .i64 (susLo read off), .int .i64 (susHi read off)] 1 .exact) = some (.tok (some k) fun j => .slice (cnts (l.counts ++ [⟨p, susLo read off, susHi read off⟩])) (l.counts.length + 1) (.tok j)) := fun S k => app_tok23 (c := ⟨p, susLo read off, susHi read off⟩) hc
  unfold susLo susHi at e2
  rw [app_nil23 h0 hc]
  simp only [go_sem, put_eq, builtinA, w1, w2, minsA, maxsA, e2, Tryz.f42, reduceEqDiff, Nat.reduceBEq, reduceAdd, reduceIte, reduceCtorEq, reduceLeDiff]
  exact ⟨List.mem_cons_self, _, rfl, moreL_frz _ l _ _ rfl _⟩
end Go.Av.Fx
end
section
namespace Go.Av.Fx
open Go Go.Av Go.Av.Tb Go.Proofs
def cntNe (l : List Int) : Nat → Int
 | 0 => 0
 | k + 1 => if l.getD k 0 ≠ 1 then cntNe l k + 1 else cntNe l k
theorem cntNe_bd (l : List Int) : ∀ k : Nat, 0 ≤ cntNe l k ∧ cntNe l k ≤ k
 | 0 => by simp [cntNe]
 | k + 1 => by have := cntNe_bd l k; unfold cntNe; split <;> omega
def susR (l : LLine) : Int := cntNe (rKnown l) (rKnown l).length
def worstR (l : LLine) (p off : Int) : Nat → Int
 | 0 => -1
 | k + 1 => if possB (addedL l p k off) = true then (if susR (addedL l p k off) > worstR l p off k then susR (addedL l p k off) else worstR l p off k) else worstR l p off k
theorem susR_bd {l : LLine} : 0 ≤ susR l ∧ susR l ≤ l.gives.length := by
 have hl : (rKnown l).length = l.gives.length := by simp [rKnown]
 have := cntNe_bd (rKnown l) (rKnown l).length
 unfold susR; omega
end Go.Av.Fx
end
section
namespace Go.Av.Fx
open Go Go.Av Go.Av.Tb Go.Proofs
def nxt (c : Nat → Int) : Nat → Ch
 | 0 => ⟨0, c 0⟩
 | k + 1 => better (nxt c k) ⟨((k + 1 : Nat) : Int), c (k + 1)⟩
theorem best_nxt (c : Nat → Int) (n : Nat) : bestL ((List.range (n + 1)).map fun (p : Nat) => (⟨p, c p⟩ : Ch)) = nxt c n := by
 have hh : ((List.range (n + 1)).map fun (p : Nat) => (⟨p, c p⟩ : Ch)).headD ⟨0, 0⟩ = ⟨0, c 0⟩ := by
  rw [List.range_succ_eq_map]; rfl
 unfold bestL
 rw [hh]
 clear hh
 induction n with
 | zero =>
  show better ⟨0, c 0⟩ ⟨0, c 0⟩ = _
  unfold better; rw [if_neg (by show ¬ c 0 < c 0; omega)]; rfl
 | succ n ih =>
  rw [List.range_succ, List.map_append, List.foldl_append, ih]
  rfl
end Go.Av.Fx
end

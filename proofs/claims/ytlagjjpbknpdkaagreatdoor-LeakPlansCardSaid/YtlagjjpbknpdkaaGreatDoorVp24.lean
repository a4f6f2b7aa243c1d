/- Part 24 of the proof. -/
import Derived.Test.YtlagjjpbknpdkaaGreatDoorVp23
set_option linter.all false
set_option linter.unusedVariables false
set_option linter.unusedSimpArgs false
set_option linter.unusedSectionVars false
open Nat (reduceEqDiff reduceAdd reduceLeDiff)
section
namespace Go.Av.Fx
open Go Go.Av Go.Av.Tb Go.Proofs
@[go_sem] theorem bs93_b (n : Int) : buildSliceA T 93 1 [(0, .int .u8 n)] = some (.slice [.int .u8 n] 1 .exact) := rfl
theorem bstr (S : St) (n : Int) (t : Tail) : convMemA T S 93 9 (.slice [.int .u8 n] 1 t) = some (.pure (.str (strOfNums [n]))) := rfl
theorem itoa_dig {d : Nat} (h : d < 10) : strOfNums [48 + (d : Int)] = ⟨#[UInt8.ofNat (48 + d)]⟩ := by
 have : ∀ d : Nat, d < 10 → strOfNums [48 + (d : Int)] = ⟨#[UInt8.ofNat (48 + d)]⟩ := by
  intro d hd
  match d, hd with
  | 0, _ => rfl
  | 1, _ => rfl
  | 2, _ => rfl
  | 3, _ => rfl
  | 4, _ => rfl
  | 5, _ => rfl
  | 6, _ => rfl
  | 7, _ => rfl
  | 8, _ => rfl
  | 9, _ => rfl
 exact this d h
theorem ba_ext {a b : ByteArray} (h : a.data.toList = b.data.toList) : a = b := by
 cases a; cases b
 simp only [ByteArray.mk.injEq]
 exact Array.toList_inj.1 h
theorem app_list (a b : ByteArray) : (a ++ b).data.toList = a.data.toList ++ b.data.toList := by simp [ByteArray.data_append]
theorem itoaB_small {n : Int} (h0 : 0 ≤ n) (h : n < 10) : itoaB n = ⟨#[UInt8.ofNat (48 + n.toNat)]⟩ := by
 unfold itoaB Lib.itoa
 rw [if_neg (by omega), Lib.decDigits_one (by omega)]
theorem itoaB_negsmall {n : Int} (h0 : -10 < n) (h : n < 0) : itoaB n = ⟨#[45]⟩ ++ ⟨#[UInt8.ofNat (48 + (-n).toNat)]⟩ := by
 apply ba_ext
 rw [app_list]
 unfold itoaB Lib.itoa
 rw [if_pos h, Lib.decDigits_one (by omega), show n.natAbs = (-n).toNat by omega]; rfl
theorem itoaB_big {n : Int} (h : 10 ≤ n) : itoaB n = itoaB (n.tdiv 10) ++ ⟨#[UInt8.ofNat (48 + (n.tmod 10).toNat)]⟩ := by
 have d2 : n.tdiv 10 = n / 10 := Int.tdiv_eq_ediv_of_nonneg (by omega)
 have d4 : n.tmod 10 = n % 10 := Int.tmod_eq_emod_of_nonneg (by omega)
 apply ba_ext
 rw [app_list, d2, d4]
 unfold itoaB Lib.itoa
 rw [if_neg (by omega), if_neg (by omega), Lib.decDigits, dif_neg (by omega), show (n / 10).toNat = n.toNat / 10 by omega, show (n % 10).toNat = n.toNat % 10 by omega]
theorem itoaB_negbig {n : Int} (h : n ≤ -10) : itoaB n = itoaB (n.tdiv 10) ++ ⟨#[UInt8.ofNat (48 + (-(n.tmod 10)).toNat)]⟩ := by
 have e1 : n.tdiv 10 = -((-n) / 10) := by
  have := Int.neg_tdiv (-n) 10
  rw [Int.neg_neg] at this
  rw [this, Int.tdiv_eq_ediv_of_nonneg (by omega)]
 have e2 : n.tmod 10 = -((-n) % 10) := by
  have := Int.neg_tmod (-n) 10
  rw [Int.neg_neg] at this
  rw [this, Int.tmod_eq_emod_of_nonneg (by omega)]
 apply ba_ext
 rw [app_list, e1, e2, Int.neg_neg]
 unfold itoaB Lib.itoa
 rw [if_pos (by omega), if_pos (by omega), Lib.decDigits, dif_neg (by omega), show (-(-n / 10)).natAbs = n.natAbs / 10 by omega, show (-n % 10).toNat = n.natAbs % 10 by omega]
 simp
@[go_sem] theorem conv35 (n : Int) : convA T 3 5 (.int .i64 n) = some (.int .u8 (IntKind.u8.wrap n)) := rfl
@[go_sem] theorem conv939 (l : List AV) (n : Nat) (t : Tail) : convA T 93 9 (.slice l n t) = none := rfl
theorem u8w {n : Int} (h : 0 ≤ n ∧ n ≤ 255) : IntKind.u8.wrap n = n := by rw [IntKind.wrap_u8]; omega
theorem Decimal_pc : ∀ (k : Nat) (n : Int), n.natAbs ≤ k → i64 n → PC Tryz.prog 147 [.int .i64 n] (.pure (.str (itoaB n))) := by
 intro k
 induction k with
 | zero =>
  intro n hk h
  have e : n = 0 := by omega
  subst e
  refine PC.of_empty (AC.run (E_ok _) mix Tryz.func147 m147 rfl rfl rfl (Nat.le_of_ble_eq_true rfl) ?_) rfl rfl
  have g1 : ((0 : Int) > -10) := by decide
  have g2 : ¬ ((0 : Int) < 0) := by decide
  have g3 : ((0 : Int) < 10) := by decide
  have w1 : IntKind.i64.wrap 48 = 48 := by decide
  have w2 : IntKind.u8.wrap 48 = 48 := by decide
  have hs : strOfNums [48] = itoaB 0 := by
   rw [itoaB_small (by decide) (by decide)]; rfl
  simp only [go_sem, g1, g2, g3, decide_true, decide_false, w1, w2, bstr, hs, Tryz.f147, reduceEqDiff, Nat.reduceBEq, reduceAdd, reduceIte, reduceCtorEq, reduceLeDiff]
 | succ k ih =>
  intro n hk h
  refine PC.of_empty (AC.run (E_ok _) mix Tryz.func147 m147 rfl rfl rfl (Nat.le_of_ble_eq_true rfl) ?_) rfl rfl
  unfold i64 at h
  by_cases hn : n < 0
  ·by_cases g1 : n > -10
   ·obtain ⟨d, hd⟩ : ∃ d : Nat, n = -(d : Int) := ⟨(-n).toNat, by omega⟩
    have w1 : IntKind.i64.wrap (48 - n) = 48 + (d : Int) := by rw [wrap64 (by omega)]; omega
    have w2 : IntKind.u8.wrap (48 + (d : Int)) = 48 + (d : Int) := u8w (by omega)
    have hs : binA T .add 9 (.str ⟨#[45]⟩) (.str (strOfNums [48 + (d : Int)])) = some (.str (itoaB n)) := by
     rw [itoaB_negsmall g1 hn, itoa_dig (by omega), show (-n).toNat = d by omega]
     exact addS (by show 1 + 1 ≤ _; omega)
    simp only [go_sem, g1, hn, decide_true, w1, w2, bstr, hs, Tryz.f147, reduceEqDiff, Nat.reduceBEq, reduceAdd, reduceIte, reduceCtorEq, reduceLeDiff]
   ·have hb := itoaB_negbig (n := n) (by omega)
    have e1 : n.tdiv 10 = -((-n) / 10) := by
     have := Int.neg_tdiv (-n) 10
     rw [Int.neg_neg] at this
     rw [this, Int.tdiv_eq_ediv_of_nonneg (by omega)]
    have e2 : n.tmod 10 = -((-n) % 10) := by
     have := Int.neg_tmod (-n) 10
     rw [Int.neg_neg] at this
     rw [this, Int.tmod_eq_emod_of_nonneg (by omega)]
    obtain ⟨d, hd⟩ : ∃ d : Nat, -(n.tmod 10) = (d : Int) := ⟨(-(n.tmod 10)).toNat, by omega⟩
    have hd10 : d < 10 := by omega
    have q1 : intOp .quo .i64 n 10 = some (.int .i64 (n.tdiv 10)) := by
     show some (AV.int .i64 (IntKind.i64.wrap (n.tdiv 10))) = _
     rw [wrap64 (by omega)]
    have q2 : intOp .rem .i64 n 10 = some (.int .i64 (n.tmod 10)) := rfl
    have w1 : IntKind.i64.wrap (48 - n.tmod 10) = 48 + (d : Int) := by rw [wrap64 (by omega)]; omega
    have w2 : IntKind.u8.wrap (48 + (d : Int)) = 48 + (d : Int) := u8w (by omega)
    have hI : i64 (n.tdiv 10) := ⟨by omega, by omega⟩
    have hsz := itoaB_size hI
    have hs : binA T .add 9 (.str (itoaB (n.tdiv 10))) (.str (strOfNums [48 + (d : Int)])) = some (.str (itoaB n)) := by
     rw [hb, itoa_dig hd10, show (-(n.tmod 10)).toNat = d by omega]
     exact addS (by show _ + 1 ≤ _; omega)
    have hrec := ih (n.tdiv 10) (by omega) hI
    simp only [go_sem, g1, hn, decide_true, decide_false, q1, q2, reduceEqDiff, Nat.reduceBEq, reduceAdd, reduceIte, reduceCtorEq, reduceLeDiff]
    refine qp n147 hrec (SubL.refl _) ?_
    simp only [go_sem, q1, q2, w1, w2, bstr, hs, Tryz.f147, reduceEqDiff, Nat.reduceBEq, reduceAdd, reduceIte, reduceCtorEq, reduceLeDiff]
  ·have g1 : n > -10 := by omega
   by_cases g3 : n < 10
   ·obtain ⟨d, hd⟩ : ∃ d : Nat, n = (d : Int) := ⟨n.toNat, by omega⟩
    have w1 : IntKind.i64.wrap (48 + n) = 48 + (d : Int) := by rw [wrap64 (by omega)]; omega
    have w2 : IntKind.u8.wrap (48 + (d : Int)) = 48 + (d : Int) := u8w (by omega)
    have hs : strOfNums [48 + (d : Int)] = itoaB n := by
     rw [itoaB_small (by omega) g3, itoa_dig (by omega), show n.toNat = d by omega]
    simp only [go_sem, g1, hn, g3, decide_true, decide_false, w1, w2, bstr, hs, Tryz.f147, reduceEqDiff, Nat.reduceBEq, reduceAdd, reduceIte, reduceCtorEq, reduceLeDiff]
   ·have hb := itoaB_big (n := n) (by omega)
    have e1 : n.tdiv 10 = n / 10 := Int.tdiv_eq_ediv_of_nonneg (by omega)
    have e2 : n.tmod 10 = n % 10 := Int.tmod_eq_emod_of_nonneg (by omega)
    obtain ⟨d, hd⟩ : ∃ d : Nat, n.tmod 10 = (d : Int) := ⟨(n.tmod 10).toNat, by omega⟩
    have hd10 : d < 10 := by omega
    have q1 : intOp .quo .i64 n 10 = some (.int .i64 (n.tdiv 10)) := by
     show some (AV.int .i64 (IntKind.i64.wrap (n.tdiv 10))) = _
     rw [wrap64 (by omega)]
    have q2 : intOp .rem .i64 n 10 = some (.int .i64 (n.tmod 10)) := rfl
    have w1 : IntKind.i64.wrap (48 + n.tmod 10) = 48 + (d : Int) := by rw [wrap64 (by omega)]; omega
    have w2 : IntKind.u8.wrap (48 + (d : Int)) = 48 + (d : Int) := u8w (by omega)
    have hI : i64 (n.tdiv 10) := ⟨by omega, by omega⟩
    have hsz := itoaB_size hI
    have hs : binA T .add 9 (.str (itoaB (n.tdiv 10))) (.str (strOfNums [48 + (d : Int)])) = some (.str (itoaB n)) := by
     rw [hb, itoa_dig hd10, show (n.tmod 10).toNat = d by omega]
     exact addS (by show _ + 1 ≤ _; omega)
    have hrec := ih (n.tdiv 10) (by omega) hI
    simp only [go_sem, g1, hn, g3, decide_true, decide_false, q1, q2, reduceEqDiff, Nat.reduceBEq, reduceAdd, reduceIte, reduceCtorEq, reduceLeDiff]
    refine qp n147 hrec (SubL.refl _) ?_
    simp only [go_sem, q1, q2, w1, w2, bstr, hs, Tryz.f147, reduceEqDiff, Nat.reduceBEq, reduceAdd, reduceIte, reduceCtorEq, reduceLeDiff]
theorem rRow_pc (w : ByteArray) (hw : w.size ≤ 1000) (ns : List Int) (hn : ns.length ≤ 10) (h : ∀ n ∈ ns, i64 n) : PC Tryz.prog 111 [.str w, sl ns] (.pure (.str (rowN w ns))) := by
 refine PC.of_empty (AC.run (E_ok _) mix Tryz.func111 m111 rfl rfl rfl (Nat.le_of_ble_eq_true rfl) ?_) (by simp [bndL, AV.bnd]) rfl
 simp only [go_sem, reduceEqDiff, Nat.reduceBEq, reduceAdd, reduceIte, reduceCtorEq, reduceLeDiff]
 refine wc_for ns.length (fun k => [(0, .str (rowN w (ns.take k))), (1, sl ns), (5, .int .i64 k)]) (fun _ => St.empty) rfl rfl ?_
 intro k hk I hI
 by_cases h' : k < ns.length
 ·have h1 : (k : Int) < ns.length := by omega
  have h2 : 0 ≤ (k : Int) ∧ (k : Int) < ns.length := by omega
  have h3 : ns[k]? = some ns[k] := List.getElem?_eq_getElem h'
  have h4 : IntKind.i64.wrap ((k : Int) + 1) = (k + 1 : Nat) := wrap64 (by omega)
  have hm := h _ (List.getElem_mem h')
  have h5 := itoaB_size hm
  have h6 := rowN_size (ns.take k) w fun m hm => h m (List.mem_of_mem_take hm)
  have h8 : (ns.take k).length ≤ 10 := by simp; omega
  have a1 : binA T .add 9 (.str (rowN w (ns.take k))) (.str ⟨#[32]⟩) = some (.str (rowN w (ns.take k) ++ sp)) := addS (by show _ + 1 ≤ _; omega)
  have a2 : binA T .add 9 (.str (rowN w (ns.take k) ++ sp)) (.str (itoaB ns[k])) = some (.str (rowN w (ns.take k) ++ sp ++ itoaB ns[k])) := addS (by rw [ByteArray.size_append]; show _ + 1 + _ ≤ _; omega)
  simp only [go_sem, l111_0, builtinA, h1, decide_true, h2, ints_get, h3, a1, reduceEqDiff, Nat.reduceBEq, reduceAdd, reduceIte, reduceCtorEq, reduceLeDiff]
  refine cp n147 (Decimal_pc _ _ (Nat.le_refl _) hm) (SubL.refl _) ?_
  simp only [go_sem, a2, h4, reduceEqDiff, Nat.reduceBEq, reduceAdd, reduceIte, reduceCtorEq, reduceLeDiff]
  have := hI h'
  rw [rowN_take _ _ _ h', ← ByteArray.append_assoc] at this
  exact this
 ·have h1 : ¬ (k : Int) < ns.length := by omega
  have e : k = ns.length := by omega
  subst e
  simp only [go_sem, l111_0, builtinA, h1, decide_false, List.take_length, Tryz.f111, reduceEqDiff, Nat.reduceBEq, reduceAdd, reduceIte, reduceCtorEq, reduceLeDiff]
def catB (R : List ByteArray) : Nat → ByteArray
 | 0 => ByteArray.empty
 | i + 1 => catB R i ++ R.getD i ByteArray.empty ++ lf
theorem catB_size {R : List ByteArray} (h : ∀ r ∈ R, r.size ≤ 100) : ∀ i, (catB R i).size ≤ 101 * i
 | 0 => Nat.le_refl _
 | i + 1 => by
  have ih := catB_size h i
  have hs : (R.getD i ByteArray.empty).size ≤ 100 := by
   rw [List.getD_eq_getElem?_getD]
   cases e : R[i]? with
   | none => exact Nat.zero_le _
   | some r => exact h r (List.mem_of_getElem? e)
  show (catB R i ++ _ ++ lf).size ≤ _
  rw [ByteArray.size_append, ByteArray.size_append]
  show _ + _ + 1 ≤ _; omega
def sealB (R : List ByteArray) (m : Int) : ByteArray := catB R R.length ++ endB ((ck R R.length).tmod m) ++ lf
theorem rSealed_pc (R : List ByteArray) (m : Int) (hm : 0 < m ∧ m ≤ 1000) (hR : ∀ r ∈ R, r.size ≤ 100) (hN : R.length ≤ 2500) (t : Tail) : PC Tryz.prog 112 [.slice (strs R) R.length t, .int .i64 m] (.pure (.str (sealB R m))) := by
 have key : PC Tryz.prog 112 [.slice (strs R) R.length .unk, .int .i64 m] (.pure (.str (sealB R m))) := by
  refine PC.of_empty (AC.run (E_ok _) mix Tryz.func112 m112 rfl rfl rfl (Nat.le_of_ble_eq_true rfl) ?_) (by simp [bndL, AV.bnd]) rfl
  simp only [go_sem, reduceEqDiff, Nat.reduceBEq, reduceAdd, reduceIte, reduceCtorEq, reduceLeDiff]
  refine wc_for R.length (fun i => [(0, .slice (strs R) R.length .unk), (1, .int .i64 m), (5, .str (catB R i)), (6, .int .i64 (ck R i)), (7, .int .i64 i)]) (fun _ => St.empty) rfl rfl ?_
  intro i hi I hI
  by_cases h' : i < R.length
  ·have h1 : (i : Int) < R.length := by omega
   have h2 : 0 ≤ (i : Int) ∧ (i : Int) < R.length := by omega
   have h3 : R[i]? = some R[i] := List.getElem?_eq_getElem h'
   have h4 : IntKind.i64.wrap ((i : Int) + 1) = (i + 1 : Nat) := wrap64 (by omega)
   have hr := hR _ (List.getElem_mem h')
   simp only [go_sem, l112_0, builtinA, h1, decide_true, reduceEqDiff, Nat.reduceBEq, reduceAdd, reduceIte, reduceCtorEq, reduceLeDiff]
   have hck : ck R (i + 1) = ck R i + rs R[i] R[i].size * (i + 1 : Nat) := by
    show ck R i + rs (R.getD i _) (R.getD i _).size * _ = _
    rw [List.getD_eq_getElem?_getD, h3]; rfl
   have hcat : catB R (i + 1) = catB R i ++ R[i] ++ lf := by
    show catB R i ++ R.getD i _ ++ lf = _
    rw [List.getD_eq_getElem?_getD, h3]; rfl
   have hb := ck_bd hR i (by omega)
   have hcs := catB_size hR i
   have hI' := hI h'
   rw [hck, hcat] at hI'
   generalize R[i] = r at *
   refine wc_for r.size (fun k => [(0, .slice (strs R) R.length .unk), (1, .int .i64 m), (5, .str (catB R i)), (6, .int .i64 (ck R i + rs r k * (i + 1 : Nat))), (7, .int .i64 i), (8, .int .i64 k)]) (fun _ => St.empty) (by simp only [rs, Int.zero_mul, Int.add_zero]; rfl) rfl ?_
   intro k hk I2 hI2
   by_cases h'' : k < r.size
   ·have g1 : (k : Int) < r.size := by omega
    have g4 : IntKind.i64.wrap ((k : Int) + 1) = (k + 1 : Nat) := wrap64 (by omega)
    have hbt : r[k]? = some r[k] := by simp [h'']
    have hB : r[k].toNat ≤ 255 := Nat.le_of_lt_succ (UInt8.toNat_lt _)
    have hrs : rs r (k + 1) = rs r k + (r[k].toNat : Int) * (k + 1 : Nat) := by
     show rs r k + (((r[k]?).getD 0).toNat : Int) * _ = _
     rw [hbt]; rfl
    have hb2 := rs_bd100 r (k := k) (by omega)
    have p1 : 0 ≤ (r[k].toNat : Int) * (k + 1 : Nat) := Int.mul_nonneg (by omega) (by omega)
    have p2 : (r[k].toNat : Int) * (k + 1 : Nat) ≤ 255 * (100 : Int) := Int.mul_le_mul (by omega) (by omega) (by omega) (by omega)
    have p3 : 0 ≤ (r[k].toNat : Int) * (k + 1 : Nat) * (i + 1 : Nat) := Int.mul_nonneg p1 (by omega)
    have p4 : (r[k].toNat : Int) * (k + 1 : Nat) * (i + 1 : Nat) ≤ 25500 * (3000 : Int) := Int.mul_le_mul (by omega) (by omega) (by omega) (by omega)
    have p5 : 0 ≤ rs r k * (i + 1 : Nat) := Int.mul_nonneg hb2.1 (by omega)
    have p6 : rs r k * (i + 1 : Nat) ≤ 2550000 * (3000 : Int) := Int.mul_le_mul hb2.2 (by omega) (by omega) (by omega)
    have w1 : IntKind.i64.wrap (r[k].toNat : Int) = r[k].toNat := wrap64 (by omega)
    have w2 : IntKind.i64.wrap ((r[k].toNat : Int) * (k + 1 : Nat)) = (r[k].toNat : Int) * (k + 1 : Nat) := wrap64 (by omega)
    have w3 : IntKind.i64.wrap ((r[k].toNat : Int) * (k + 1 : Nat) * (i + 1 : Nat)) = (r[k].toNat : Int) * (k + 1 : Nat) * (i + 1 : Nat) := wrap64 (by omega)
    have w4 : IntKind.i64.wrap (ck R i + rs r k * (i + 1 : Nat) + (r[k].toNat : Int) * (k + 1 : Nat) * (i + 1 : Nat)) = ck R i + rs r k * (i + 1 : Nat) + (r[k].toNat : Int) * (k + 1 : Nat) * (i + 1 : Nat) := wrap64 (by omega)
    have hz : 0 ≤ (k : Int) := by omega
    simp only [go_sem, l112_1, builtinA, h2, strs_get, h3, Option.map_some, g1, decide_true, hz, hbt, convA, w1, w2, w3, w4, g4, h4, reduceEqDiff, Nat.reduceBEq, reduceAdd, reduceIte, reduceCtorEq, reduceLeDiff]
    have := hI2 h''
    rw [hrs, Int.add_mul, ← Int.add_assoc] at this
    exact this
   have g1 : ¬ (k : Int) < r.size := by omega
   have e : k = r.size := by omega
   subst e
   clear hI2 hk h''
   have a1 : binA T .add 9 (.str (catB R i)) (.str r) = some (.str (catB R i ++ r)) := addS (by omega)
   have a2 : binA T .add 9 (.str (catB R i ++ r)) (.str ⟨#[10]⟩) = some (.str (catB R i ++ r ++ lf)) := addS (by rw [ByteArray.size_append]; show _ + _ + 1 ≤ _; omega)
   simp only [go_sem, l112_1, builtinA, h2, strs_get, h3, Option.map_some, g1, decide_false, a1, a2, h4, reduceEqDiff, Nat.reduceBEq, reduceAdd, reduceIte, reduceCtorEq, reduceLeDiff]
   exact hI'
  have h1 : ¬ (i : Int) < R.length := by omega
  have e : i = R.length := by omega
  subst e
  clear hI hi h'
  have hb := ck_bd hR R.length (by omega)
  have hcs := catB_size hR R.length
  have hfin : sealB R m = catB R R.length ++ endB ((ck R R.length).tmod m) ++ lf := rfl
  rw [hfin]
  generalize ck R R.length = C at *
  generalize catB R R.length = Z at *
  have e1 : intOp .rem .i64 C m = some (.int .i64 (C.tmod m)) := by
   show (if m = 0 then none else some (AV.int .i64 (C.tmod m))) = _
   rw [if_neg (by omega)]
  have hc0 : 0 ≤ C.tmod m := Int.tmod_nonneg _ hb.1
  have hc1 : C.tmod m < m := Int.tmod_lt_of_pos _ hm.1
  simp only [go_sem, l112_0, builtinA, h1, decide_false, e1, reduceEqDiff, Nat.reduceBEq, reduceAdd, reduceIte, reduceCtorEq, reduceLeDiff]
  generalize C.tmod m = c at *
  have d1 : c.tdiv 100 = c / 100 := Int.tdiv_eq_ediv_of_nonneg hc0
  have d2 : c.tdiv 10 = c / 10 := Int.tdiv_eq_ediv_of_nonneg hc0
  have d3 : (c.tdiv 10).tmod 10 = c / 10 % 10 := by rw [d2]; exact Int.tmod_eq_emod_of_nonneg (by omega)
  have d4 : c.tmod 10 = c % 10 := Int.tmod_eq_emod_of_nonneg hc0
  have e2 : intOp .quo .i64 c 100 = some (.int .i64 (c.tdiv 100)) := by
   show some (AV.int .i64 (IntKind.i64.wrap (c.tdiv 100))) = _
   rw [wrap64 (by omega)]
  have e3 : intOp .quo .i64 c 10 = some (.int .i64 (c.tdiv 10)) := by
   show some (AV.int .i64 (IntKind.i64.wrap (c.tdiv 10))) = _
   rw [wrap64 (by omega)]
  have e4 : intOp .rem .i64 (c.tdiv 10) 10 = some (.int .i64 ((c.tdiv 10).tmod 10)) := rfl
  have e5 : intOp .rem .i64 c 10 = some (.int .i64 (c.tmod 10)) := rfl
  have i1 : i64 (c.tdiv 100) := ⟨by omega, by omega⟩
  have i2 : i64 ((c.tdiv 10).tmod 10) := ⟨by omega, by omega⟩
  have i3 : i64 (c.tmod 10) := ⟨by omega, by omega⟩
  have z1 := itoaB_size i1
  have z2 := itoaB_size i2
  have z3 := itoaB_size i3
  have a1 : binA T .add 9 (.str Z) (.str ⟨#[101, 110, 100, 32]⟩) = some (.str (Z ++ endW)) := addS (by show _ + 4 ≤ _; omega)
  have s1 : (Z ++ endW).size ≤ 101 * R.length + 4 := by rw [ByteArray.size_append]; show _ + 4 ≤ _; omega
  have a2 : binA T .add 9 (.str (Z ++ endW)) (.str (itoaB (c.tdiv 100))) = some (.str (Z ++ endW ++ itoaB (c.tdiv 100))) := addS (by omega)
  have s2 : (Z ++ endW ++ itoaB (c.tdiv 100)).size ≤ 101 * R.length + 25 := by rw [ByteArray.size_append]; omega
  have a3 := addS (a := Z ++ endW ++ itoaB (c.tdiv 100)) (b := itoaB ((c.tdiv 10).tmod 10)) (by omega)
  have s3 : (Z ++ endW ++ itoaB (c.tdiv 100) ++ itoaB ((c.tdiv 10).tmod 10)).size ≤ 101 * R.length + 46 := by rw [ByteArray.size_append]; omega
  have a4 := addS (a := Z ++ endW ++ itoaB (c.tdiv 100) ++ itoaB ((c.tdiv 10).tmod 10)) (b := itoaB (c.tmod 10)) (by omega)
  have s4 : (Z ++ endW ++ itoaB (c.tdiv 100) ++ itoaB ((c.tdiv 10).tmod 10) ++ itoaB (c.tmod 10)).size ≤ 101 * R.length + 67 := by rw [ByteArray.size_append]; omega
  have a5 : binA T .add 9 (.str (Z ++ endW ++ itoaB (c.tdiv 100) ++ itoaB ((c.tdiv 10).tmod 10) ++ itoaB (c.tmod 10))) (.str ⟨#[10]⟩) = some (.str (Z ++ endB c ++ lf)) := by
   have : Z ++ endB c ++ lf = Z ++ endW ++ itoaB (c.tdiv 100) ++ itoaB ((c.tdiv 10).tmod 10) ++ itoaB (c.tmod 10) ++ lf := by
    unfold endB
    simp only [ByteArray.append_assoc]
   rw [this]
   exact addS (by show _ + 1 ≤ _; omega)
  simp only [go_sem, a1, e2, reduceEqDiff, Nat.reduceBEq, reduceAdd, reduceIte, reduceCtorEq, reduceLeDiff]
  refine cp n147 (Decimal_pc _ _ (Nat.le_refl _) i1) (SubL.refl _) ?_
  simp only [go_sem, a2, e3, e4, reduceEqDiff, Nat.reduceBEq, reduceAdd, reduceIte, reduceCtorEq, reduceLeDiff]
  refine cp n147 (Decimal_pc _ _ (Nat.le_refl _) i2) (SubL.refl _) ?_
  simp only [go_sem, a3, e5, reduceEqDiff, Nat.reduceBEq, reduceAdd, reduceIte, reduceCtorEq, reduceLeDiff]
  refine cp n147 (Decimal_pc _ _ (Nat.le_refl _) i3) (SubL.refl _) ?_
  simp only [go_sem, a4, a5, Tryz.f112, reduceEqDiff, Nat.reduceBEq, reduceAdd, reduceIte, reduceCtorEq, reduceLeDiff]
 exact fun c S w vs h1 h2 => key c S w vs h1 (SubL.cons (Sub.unk _ _ _) (SubL.refl _) c vs h2)
end Go.Av.Fx
end
section
namespace Go.Av.Fx
open Go Go.Av Go.Av.Tb Go.Proofs
theorem join_snoc (sep x : List UInt8) : ∀ (R : List (List UInt8)) (a : List UInt8), a ++ Lib.joinTail sep (R ++ [x]) = ((a :: R).map (· ++ sep)).flatten ++ x
 | [], a => by simp [Lib.joinTail]
 | b :: R, a => by
  have ih := join_snoc sep x R b
  have e : Lib.joinTail sep (b :: R ++ [x]) = sep ++ (b ++ Lib.joinTail sep (R ++ [x])) := by simp [Lib.joinTail]
  rw [e, ih]
  simp
theorem catB_list (R : List ByteArray) : ∀ k, k ≤ R.length → (catB R k).data.toList = ((R.take k).map fun r => r.data.toList ++ lf.data.toList).flatten
 | 0, _ => rfl
 | k + 1, h => by
  have ih := catB_list R k (by omega)
  have h' : k < R.length := by omega
  rw [List.take_succ_eq_append_getElem h', List.map_append, List.flatten_append, ← ih]
  show (catB R k ++ R.getD k ByteArray.empty ++ lf).data.toList = _
  rw [app_list, app_list, getD_at _ h']
  simp
theorem join_cat (R : List ByteArray) (x : ByteArray) : joinB (R ++ [x]) lf ++ lf = catB R R.length ++ x ++ lf := by
 apply ba_ext
 rw [app_list, app_list, app_list, catB_list R R.length (Nat.le_refl _), List.take_length]
 congr 1
 unfold joinB
 cases R with
 | nil => simp [Lib.join_one]
 | cons a R =>
  rw [List.cons_append, List.map_cons, Lib.join_cons, List.map_append]
  have := join_snoc lf.data.toList x.data.toList (R.map (·.data.toList)) a.data.toList
  simp only [List.map_cons, List.map_nil, List.map_map] at this ⊢
  exact this
theorem seal_text (l : LLine) : sealB (rowsL l) 157 = textB l := by
 unfold textB
 rw [join_cat]; rfl
theorem rPrint_pc (l : LLine) (h : Plain l) : PC Tryz.prog 62 [lineA l] (.pure (.str (textB l))) := by
 have hG := h.gives
 have hC := h.counts
 rw [← seal_text]
 refine PC.of_empty (AC.run (E_ok _) mix Tryz.func62 m62 rfl rfl rfl (Nat.le_of_ble_eq_true rfl) ?_) (by simp [bndL, AV.bnd]) rfl
 simp only [go_sem, boxA, reduceEqDiff, Nat.reduceBEq, reduceAdd, reduceIte, reduceCtorEq, reduceLeDiff]
 refine cp n111 (rRow_pc (wordB 0) (by decide) [l.least, l.most, l.taps] (Nat.le_of_ble_eq_true rfl) h.head) (SubL.cons (Sub.refl _) (SubL.cons (Sub.unk _ _ _) (SubL.refl _))) ?_
 simp only [go_sem, builtinA, reduceEqDiff, Nat.reduceBEq, reduceAdd, reduceIte, reduceCtorEq, reduceLeDiff]
 refine wc_for l.gives.length (fun k => [(1, .ref 0 0), (3, .slice (strs (headR l :: gsR l k)) (headR l :: gsR l k).length (tailN k)), (4, .int .i64 k)]) (fun k => ⟨[some (.cells (lineC l))], k, toksN k⟩) rfl rfl ?_
 intro k hk I hI
 have eg := gsR_len l k hk
 by_cases h' : k < l.gives.length
 ·have h1 : (k : Int) < l.gives.length := by omega
  have h2 : 0 ≤ (k : Int) ∧ (k : Int) < l.gives.length := by omega
  have h3 : l.gives[k]? = some l.gives[k] := List.getElem?_eq_getElem h'
  have h4 : IntKind.i64.wrap ((k : Int) + 1) = (k + 1 : Nat) := wrap64 (by omega)
  simp only [go_sem, l62_0, builtinA, h1, decide_true, h2, ints_get, h3, reduceEqDiff, Nat.reduceBEq, reduceAdd, reduceIte, reduceCtorEq, reduceLeDiff]
  refine cp n111 (rRow_pc (wordB 1) (by decide) [l.gives[k]] (Nat.le_of_ble_eq_true rfl) (by intro n hn; simp at hn; subst hn; exact h.give _ (List.getElem_mem h'))) (SubL.cons (Sub.refl _) (SubL.cons (Sub.unk _ _ _) (SubL.refl _))) ?_
  simp only [go_sem, builtinA, reduceEqDiff, Nat.reduceBEq, reduceAdd, reduceIte, reduceCtorEq, reduceLeDiff]
  refine sr_app141 (l := headR l :: gsR l k) _ rfl (by simp; omega) ?_
  simp only [go_sem, builtinA, h4, reduceEqDiff, Nat.reduceBEq, reduceAdd, reduceIte, reduceCtorEq, reduceLeDiff]
  have := hI h'
  rw [gsR_succ l k h'] at this
  simp only [List.length_cons, List.length_append, List.length_nil] at this
  exact this
 have h1 : ¬ (k : Int) < l.gives.length := by omega
 have e : k = l.gives.length := by omega
 subst e
 clear hI hk h'
 simp only [go_sem, l62_0, builtinA, h1, decide_false, reduceEqDiff, Nat.reduceBEq, reduceAdd, reduceIte, reduceCtorEq, reduceLeDiff]
 rw [eg]
 refine wc_forG l.counts.length (fun k => [(1, .ref 0 0), (3, .slice (strs ((headR l :: gsR l l.gives.length) ++ csR l k)) (l.gives.length + 1 + k) (tailN (l.gives.length + k))), (5, .int .i64 k)]) (fun k => ⟨[some (.cells (lineC l))], l.gives.length + k, toksN (l.gives.length + k)⟩) (by simp [csR]) rfl (fun k hk => ?_) ?_
 ·refine ⟨Nat.zero_le _, Nat.zero_le _, by cases h : l.gives.length + k <;> simp [bndTS, AV.bnd, tailN], fun i B hB => ?_, fun t ht => toksN_lt ht⟩
  cases i with
  | zero => simp at hB; subst hB; simp [Blk.bnd, bndL, AV.bnd]
  | succ i => simp at hB
 intro k hk I hI
 have ec := csR_len l k hk
 by_cases h' : k < l.counts.length
 ·have h1 : (k : Int) < l.counts.length := by omega
  have h2 : 0 ≤ (k : Int) ∧ (k : Int) < l.counts.length := by omega
  have h3 : k * 3 + 3 ≤ (cnts l.counts).length := by rw [cnts_len]; omega
  have h5 := cnts_at l.counts k h'
  have h4 : IntKind.i64.wrap ((k : Int) + 1) = (k + 1 : Nat) := wrap64 (by omega)
  have hm := List.getElem_mem h'
  simp only [go_sem, l62_1, builtinA, h1, decide_true, h2, h3, h5, reduceEqDiff, Nat.reduceBEq, reduceAdd, reduceIte, reduceCtorEq, reduceLeDiff]
  refine cp n111 (rRow_pc (wordB 2) (by decide) [l.counts[k].point, l.counts[k].low, l.counts[k].high] (Nat.le_of_ble_eq_true rfl) (h.count _ hm)) (SubL.cons (Sub.refl _) (SubL.cons (Sub.unk _ _ _) (SubL.refl _))) ?_
  simp only [go_sem, builtinA, reduceEqDiff, Nat.reduceBEq, reduceAdd, reduceIte, reduceCtorEq, reduceLeDiff]
  refine sr_app141 (k := l.gives.length + k) (l := (headR l :: gsR l l.gives.length) ++ csR l k) _ (by simp [eg, ec]; omega) (by omega) ?_
  simp only [go_sem, builtinA, h4, reduceEqDiff, Nat.reduceBEq, reduceAdd, reduceIte, reduceCtorEq, reduceLeDiff]
  have := hI h' [some (.cells (cntC l.counts[k]))]
  rw [csR_succ l k h'] at this
  simp only [← Nat.add_assoc, List.append_assoc, List.cons_append, List.nil_append] at this
  exact this
 have h1 : ¬ (k : Int) < l.counts.length := by omega
 have e : k = l.counts.length := by omega
 subst e
 clear hI hk h'
 rw [← rowsL_eq, show l.gives.length + 1 + l.counts.length = (rowsL l).length by rw [rowsL_len]; omega]
 simp only [go_sem, l62_1, builtinA, h1, decide_false, reduceEqDiff, Nat.reduceBEq, reduceAdd, reduceIte, reduceCtorEq, reduceLeDiff]
 refine cp n112 (rSealed_pc (rowsL l) 157 (by decide) (rowsL_size h) (by rw [rowsL_len]; omega) _) (SubL.refl _) ?_
 simp only [go_sem, Tryz.f62, reduceEqDiff, Nat.reduceBEq, reduceAdd, reduceIte, reduceCtorEq, reduceLeDiff]
def lineM : LLine := ⟨[10, 0, 20], 5, 15, 1, [⟨0, 100, 104⟩, ⟨3, 58, 62⟩]⟩
def lineN : LLine := ⟨[10, 0, 20], 5, 15, 1, [⟨0, 100, 104⟩, ⟨3, 58, 62⟩, ⟨1, 97, 100⟩]⟩
theorem M_key : PC Tryz.prog 74 [] (.pure (.agg [.slice (ints [10, 0, 20]) 3 .exact, .int .i64 5, .int .i64 15, .int .i64 1, .slice (cnts [⟨0, 100, 104⟩, ⟨3, 58, 62⟩]) 2 .exact])) := by
 refine PC.of_empty (AC.run (E_ok _) mix Tryz.func74 m74 rfl rfl rfl (Nat.le_of_ble_eq_true rfl) ?_) rfl rfl
 have e1 : buildSliceA T 23 2 [(0, .agg [.int .i64 0, .int .i64 100, .int .i64 104]), (1, .agg [.int .i64 3, .int .i64 58, .int .i64 62])] = some (.slice (cnts [⟨0, 100, 104⟩, ⟨3, 58, 62⟩]) 2 .exact) := rfl
 simp only [go_sem, e1, Tryz.f74, reduceEqDiff, Nat.reduceBEq, reduceAdd, reduceIte, reduceCtorEq, reduceLeDiff]
 rfl
theorem M_pc : PC Tryz.prog 74 [] (.pure (lineA lineM)) := by
 intro c S w vs h1 h2
 refine (M_key c S w vs h1 h2).mono fun e w' ⟨x, he, hp⟩ => ⟨x, he, ?_⟩
 obtain ⟨c', p1, p2, p3, p4, p5⟩ := hp
 exact ⟨c', p1, p2, p3, p4, Sub.agg (SubL.cons (Sub.unk _ _ _) (SubL.cons (Sub.refl _) (SubL.cons (Sub.refl _) (SubL.cons (Sub.refl _) (SubL.cons (Sub.unk _ _ _) (SubL.refl _)))))) c' x p5⟩
theorem N_pc : PC Tryz.prog 73 [] (.pure (lineA lineN)) := by
 refine PC.of_frz (AC.run (E_ok _) mix Tryz.func73 m73 rfl rfl rfl (Nat.le_of_ble_eq_true rfl) ?_) rfl (by simp [bndL, AV.bnd])
 simp only [go_sem, reduceEqDiff, Nat.reduceBEq, reduceAdd, reduceIte, reduceCtorEq, reduceLeDiff]
 refine cp n74 M_key (SubL.refl _) ?_
 have ha : ∀ S, appendA T S 23 (.slice (cnts [⟨0, 100, 104⟩, ⟨3, 58, 62⟩]) 2 .exact) (.slice [.int .i64 1, .int .i64 97, .int .i64 100] 1 .exact) = some (.tok none (fun j => .slice (cnts lineN.counts) 3 (.tok j))) := fun S => rfl
 simp only [go_sem, put_eq, builtinA, ha, Tryz.f73, reduceEqDiff, Nat.reduceBEq, reduceAdd, reduceIte, reduceCtorEq, reduceLeDiff]
 refine ⟨_, rfl, .agg _ _ rfl fun j x y hx hy => ?_⟩
 match j, hx, hy with
 | 0, hx, hy => simp at hx hy; subst hx; subst hy; exact .unk _ _ _
 | 1, hx, hy => simp at hx hy; subst hx; subst hy; exact .same _
 | 2, hx, hy => simp at hx hy; subst hx; subst hy; exact .same _
 | 3, hx, hy => simp at hx hy; subst hx; subst hy; exact .same _
 | 4, hx, hy => simp at hx hy; subst hx; subst hy; exact .unk _ _ _
 | j + 5, hx, hy => simp at hx
end Go.Av.Fx
end

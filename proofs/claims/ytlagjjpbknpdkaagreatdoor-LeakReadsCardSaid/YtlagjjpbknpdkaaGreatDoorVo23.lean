/- Part 23 of the proof. -/
import Derived.Test.YtlagjjpbknpdkaaGreatDoorVo22
set_option linter.all false
set_option linter.unusedVariables false
set_option linter.unusedSimpArgs false
set_option linter.unusedSectionVars false
open Nat (reduceEqDiff reduceAdd reduceLeDiff)
section
namespace Go.Av.Fx
open Go Go.Av Go.Proofs
def negW (w : ByteArray) : Bool := decide (0 < w.size) && decide ((w.get! 0).toNat = 45)
def bodyW (w : ByteArray) : ByteArray := if negW w = true then w.extract 1 w.size else w
def valS (w : ByteArray) : Int := if negW w = true then -valW (bodyW w) else valW (bodyW w)
def rOk (w : ByteArray) : Bool := decide ((bodyW w).size ≠ 0) && decide ((bodyW w).size ≤ 3) && digs (bodyW w) (bodyW w).size && decide (itoaB (valS w) = w)
def rNum (w : ByteArray) : Option Int := if rOk w = true then some (valS w) else none
def rNums : List ByteArray → Option (List Int)
 | [] => some []
 | w :: ws => (rNum w).bind fun n => (rNums ws).map (n :: ·)
def putR (l : LLine) (w : ByteArray) (ns : List Int) : LLine :=
 if w = wordB 0 ∧ ns.length = 3 then { l with least := ns.getD 0 0, most := ns.getD 1 0, taps := ns.getD 2 0 }
 else if w = wordB 1 ∧ ns.length = 1 then { l with gives := l.gives ++ [ns.getD 0 0] }
 else if w = wordB 2 ∧ ns.length = 3 then { l with counts := l.counts ++ [⟨ns.getD 0 0, ns.getD 1 0, ns.getD 2 0⟩] }
 else l
def rstep (l : LLine) (r : ByteArray) : Option LLine :=
 (rNums (splitL r 32).tail).bind fun ns => if (ns.all fun n => decide (0 ≤ n)) = true then some (putR l ((splitL r 32).headD ByteArray.empty) ns) else none
def rfold (l : LLine) : List ByteArray → Option LLine
 | [] => some l
 | r :: rs => (rstep l r).bind fun l' => rfold l' rs
def rreadB (s : ByteArray) : Option LLine :=
 (rfold ⟨[], 0, 0, 0, []⟩ ((splitL s 10).take ((splitL s 10).length - 2))).bind fun l => if textB l = s then some l else none
theorem rNum_bd {w : ByteArray} {n : Int} (h : rNum w = some n) : -999 ≤ n ∧ n ≤ 999 := by
 unfold rNum at h
 split at h
 ·rename_i hh
  cases h
  unfold rOk at hh
  simp only [Bool.and_eq_true, decide_eq_true_eq] at hh
  have hb : 0 ≤ valW (bodyW w) ∧ valW (bodyW w) ≤ 999 := decP_bd hh.1.2 hh.1.1.2
  unfold valS
  split <;> omega
 ·cases h
theorem rNum_ok {x : ByteArray} (h : okW x = true) : rNum x = some (valW x) := by
 unfold okW at h
 simp only [Bool.and_eq_true, decide_eq_true_eq] at h
 obtain ⟨⟨⟨h1, h2⟩, h3⟩, h4⟩ := h
 have hd : isD (x.get! 0) = true := by
  have := h2
  unfold digs at this
  rw [List.all_eq_true] at this
  exact this 0 (List.mem_range.2 (by omega))
 have hn : negW x = false := by
  unfold negW
  unfold isD at hd
  simp only [Bool.and_eq_true, decide_eq_true_eq] at hd
  rw [Bool.and_eq_false_iff]
  exact .inr (decide_eq_false (by omega))
 have hb : bodyW x = x := by unfold bodyW; rw [hn]; rfl
 have hv : valS x = valW x := by unfold valS; rw [hn, hb]; rfl
 unfold rNum rOk
 rw [hb, hv, decide_eq_true h3, decide_eq_true h1, h2, decide_eq_true h4]
 rfl
theorem rNums_bd : ∀ {ws : List ByteArray} {ns : List Int}, rNums ws = some ns → ∀ n ∈ ns, -999 ≤ n ∧ n ≤ 999
 | [], ns, h, n, hn => by cases h; cases hn
 | w :: ws, ns, h, n, hn => by
  unfold rNums at h
  cases h1 : rNum w with
  | none => rw [h1] at h; cases h
  | some a =>
   cases h2 : rNums ws with
   | none => rw [h1, h2] at h; cases h
   | some bs =>
    rw [h1, h2] at h; cases h
    rcases List.mem_cons.1 hn with rfl | hn
    ·exact rNum_bd h1
    ·exact rNums_bd h2 n hn
theorem rNums_itoa : ∀ {ns : List Int}, (∀ n ∈ ns, 0 ≤ n ∧ n ≤ 999) → rNums (ns.map itoaB) = some ns
 | [], _ => rfl
 | n :: ns, h => by
  have h1 := num_ok (h n List.mem_cons_self)
  show (rNum (itoaB n)).bind _ = _
  rw [rNum_ok h1.1, h1.2.1, Option.bind_some, rNums_itoa fun x hx => h x (List.mem_cons_of_mem _ hx)]
  rfl
theorem put_small {l : LLine} {w : ByteArray} {ns : List Int} (hl : Small l) (h : ∀ n ∈ ns, 0 ≤ n ∧ n ≤ 999) : Small (putR l w ns) := by
 have hg : ∀ i, 0 ≤ ns.getD i 0 ∧ ns.getD i 0 ≤ 999 := fun i => by
  rw [List.getD_eq_getElem?_getD]
  cases hx : ns[i]? with
  | none => simp
  | some g => exact h g (List.mem_of_getElem? hx)
 unfold putR
 split
 ·refine ⟨fun n hn => ?_, hl.2.1, hl.2.2⟩
  simp only [List.mem_cons, List.not_mem_nil, or_false] at hn
  rcases hn with rfl | rfl | rfl <;> exact hg _
 ·split
  ·refine ⟨hl.1, fun n hn => ?_, hl.2.2⟩
   rcases List.mem_append.1 hn with hn | hn
   ·exact hl.2.1 n hn
   ·rw [List.mem_singleton] at hn; subst hn; exact hg _
  ·split
   ·refine ⟨hl.1, hl.2.1, fun c hc n hn => ?_⟩
    rcases List.mem_append.1 hc with hc | hc
    ·exact hl.2.2 c hc n hn
    ·rw [List.mem_singleton] at hc; subst hc
     simp only [List.mem_cons, List.not_mem_nil, or_false] at hn
     rcases hn with rfl | rfl | rfl <;> exact hg _
   ·exact hl
theorem rfold_small : ∀ (R : List ByteArray) {l l' : LLine}, rfold l R = some l' → Small l → Small l'
 | [], l, l', h, hl => by cases h; exact hl
 | r :: R, l, l', h, hl => by
  unfold rfold rstep at h
  cases hx : rNums (splitL r 32).tail with
  | none => rw [hx] at h; cases h
  | some ns =>
   rw [hx, Option.bind_some] at h
   split at h
   ·rename_i hp
    rw [List.all_eq_true] at hp
    refine rfold_small R h (put_small hl fun n hn => ?_)
    have h1 := rNums_bd hx n hn
    have h2 := hp n hn
    rw [decide_eq_true_iff] at h2
    omega
   ·cases h
theorem zero_small : Small ⟨[], 0, 0, 0, []⟩ := ⟨fun n hn => by simp at hn; omega, fun n hn => (by cases hn), fun c hc => (by cases hc)⟩
theorem ckL_bd (l : LLine) : 0 ≤ ckL l ∧ ckL l < 157 := by
 have hnn : ∀ (R : List ByteArray) (k : Nat), 0 ≤ ck R k := fun R k => by
  induction k with
  | zero => exact Int.le_refl _
  | succ k ih =>
   have := (rs_bd (R.getD k ByteArray.empty) (R.getD k ByteArray.empty).size).1
   have : 0 ≤ rs (R.getD k ByteArray.empty) (R.getD k ByteArray.empty).size * ((k + 1 : Nat) : Int) := Int.mul_nonneg this (by omega)
   show 0 ≤ ck R k + _
   omega
 have hm : ckL l = ck (rowsL l) (rowsL l).length % 157 := by unfold ckL; exact Int.tmod_eq_emod_of_nonneg (hnn _ _)
 rw [hm]; omega
theorem parsed_small_text {l : LLine} (h : Small l) : parsedB (textB l) = some l := by
 have := ckL_bd l
 exact parsed_nums h.1 h.2.1 h.2.2 (by omega)
theorem row_rstep {l : LLine} (k : Nat) (hk : k < 3) (ns : List Int) (h : ∀ n ∈ ns, 0 ≤ n ∧ n ≤ 999) : rstep l (rowB k ns) = some (putR l (wordB k) ns) := by
 have hw : (32 : UInt8) ∉ (wordB k).data.toList := by
  match k, hk with
  | 0, _ => decide
  | 1, _ => decide
  | 2, _ => decide
 have hs : splitL (rowB k ns) 32 = wordB k :: ns.map itoaB := row_split ns _ hw h
 unfold rstep
 rw [hs]
 show (rNums (ns.map itoaB)).bind _ = _
 rw [rNums_itoa h, Option.bind_some, if_pos (by rw [List.all_eq_true]; intro n hn; rw [decide_eq_true_iff]; exact (h n hn).1)]
 rfl
theorem rfold_counts : ∀ (cs : List Cnt) (l : LLine), (∀ c ∈ cs, ∀ n ∈ [c.point, c.low, c.high], 0 ≤ n ∧ n ≤ 999) → rfold l (cs.map fun c => rowB 2 [c.point, c.low, c.high]) = some { l with counts := l.counts ++ cs }
 | [], l, _ => by simp [rfold]
 | c :: cs, l, h => by
  show (rstep l (rowB 2 [c.point, c.low, c.high])).bind _ = _
  rw [row_rstep 2 (by decide) _ (h c List.mem_cons_self)]
  have e : putR l (wordB 2) [c.point, c.low, c.high] = { l with counts := l.counts ++ [⟨c.point, c.low, c.high⟩] } := by
   unfold putR
   rw [if_neg (fun hh => by have := hh.1; revert this; decide), if_neg (fun hh => by have := hh.1; revert this; decide), if_pos ⟨rfl, rfl⟩]; rfl
  rw [e, Option.bind_some, rfold_counts cs _ fun x hx => h x (List.mem_cons_of_mem _ hx)]
  simp
theorem rfold_gives : ∀ (gs : List Int) (l : LLine) (R : List ByteArray), (∀ n ∈ gs, 0 ≤ n ∧ n ≤ 999) → rfold l ((gs.map fun n => rowB 1 [n]) ++ R) = rfold { l with gives := l.gives ++ gs } R
 | [], l, R, _ => by simp
 | g :: gs, l, R, h => by
  show (rstep l (rowB 1 [g])).bind _ = _
  rw [row_rstep 1 (by decide) _ (fun n hn => by simp at hn; subst hn; exact h n List.mem_cons_self)]
  have e : putR l (wordB 1) [g] = { l with gives := l.gives ++ [g] } := by
   unfold putR
   rw [if_neg (fun hh => by have := hh.1; revert this; decide), if_pos ⟨rfl, rfl⟩]; rfl
  rw [e]
  show rfold { l with gives := l.gives ++ [g] } ((gs.map fun n => rowB 1 [n]) ++ R) = _
  rw [rfold_gives gs _ R fun x hx => h x (List.mem_cons_of_mem _ hx)]
  simp
theorem rread_text {l : LLine} (h : Small l) : rreadB (textB l) = some l := by
 have hck := ckL_bd l
 have hr : ∀ r ∈ rowsL l ++ [endB (ckL l)], (10 : UInt8) ∉ r.data.toList := fun r hr => by
  rcases List.mem_append.1 hr with hr | hr
  ·exact small_rows h r hr
  ·simp at hr; subst hr; exact end_no (by omega)
 have hs : splitL (textB l) 10 = (rowsL l ++ [endB (ckL l)]) ++ [ByteArray.empty] := by rw [text_cat, cat_split _ hr]
 unfold rreadB
 rw [hs]
 have ht : ((rowsL l ++ [endB (ckL l)]) ++ [ByteArray.empty]).take (((rowsL l ++ [endB (ckL l)]) ++ [ByteArray.empty]).length - 2) = rowsL l := by
  rw [List.append_assoc]
  exact List.take_left' (by simp)
 rw [ht]
 have hf : rfold ⟨[], 0, 0, 0, []⟩ (rowsL l) = some l := by
  unfold rowsL
  show (rstep _ (rowB 0 [l.least, l.most, l.taps])).bind _ = _
  rw [row_rstep 0 (by decide) _ h.1]
  have e : putR ⟨[], 0, 0, 0, []⟩ (wordB 0) [l.least, l.most, l.taps] = ⟨[], l.least, l.most, l.taps, []⟩ := by
   unfold putR
   rw [if_pos ⟨rfl, rfl⟩]; rfl
  rw [e, Option.bind_some, rfold_gives _ _ _ h.2.1, rfold_counts _ _ h.2.2]
  rfl
 rw [hf, Option.bind_some, if_pos rfl]
theorem rread_some {s : ByteArray} {l : LLine} (h : rreadB s = some l) : Small l ∧ textB l = s := by
 unfold rreadB at h
 cases hx : rfold ⟨[], 0, 0, 0, []⟩ ((splitL s 10).take ((splitL s 10).length - 2)) with
 | none => rw [hx] at h; cases h
 | some l' =>
  rw [hx, Option.bind_some] at h
  split at h
  ·rename_i ht
   cases h
   exact ⟨rfold_small _ hx zero_small, ht⟩
  ·cases h
theorem rread_eq (s : ByteArray) : rreadB s = parsedB s := by
 cases hp : parsedB s with
 | some l =>
  have h1 := parsed_small hp
  have h2 := (parsedB_some hp).2.1
  rw [← h2]; exact rread_text h1
 | none =>
  cases hr : rreadB s with
  | none => rfl
  | some l =>
   obtain ⟨h1, h2⟩ := rread_some hr
   rw [← h2, parsed_small_text h1] at hp; cases hp
end Go.Av.Fx
end
section
namespace Go.Av.Fx
open Go Go.Av Go.Av.Tb Go.Proofs
theorem get_at {s : ByteArray} {k : Nat} (h : k < s.size) : s[k]? = some (s.get! k) := by
 have h1 : s[k]? = some s[k] := by simp [h]
 rw [h1]
 congr 1
 show s.data[k] = s.data[k]!
 rw [getElem!_pos]
theorem ix9 {s : ByteArray} {k : Nat} (h : k < s.size) : indexA T 9 (.str s) (.int .i64 (k : Nat)) = some (.int .u8 (s.get! k).toNat) := by
 have : indexA T 9 (.str s) (.int .i64 (k : Nat)) = if 0 ≤ (k : Int) then (s[(k : Int).toNat]?).map (fun b => AV.int .u8 b.toNat) else none := rfl
 rw [this, if_pos (by omega), Int.toNat_natCast, get_at h]; rfl
theorem ext_list (s : ByteArray) (a b : Nat) : (s.extract a b).data.toList = (s.data.toList.drop a).take (b - a) := by
 rw [ByteArray.data_extract, Array.toList_extract, List.extract_eq_take_drop]
theorem lst_len (s : ByteArray) : s.data.toList.length = s.size := by rw [Array.length_toList]; rfl
theorem lst_get {s : ByteArray} {k : Nat} (h : k < s.size) : s.data.toList[k]? = some (s.get! k) := by rw [← ba_get, get_at h]
def splS (s : ByteArray) (b : UInt8) : Nat → List ByteArray × Nat
 | 0 => ([], 0)
 | k + 1 => if s.get! k = b then ((splS s b k).1 ++ [s.extract (splS s b k).2 k], k + 1) else splS s b k
theorem spl_inv (s : ByteArray) (b : UInt8) : ∀ k, k ≤ s.size → (splS s b k).2 ≤ k ∧ (splS s b k).1.length ≤ k ∧ b ∉ (s.extract (splS s b k).2 k).data.toList ∧ splitL s b = (splS s b k).1 ++ splitL (s.extract (splS s b k).2 s.size) b
 | 0, _ => by
  refine ⟨Nat.le_refl _, Nat.le_refl _, ?_, ?_⟩
  ·rw [ext_list]; simp [splS]
  ·show splitL s b = [] ++ splitL (s.extract 0 s.size) b
   have : s.extract 0 s.size = s := by simp
   rw [this]; rfl
 | k + 1, hk => by
  obtain ⟨h1, h2, h3, h4⟩ := spl_inv s b k (by omega)
  have hg := lst_get (s := s) (k := k) (by omega)
  have hl := lst_len s
  unfold splS
  generalize hfr : (splS s b k).2 = fr at *
  by_cases hb : s.get! k = b
  ·rw [if_pos hb]
   refine ⟨Nat.le_refl _, by simp; omega, ?_, ?_⟩
   ·rw [ext_list]; simp
   ·have e : s.extract fr s.size = s.extract fr k ++ (⟨#[b]⟩ ++ s.extract (k + 1) s.size) := by
     apply ba_ext
     rw [app_list, app_list, ext_list, ext_list, ext_list]
     show _ = _ ++ ([b] ++ _)
     rw [List.take_of_length_le (by simp), List.take_of_length_le (i := s.size - (k + 1)) (by simp)]
     have e1 : s.data.toList.drop k = b :: s.data.toList.drop (k + 1) := by
      rw [List.drop_eq_getElem_cons (by omega)]
      congr 1
      have := List.getElem?_eq_getElem (l := s.data.toList) (i := k) (by omega)
      rw [hg, hb] at this
      exact (Option.some.inj this).symm
     have e2 : s.data.toList.drop k = (s.data.toList.drop fr).drop (k - fr) := by rw [List.drop_drop, show fr + (k - fr) = k by omega]
     show _ = _ ++ b :: s.data.toList.drop (k + 1)
     rw [← e1, e2, List.take_append_drop]
    show splitL s b = ((splS s b k).1 ++ [s.extract fr k]) ++ splitL (s.extract (k + 1) s.size) b
    rw [h4, e, split_cons h3]
    simp
  ·rw [if_neg hb]
   rw [hfr]
   refine ⟨by omega, by omega, ?_, h4⟩
   rw [ext_list] at h3 ⊢
   rw [show k + 1 - fr = (k - fr) + 1 by omega, List.take_succ_eq_append_getElem (by simp; omega)]
   intro hh
   rcases List.mem_append.1 hh with hh | hh
   ·exact h3 hh
   ·rw [List.mem_singleton, List.getElem_drop] at hh
    have := List.getElem?_eq_getElem (l := s.data.toList) (i := k) (by omega)
    rw [hg] at this
    have e3 := Option.some.inj this
    apply hb
    rw [e3, hh]
    congr 1
    omega
theorem spl_end (s : ByteArray) (b : UInt8) : splitL s b = (splS s b s.size).1 ++ [s.extract (splS s b s.size).2 s.size] := by
 obtain ⟨h1, h2, h3, h4⟩ := spl_inv s b s.size (Nat.le_refl _)
 rw [split_one h3] at h4
 exact h4
theorem sr_gro141 (l : List AV) (a : ByteArray) (tx : Tail) {q : Nat} (hq : l.length = q) (hl : q ≤ 100000) {K : AV → St → Prop} {hK : Hold K} {h : List (Option Blk)} (next : K (gro (l ++ [.str a])) ⟨h, q + 1, toksN (q + 1)⟩) : sr K hK (appendA T ⟨h, q, toksN q⟩ 141 (gro l) (.slice [.str a] 1 tx)) ⟨h, q, toksN q⟩ := by
 subst hq; exact gro_app T 141 9 ti9 rfl rfl rfl (by decide) l _ tx rfl rfl hl (fun S => rfl) next
theorem sl9 {s : ByteArray} {a b : Nat} (h1 : a ≤ b) (h2 : b ≤ s.size) : sliceA T 9 (.str s) (some (.int .i64 a)) (some (.int .i64 b)) none = some (.str (s.extract a b)) := by
 have : sliceA T 9 (.str s) (some (.int .i64 a)) (some (.int .i64 b)) none = (Go.Av.bnd (some (.int .i64 b)) s.size s.size).bind fun h => (Go.Av.bnd (some (.int .i64 a)) 0 h).map fun l => .str (s.extract l h) := rfl
 have e1 : Go.Av.bnd (some (.int .i64 (b : Nat))) s.size s.size = some b := by simp [Go.Av.bnd]; omega
 have e2 : Go.Av.bnd (some (.int .i64 (a : Nat))) 0 b = some a := by simp [Go.Av.bnd]; omega
 rw [this, e1, Option.bind_some, e2]; rfl
theorem sl9o {s : ByteArray} {a : Nat} (h1 : a ≤ s.size) : sliceA T 9 (.str s) (some (.int .i64 a)) none none = some (.str (s.extract a s.size)) := by
 have : sliceA T 9 (.str s) (some (.int .i64 a)) none none = (Go.Av.bnd none s.size s.size).bind fun h => (Go.Av.bnd (some (.int .i64 a)) 0 h).map fun l => .str (s.extract l h) := rfl
 have e1 : Go.Av.bnd none s.size s.size = some s.size := by simp [Go.Av.bnd]
 have e2 : Go.Av.bnd (some (.int .i64 (a : Nat))) 0 s.size = some a := by simp [Go.Av.bnd]; omega
 rw [this, e1, Option.bind_some, e2]; rfl
theorem rSplit_pc (s : ByteArray) (hs : s.size ≤ 10000) (b : UInt8) : PC Tryz.prog 113 [.str s, .int .u8 b.toNat] (.pure (.slice (strs (splitL s b)) (splitL s b).length .unk)) := by
 refine PC.of_frz (AC.run (E_ok _) mix Tryz.func113 m113 rfl rfl rfl (Nat.le_of_ble_eq_true rfl) ?_) (by simp [bndL, AV.bnd]) (by simp [AV.bnd])
 rw [spl_end]
 simp only [go_sem, reduceEqDiff, Nat.reduceBEq, reduceAdd, reduceIte, reduceCtorEq, reduceLeDiff]
 refine wc_loop (fun n ts' S' => ∃ k, k ≤ s.size ∧ n = s.size - k ∧ (ts' = [(0, .str s), (1, .int .u8 b.toNat), (5, gro (strs (splS s b k).1)), (6, .int .i64 (splS s b k).2), (7, .int .i64 k)] ∨ ts' = [(0, .str s), (1, .int .u8 b.toNat), (5, gro (strs (splS s b k).1)), (7, .int .i64 k), (6, .int .i64 (splS s b k).2)]) ∧ S' = ⟨[], (splS s b k).1.length, toksN (splS s b k).1.length⟩) s.size ⟨0, Nat.zero_le _, rfl, .inl rfl, rfl⟩ ?_
 rintro n ts' S' ⟨k, hk, rfl, hts, rfl⟩
 obtain ⟨v1, v2, _, _⟩ := spl_inv s b k hk
 have vl : (strs (splS s b k).1).length = (splS s b k).1.length := strs_len _
 by_cases h' : k < s.size
 ·have h1 : (k : Int) < s.size := by omega
  have h3 := ix9 h'
  have h4 : IntKind.i64.wrap ((k : Int) + 1) = (k + 1 : Nat) := wrap64 (by omega)
  have hS : splS s b (k + 1) = if s.get! k = b then ((splS s b k).1 ++ [s.extract (splS s b k).2 k], k + 1) else splS s b k := rfl
  by_cases hb : s.get! k = b
  ·rw [if_pos hb] at hS
   have d1 : decide (((s.get! k).toNat : Int) = (b.toNat : Int)) = true := decide_eq_true (by rw [hb])
   have h5 := sl9 v1 (Nat.le_of_lt h')
   have ea : strs ((splS s b k).1 ++ [s.extract (splS s b k).2 k]) = strs (splS s b k).1 ++ [.str (s.extract (splS s b k).2 k)] := by simp [strs]
   have el : ((splS s b k).1 ++ [s.extract (splS s b k).2 k]).length = (splS s b k).1.length + 1 := by simp
   rcases hts with rfl | rfl
   all_goals
    simp only [go_sem, l113_0, builtinA, h1, decide_true, h3, d1, h5, reduceEqDiff, Nat.reduceBEq, reduceAdd, reduceIte, reduceCtorEq, reduceLeDiff]
    refine sr_gro141 _ _ _ vl (by omega) ?_
    simp only [go_sem, h4, reduceEqDiff, Nat.reduceBEq, reduceAdd, reduceIte, reduceCtorEq, reduceLeDiff]
    exact again_here (s.size - (k + 1)) (by omega) ⟨k + 1, h', rfl, .inr (by rw [hS]; simp only [ea]), by rw [hS]; simp only [el]⟩
  ·rw [if_neg hb] at hS
   have d1 : decide (((s.get! k).toNat : Int) = (b.toNat : Int)) = false := decide_eq_false fun e => hb (UInt8.toNat_inj.1 (by omega))
   rcases hts with rfl | rfl
   ·simp only [go_sem, l113_0, builtinA, h1, decide_true, h3, d1, h4, reduceEqDiff, Nat.reduceBEq, reduceAdd, reduceIte, reduceCtorEq, reduceLeDiff]
    exact again_here (s.size - (k + 1)) (by omega) ⟨k + 1, h', rfl, .inl (by rw [hS]), by rw [hS]⟩
   ·simp only [go_sem, l113_0, builtinA, h1, decide_true, h3, d1, h4, reduceEqDiff, Nat.reduceBEq, reduceAdd, reduceIte, reduceCtorEq, reduceLeDiff]
    first
     | exact again_here (s.size - (k + 1)) (by omega) ⟨k + 1, h', rfl, .inr (by rw [hS]), by rw [hS]⟩
     | exact again_here (s.size - (k + 1)) (by omega) ⟨k + 1, h', rfl, .inl (by rw [hS]), by rw [hS]⟩
 ·have h1 : ¬ (k : Int) < s.size := by omega
  have ek : k = s.size := by omega
  subst ek
  have h5 := sl9o v1
  have e : gro (strs (splS s b s.size).1 ++ [.str (s.extract (splS s b s.size).2 s.size)]) = gro (strs ((splS s b s.size).1 ++ [s.extract (splS s b s.size).2 s.size])) := by simp [strs]
  have fz := gro_frz_same ([] : List (Option Blk)) (strs ((splS s b s.size).1 ++ [s.extract (splS s b s.size).2 s.size]))
  rw [strs_len] at fz
  rcases hts with rfl | rfl
  all_goals
   simp only [go_sem, l113_0, builtinA, h1, decide_false, h5, reduceEqDiff, Nat.reduceBEq, reduceAdd, reduceIte, reduceCtorEq, reduceLeDiff]
   refine sr_gro141 _ _ _ vl (by omega) ?_
   simp only [go_sem, Tryz.f113, reduceEqDiff, Nat.reduceBEq, reduceAdd, reduceIte, reduceCtorEq, reduceLeDiff]
   refine ⟨_, rfl, ?_⟩
   rw [e]
   exact fz
@[go_sem] theorem cu5_3 (n : Int) : convA T 5 3 (.int .u8 n) = some (.int .i64 (IntKind.i64.wrap n)) := rfl
def bOk (w : ByteArray) : Bool := decide ((bodyW w).size ≠ 0) && decide ((bodyW w).size ≤ 3) && digs (bodyW w) (bodyW w).size
def numA (w : ByteArray) : AV := .tuple [.int .i64 (if bOk w = true then valS w else 0), .bool (rOk w)]
theorem num_bad {w : ByteArray} (h : bOk w = false) : numA w = .tuple [.int .i64 0, .bool false] := by
 have eo : rOk w = (bOk w && decide (itoaB (valS w) = w)) := rfl
 unfold numA
 rw [eo, h]; rfl
theorem num_good {w : ByteArray} (h : bOk w = true) : numA w = .tuple [.int .i64 (valS w), .bool (decide (itoaB (valS w) = w))] := by
 have eo : rOk w = (bOk w && decide (itoaB (valS w) = w)) := rfl
 unfold numA
 rw [eo, h]; rfl
set_option maxHeartbeats 1000000 in
theorem num_rest (w d : ByteArray) (hs : w.size ≤ 10000) (hd : bodyW w = d) (hsz : d.size = if negW w = true then w.size - 1 else w.size) (hz : negW w = true → 0 < w.size) :
  ∀ ts : TS, (ts = [(0, .str w), (1, .int .i64 3), (6, .str d)] ∨ ts = [(0, .str w), (1, .int .i64 3), (6, .str d), (17, .bool false)]) → WC (E 65) (.seq (.seq (.region [0, 6, 28] r148_4) (.cond (.tmp 28) (.seq (.region [4, 5] r148_5) .ret) .skip)) (.seq (.region [0, 6, 7] r148_6) (.seq (.seq (.region [0, 6, 7, 8] r148_7) (.block 0 (.loop l148_0))) (.seq (.seq (.region [0, 7, 57] r148_13) (.cond (.tmp 57) (.region [0, 7] r148_14) .skip)) (.seq (.region [4, 5] r148_15) .ret))))) (bodyQ (E 65) Tryz.f148.results.toList (fun e x => e = AEnd.ret (numA w))) ts ⟨[], 0, []⟩ := by
 have ebk : bOk w = (decide (d.size ≠ 0) && decide (d.size ≤ 3) && digs d d.size) := by rw [← hd]; rfl
 have evs : valS w = if negW w = true then -valW d else valW d := by rw [← hd]; rfl
 intro ts hts
 rcases hts with rfl | rfl
 all_goals
  by_cases c1 : d.size = 0
  ·have c1' : (d.size : Int) = 0 := by omega
   rw [num_bad (by rw [ebk, decide_eq_false (p := d.size ≠ 0) (fun h => h c1)]; rfl)]
   simp only [go_sem, builtinA, c1', decide_true, Tryz.f148, reduceEqDiff, Nat.reduceBEq, reduceAdd, reduceIte, reduceCtorEq, reduceLeDiff]
  have c1' : ¬ (d.size : Int) = 0 := by omega
  by_cases c2 : d.size ≤ 3
  rotate_left
  ·have c2' : (d.size : Int) > 3 := by omega
   rw [num_bad (by rw [ebk, decide_eq_false c2]; simp)]
   simp only [go_sem, builtinA, c1', c2', decide_true, decide_false, Tryz.f148, reduceEqDiff, Nat.reduceBEq, reduceAdd, reduceIte, reduceCtorEq, reduceLeDiff]
  have c2' : ¬ (d.size : Int) > 3 := by omega
  rw [decide_eq_true (p := d.size ≠ 0) c1, decide_eq_true c2, Bool.and_self, Bool.true_and] at ebk
  simp only [go_sem, builtinA, c1', c2', decide_false, reduceEqDiff, Nat.reduceBEq, reduceAdd, reduceIte, reduceCtorEq, reduceLeDiff]
  refine wc_forP d.size (fun j => digs d j = true) (fun j => [(0, .str w), (6, .str d), (7, .int .i64 (decP d j)), (8, .int .i64 j)]) (fun _ => ⟨[], 0, []⟩) rfl rfl rfl ?_
  intro j hj hD I hI
  by_cases h' : j < d.size
  ·have h1 : (j : Int) < d.size := by omega
   have h3 := ix9 h'
   have h4 : IntKind.i64.wrap ((j : Int) + 1) = (j + 1 : Nat) := wrap64 (by omega)
   have bad : isD (d.get! j) = false → bOk w = false := fun hb => by
    rw [ebk]
    unfold digs
    rw [List.all_eq_false]
    exact ⟨j, List.mem_range.2 h', by rw [hb]; decide⟩
   by_cases k1 : ((d.get! j).toNat : Int) < 48
   ·rw [num_bad (bad (by unfold isD; rw [decide_eq_false (by omega)]; rfl))]
    simp only [go_sem, l148_0, builtinA, h1, h3, k1, decide_true, Tryz.f148, reduceEqDiff, Nat.reduceBEq, reduceAdd, reduceIte, reduceCtorEq, reduceLeDiff]
   by_cases k2 : ((d.get! j).toNat : Int) > 57
   ·rw [num_bad (bad (by unfold isD; rw [decide_eq_false (p := (d.get! j).toNat ≤ 57) (by omega), Bool.and_false]))]
    simp only [go_sem, l148_0, builtinA, h1, h3, k1, k2, decide_true, decide_false, Tryz.f148, reduceEqDiff, Nat.reduceBEq, reduceAdd, reduceIte, reduceCtorEq, reduceLeDiff]
   have hdb := decP_bd hD (by omega)
   have hnx : digs d (j + 1) = true := by
    unfold digs at hD ⊢
    rw [List.range_succ, List.all_append, hD]
    simp only [List.all_cons, List.all_nil, Bool.and_true, Bool.true_and]
    unfold isD
    rw [decide_eq_true (by omega), decide_eq_true (by omega)]; rfl
   have w5 : IntKind.i64.wrap (10 * decP d j) = 10 * decP d j := wrap64 (by omega)
   have w6 : IntKind.u8.wrap (((d.get! j).toNat : Int) - 48) = ((d.get! j).toNat : Int) - 48 := by
    unfold IntKind.wrap; simp [IntKind.signed, IntKind.bits]; omega
   have w7 : IntKind.i64.wrap (((d.get! j).toNat : Int) - 48) = ((d.get! j).toNat : Int) - 48 := wrap64 (by omega)
   have w8 : IntKind.i64.wrap (10 * decP d j + (((d.get! j).toNat : Int) - 48)) = decP d (j + 1) := wrap64 (by omega)
   simp only [go_sem, l148_0, builtinA, h1, h3, k1, k2, w5, w6, w7, w8, h4, decide_true, decide_false, reduceEqDiff, Nat.reduceBEq, reduceAdd, reduceIte, reduceCtorEq, reduceLeDiff]
   exact hI h' hnx
  ·have h1 : ¬ (j : Int) < d.size := by omega
   have ej : j = d.size := by omega
   subst ej
   clear hI hj
   have hdb := decP_bd hD c2
   rw [num_good (by rw [ebk, hD])]
   have vw : valW d = decP d d.size := rfl
   have eqs := eqS
   cases hneg : negW w
   ·rw [hneg, if_neg (by decide)] at evs hsz
    have z1 : ¬ (d.size : Int) < w.size := by omega
    rw [evs]
    simp only [go_sem, l148_0, builtinA, h1, z1, decide_false, reduceEqDiff, Nat.reduceBEq, reduceAdd, reduceIte, reduceCtorEq, reduceLeDiff]
    refine cp n147 (Decimal_pc 1000 (decP d d.size) (by omega) ⟨by omega, by omega⟩) (SubL.refl _) ?_
    simp only [go_sem, eqs, Tryz.f148, reduceEqDiff, Nat.reduceBEq, reduceAdd, reduceIte, reduceCtorEq, reduceLeDiff]
    rfl
   ·rw [hneg, if_pos rfl] at evs hsz
    have := hz hneg
    have z1 : (d.size : Int) < w.size := by omega
    have z2 : IntKind.i64.wrap (0 - decP d d.size) = -decP d d.size := by rw [wrap64 (by omega)]; omega
    rw [evs]
    simp only [go_sem, l148_0, builtinA, h1, z1, unA, z2, decide_false, decide_true, reduceEqDiff, Nat.reduceBEq, reduceAdd, reduceIte, reduceCtorEq, reduceLeDiff]
    refine cp n147 (Decimal_pc 1000 (-decP d d.size) (by omega) ⟨by omega, by omega⟩) (SubL.refl _) ?_
    simp only [go_sem, eqs, Tryz.f148, reduceEqDiff, Nat.reduceBEq, reduceAdd, reduceIte, reduceCtorEq, reduceLeDiff]
    rfl
theorem rNumber_pc (w : ByteArray) (hs : w.size ≤ 10000) : PC Tryz.prog 148 [.str w, .int .i64 3] (.pure (numA w)) := by
 refine PC.of_empty (AC.run (E_ok _) mix Tryz.func148 m148 rfl rfl rfl (Nat.le_of_ble_eq_true rfl) ?_) (by simp [bndL, AV.bnd]) rfl
 have eb : bodyW w = if negW w = true then w.extract 1 w.size else w := rfl
 have en : negW w = (decide (0 < w.size) && decide ((w.get! 0).toNat = 45)) := rfl
 have hsz : (bodyW w).size = if negW w = true then w.size - 1 else w.size := by
  rw [eb]; split
  ·rw [ByteArray.size_extract]; omega
  ·rfl
 have hz : negW w = true → 0 < w.size := fun h => by
  rw [en, Bool.and_eq_true, decide_eq_true_iff] at h; exact h.1
 by_cases z : w.size = 0
 ·have z' : ¬ (w.size : Int) > 0 := by omega
  have hneg : negW w = false := by rw [en, decide_eq_false (by omega)]; rfl
  rw [hneg, if_neg (by decide)] at eb
  have tl := num_rest w w hs eb (by rw [hneg]; rfl) hz _ (.inr rfl)
  simp only [go_sem, builtinA, z', decide_false, reduceEqDiff, Nat.reduceBEq, reduceAdd, reduceIte, reduceCtorEq, reduceLeDiff]
  simp only [go_sem, builtinA, reduceEqDiff, Nat.reduceBEq, reduceAdd, reduceIte, reduceCtorEq, reduceLeDiff] at tl
  exact tl
 have z' : (w.size : Int) > 0 := by omega
 have i0 := ix9 (s := w) (k := 0) (by omega)
 rw [show (((0 : Nat)) : Int) = 0 from rfl] at i0
 cases hneg : negW w
 ·rw [en, decide_eq_true (by omega), Bool.true_and, decide_eq_false_iff_not] at hneg
  have d0 : decide (((w.get! 0).toNat : Int) = 45) = false := decide_eq_false (by omega)
  have hneg : negW w = false := by rw [en, decide_eq_false hneg, Bool.and_false]
  rw [hneg, if_neg (by decide)] at eb
  have tl := num_rest w w hs eb (by rw [hneg]; rfl) hz _ (.inr rfl)
  simp only [go_sem, builtinA, z', decide_true, i0, d0, reduceEqDiff, Nat.reduceBEq, reduceAdd, reduceIte, reduceCtorEq, reduceLeDiff]
  simp only [go_sem, builtinA, reduceEqDiff, Nat.reduceBEq, reduceAdd, reduceIte, reduceCtorEq, reduceLeDiff] at tl
  exact tl
 ·rw [en, decide_eq_true (by omega), Bool.true_and, decide_eq_true_iff] at hneg
  have d0 : decide (((w.get! 0).toNat : Int) = 45) = true := decide_eq_true (by omega)
  have hneg : negW w = true := by rw [en, decide_eq_true hneg, decide_eq_true (by omega)]; rfl
  have tl := num_rest w _ hs rfl hsz hz _ (.inl rfl)
  rw [hneg, if_pos rfl] at eb
  rw [eb] at tl
  have s1 := sl9o (s := w) (a := 1) (by omega)
  rw [show (((1 : Nat)) : Int) = 1 from rfl] at s1
  simp only [go_sem, builtinA, z', decide_true, i0, d0, s1, reduceEqDiff, Nat.reduceBEq, reduceAdd, reduceIte, reduceCtorEq, reduceLeDiff]
  simp only [go_sem, builtinA, reduceEqDiff, Nat.reduceBEq, reduceAdd, reduceIte, reduceCtorEq, reduceLeDiff] at tl
  exact tl
end Go.Av.Fx
end
section
namespace Go.Av.Fx
open Go Go.Av Go.Av.Tb Go.Proofs
theorem rNums_yes : ∀ {W : List ByteArray}, (∀ w ∈ W, rOk w = true) → rNums W = some (W.map valS)
 | [], _ => rfl
 | w :: W, h => by
  show (rNum w).bind _ = _
  unfold rNum
  rw [if_pos (h w List.mem_cons_self), Option.bind_some, rNums_yes fun x hx => h x (List.mem_cons_of_mem _ hx)]
  rfl
theorem rNums_no : ∀ {W : List ByteArray} {w : ByteArray}, w ∈ W → rOk w = false → rNums W = none
 | x :: W, w, hw, h => by
  show (rNum x).bind _ = _
  unfold rNum
  rcases List.mem_cons.1 hw with rfl | hw
  ·rw [h]; rfl
  ·split
   ·rw [Option.bind_some, rNums_no hw h]; rfl
   ·rfl
def numsA (W : List ByteArray) : AV := match rNums W with
 | some ns => .tuple [sl ns, .bool true]
 | none => .tuple [sl [], .bool false]
theorem numsA_bnd (W : List ByteArray) : (numsA W).bnd 0 0 = true := by
 unfold numsA
 split <;> simp [bndL, AV.bnd]
theorem rNumbers_pc (W : List ByteArray) (hW : W.length ≤ 10000) (hs : ∀ w ∈ W, w.size ≤ 10000) : PC Tryz.prog 114 [.slice (strs W) W.length .unk, .int .i64 3] (.pure (numsA W)) := by
 refine PC.of_frz (AC.run (E_ok _) mix Tryz.func114 m114 rfl rfl rfl (Nat.le_of_ble_eq_true rfl) ?_) (by simp [bndL, AV.bnd]) (numsA_bnd W)
 simp only [go_sem, reduceEqDiff, Nat.reduceBEq, reduceAdd, reduceIte, reduceCtorEq, reduceLeDiff]
 refine wc_forP W.length (fun k => ∀ w ∈ W.take k, rOk w = true) (fun k => [(0, .slice (strs W) W.length .unk), (1, .int .i64 3), (6, gro (ints ((W.take k).map valS))), (7, .int .i64 k)]) (fun k => ⟨[], k, toksN k⟩) (fun w hw => by simp at hw) rfl rfl ?_
 intro k hk hP I hI
 by_cases h' : k < W.length
 ·have h1 : (k : Int) < W.length := by omega
  have h2 : 0 ≤ (k : Int) ∧ (k : Int) < W.length := by omega
  have h3 : W[k]? = some W[k] := List.getElem?_eq_getElem h'
  have h4 : IntKind.i64.wrap ((k : Int) + 1) = (k + 1 : Nat) := wrap64 (by omega)
  have hN := rNumber_pc W[k] (hs _ (List.getElem_mem h'))
  have elen : (ints ((W.take k).map valS)).length = k := by simp; omega
  simp only [go_sem, l114_0, builtinA, h1, decide_true, h2, strs_get, h3, Option.map_some, reduceEqDiff, Nat.reduceBEq, reduceAdd, reduceIte, reduceCtorEq, reduceLeDiff]
  refine cp n148 hN (SubL.refl _) ?_
  unfold numA
  cases ho : rOk W[k]
  ·have hno := rNums_no (List.getElem_mem h') ho
   unfold numsA
   rw [hno]
   simp only [go_sem, extractA, un_not, Bool.not_false, Tryz.f114, reduceEqDiff, Nat.reduceBEq, reduceAdd, reduceIte, reduceCtorEq, reduceLeDiff]
   exact ⟨_, rfl, Frz.two .nil (.same _)⟩
  ·have hb : bOk W[k] = true := by
    have eo : rOk W[k] = (bOk W[k] && decide (itoaB (valS W[k]) = W[k])) := rfl
    rw [eo, Bool.and_eq_true] at ho; exact ho.1
   rw [hb, if_pos rfl]
   have hn := hI h' fun w hw => by
    rw [List.take_succ_eq_append_getElem h'] at hw
    rcases List.mem_append.1 hw with hw | hw
    ·exact hP w hw
    ·rw [List.mem_singleton] at hw; subst hw; exact ho
   rw [List.take_succ_eq_append_getElem h', List.map_append] at hn
   have e5 : ints ((W.take k).map valS ++ [W[k]].map valS) = ints ((W.take k).map valS) ++ [.int .i64 (valS W[k])] := by simp [ints]
   rw [e5] at hn
   simp only [go_sem, extractA, un_not, Bool.not_true, builtinA, reduceEqDiff, Nat.reduceBEq, reduceAdd, reduceIte, reduceCtorEq, reduceLeDiff]
   refine sr_gro22 _ _ _ elen (by omega) ?_
   simp only [go_sem, h4, reduceEqDiff, Nat.reduceBEq, reduceAdd, reduceIte, reduceCtorEq, reduceLeDiff]
   exact hn
 ·have h1 : ¬ (k : Int) < W.length := by omega
  have ek : k = W.length := by omega
  subst ek
  rw [List.take_length] at *
  unfold numsA
  rw [rNums_yes hP]
  simp only [go_sem, l114_0, builtinA, h1, decide_false, Tryz.f114, reduceEqDiff, Nat.reduceBEq, reduceAdd, reduceIte, reduceCtorEq, reduceLeDiff]
  refine ⟨_, rfl, Frz.two ?_ (.same _)⟩
  have := gro_frz_same ([] : List (Option Blk)) (ints (W.map valS))
  rw [ints_len] at this
  exact this
end Go.Av.Fx
end
section
namespace Go.Av.Fx
open Go Go.Av Go.Av.Tb Go.Proofs
theorem rfold_app : ∀ (l : LLine) (xs ys : List ByteArray), rfold l (xs ++ ys) = (rfold l xs).bind fun l' => rfold l' ys
 | l, [], ys => rfl
 | l, x :: xs, ys => by
  simp only [List.cons_append, rfold]
  cases rstep l x with
  | none => rfl
  | some l' => simp only [Option.bind_some]; exact rfold_app l' xs ys
theorem rfold_one (l : LLine) (x : ByteArray) : rfold l [x] = rstep l x := by
 simp only [rfold]; cases rstep l x <;> rfl
theorem rfold_next {l0 l : LLine} {R : List ByteArray} {k : Nat} (hk : k < R.length) (h : rfold l0 (R.take k) = some l) : rfold l0 (R.take (k + 1)) = rstep l R[k] := by
 rw [List.take_succ_eq_append_getElem hk, rfold_app, h, Option.bind_some, rfold_one]
theorem rfold_fail {l0 l : LLine} {R : List ByteArray} {k m : Nat} (hk : k < R.length) (hkm : k < m) (h : rfold l0 (R.take k) = some l) (h2 : rstep l R[k] = none) : rfold l0 (R.take m) = none := by
 have e : R.take m = R.take (k + 1) ++ (R.take m).drop (k + 1) := by
  have := (List.take_append_drop (k + 1) (R.take m)).symm
  rw [List.take_take, Nat.min_eq_left (by omega)] at this
  exact this
 rw [e, rfold_app, rfold_next hk h, h2]; rfl
theorem splitB_ne (sep : ByteArray) : ∀ (k : Nat) (s : ByteArray), Lib.splitB sep 0 k s ≠ []
 | 0, s => by simp [Lib.splitB]
 | k + 1, s => by
  unfold Lib.splitB
  split <;> simp
theorem splitL_ne (s : ByteArray) (b : UInt8) : ∃ a W, splitL s b = a :: W := by
 cases h : splitL s b with
 | nil => exact (splitB_ne _ _ _ h).elim
 | cons a W => exact ⟨a, W, rfl⟩
theorem split10 (s : ByteArray) (hs : s.size ≤ 10000) : PC Tryz.prog 113 [.str s, .int .u8 10] (.pure (.slice (strs (splitL s 10)) (splitL s 10).length .unk)) := rSplit_pc s hs 10
theorem split32 (s : ByteArray) (hs : s.size ≤ 10000) : PC Tryz.prog 113 [.str s, .int .u8 32] (.pure (.slice (strs (splitL s 32)) (splitL s 32).length .unk)) := rSplit_pc s hs 32
structure RI (R : List ByteArray) (k : Nat) (l : LLine) (tg tc nt : Nat) (toks : List Nat) : Prop where
 fold : rfold zeroL (R.take k) = some l
 len : l.gives.length + l.counts.length ≤ k
 htg : l.gives.length ≠ 0 → tg ∈ toks
 htc : l.counts.length ≠ 0 → tc ∈ toks
 ne : l.gives.length ≠ 0 → l.counts.length ≠ 0 → tg ≠ tc
 lt : ∀ t ∈ toks, t < nt
def rSt (l : LLine) (tg tc nt : Nat) (toks : List Nat) : St := ⟨[some (.cells [.nilS, .int .i64 0, .int .i64 0, .int .i64 0, .nilS]), some (.cells [pG l tg, .int .i64 l.least, .int .i64 l.most, .int .i64 l.taps, pC l tc])], nt, toks⟩
theorem RI.same {R : List ByteArray} {k tg tc nt : Nat} {toks : List Nat} {l l' : LLine} (h : RI R k l tg tc nt toks) (hf : rfold zeroL (R.take (k + 1)) = some l') (hg : l'.gives = l.gives) (hc : l'.counts = l.counts) : RI R (k + 1) l' tg tc nt toks where
 fold := hf
 len := by have := h.len; rw [hg, hc]; omega
 htg := by rw [hg]; exact h.htg
 htc := by rw [hc]; exact h.htc
 ne := by rw [hg, hc]; exact h.ne
 lt := h.lt
theorem RI.pushG {R : List ByteArray} {k tg tc nt : Nat} {toks toks' : List Nat} {l : LLine} {hh : List (Option Blk)} (h : RI R k l tg tc nt toks) (x : Int) (hf : rfold zeroL (R.take (k + 1)) = some { l with gives := l.gives ++ [x] }) (hp : Push ⟨hh, nt, toks⟩ (if l.gives.length = 0 then none else some tg) toks') :
  RI R (k + 1) { l with gives := l.gives ++ [x] } nt tc (nt + 1) toks' where
 fold := hf
 len := by have := h.len; simp; omega
 htg := fun _ => hp.new
 htc := fun hc => hp.kept tc (h.htc hc) (by
  split
  ·intro e; cases e
  ·rename_i hg; intro e; cases e; exact h.ne hg hc rfl)
 ne := fun _ hc e => by
  have := h.lt tc (h.htc hc)
  omega
 lt := fun t ht => by
  rcases hp.old t ht with e | e
  ·have : t = nt := e
   omega
  ·have := h.lt t e; omega
theorem RI.pushC {R : List ByteArray} {k tg tc nt : Nat} {toks toks' : List Nat} {l : LLine} {hh : List (Option Blk)} (h : RI R k l tg tc nt toks) (c : Cnt) (hf : rfold zeroL (R.take (k + 1)) = some { l with counts := l.counts ++ [c] }) (hp : Push ⟨hh, nt, toks⟩ (if l.counts.length = 0 then none else some tc) toks') :
  RI R (k + 1) { l with counts := l.counts ++ [c] } tg nt (nt + 1) toks' where
 fold := hf
 len := by have := h.len; simp; omega
 htc := fun _ => hp.new
 htg := fun hc => hp.kept tg (h.htg hc) (by
  split
  ·intro e; cases e
  ·rename_i hg; intro e; cases e; exact h.ne hc hg rfl)
 ne := fun hc _ e => by
  have := h.lt tg (h.htg hc)
  omega
 lt := fun t ht => by
  rcases hp.old t ht with e | e
  ·have : t = nt := e
   omega
  ·have := h.lt t e; omega
theorem grt_frz (h : List (Option Blk)) (l : List AV) (n t : Nat) (hl : l.length = 0 ∨ n ≠ 0) : Frz h (grt l n t) (.slice l n .unk) := by
 cases n with
 | zero =>
  rcases hl with hl | hl
  ·rw [List.eq_nil_of_length_eq_zero hl]; exact Frz.nil
  ·exact absurd rfl hl
 | succ n => exact Frz.unk _ _ _
theorem rline_frz (h : List (Option Blk)) (l : LLine) (tg tc : Nat) : Frz h (.agg [pG l tg, .int .i64 l.least, .int .i64 l.most, .int .i64 l.taps, pC l tc]) (lineA l) :=
 .agg _ _ rfl fun j x y hx hy => by
  match j, hx, hy with
  | 0, hx, hy => simp at hx hy; subst hx; subst hy; exact grt_frz _ _ _ _ (by cases l.gives <;> simp)
  | 1, hx, hy => simp at hx hy; subst hx; subst hy; exact .same _
  | 2, hx, hy => simp at hx hy; subst hx; subst hy; exact .same _
  | 3, hx, hy => simp at hx hy; subst hx; subst hy; exact .same _
  | 4, hx, hy => simp at hx hy; subst hx; subst hy; exact grt_frz _ _ _ _ (by cases l.counts <;> simp)
  | j + 5, hx, hy => simp at hx
theorem Small.plain {l : LLine} (h : Small l) (hn : l.gives.length + l.counts.length ≤ 1000) : Plain l where
 gives := by omega
 counts := by omega
 head := fun n hn => by have := h.1 n hn; exact ⟨by omega, by omega⟩
 give := fun n hn => by have := h.2.1 n hn; exact ⟨by omega, by omega⟩
 count := fun c hc n hn => by have := h.2.2 c hc n hn; exact ⟨by omega, by omega⟩
def rReadA (s : ByteArray) : AV := match rreadB s with
 | some l => .tuple [lineA l, .bool true]
 | none => .tuple [.agg zeroC, .bool false]
theorem rReadA_bnd (s : ByteArray) : (rReadA s).bnd 0 0 = true := by
 unfold rReadA
 split <;> simp [bndL, AV.bnd, zeroC]
theorem rReadA_none {s : ByteArray} (h : rreadB s = none) : rReadA s = .tuple [.agg [.nilS, .int .i64 0, .int .i64 0, .int .i64 0, .nilS], .bool false] := by
 unfold rReadA; rw [h]; rfl
theorem rReadA_some {s : ByteArray} {l : LLine} (h : rreadB s = some l) : rReadA s = .tuple [lineA l, .bool true] := by
 unfold rReadA; rw [h]
set_option maxHeartbeats 4000000 in
theorem rRead_pc (s : ByteArray) (hs : s.size ≤ 900) : PC Tryz.prog 64 [.str s] (.pure (rReadA s)) := by
 refine PC.of_frz (AC.run (E_ok _) mix Tryz.func64 m64 rfl rfl rfl (Nat.le_of_ble_eq_true rfl) ?_) (by simp [bndL, AV.bnd]) (rReadA_bnd s)
 simp only [go_sem, reduceEqDiff, Nat.reduceBEq, reduceAdd, reduceIte, reduceCtorEq, reduceLeDiff]
 refine cp n113 (split10 s (by omega)) (SubL.refl _) ?_
 simp only [go_sem, reduceEqDiff, Nat.reduceBEq, reduceAdd, reduceIte, reduceCtorEq, reduceLeDiff]
 have hR := splitL_len s 10
 have hrd : rreadB s = (rfold zeroL ((splitL s 10).take ((splitL s 10).length - 2))).bind fun l => if textB l = s then some l else none := rfl
 have hsz : ∀ r ∈ splitL s 10, r.size ≤ 900 := fun r hr => Nat.le_trans (splitL_size hr) hs
 generalize splitL s 10 = R at *
 have w1 : IntKind.i64.wrap ((R.length : Int) - 2) = (R.length : Int) - 2 := wrap64 (by omega)
 refine wc_loop (fun n ts' S' => ∃ k l tg tc nt toks, RI R k l tg tc nt toks ∧ k ≤ R.length - 2 ∧ n = R.length - 2 - k ∧ ts' = [(0, .str s), (2, .ref 0 0), (4, .ref 1 0), (5, .slice (strs R) R.length .unk), (6, .int .i64 k)] ∧ S' = rSt l tg tc nt toks) (R.length - 2) ⟨0, zeroL, 0, 0, 0, [], ⟨rfl, Nat.le_refl _, fun h => absurd rfl h, fun h => absurd rfl h, fun h => absurd rfl h, fun t h => (by cases h)⟩, Nat.zero_le _, rfl, rfl, rfl⟩ ?_
 rintro n ts' S' ⟨k, l, tg, tc, nt, toks, hI, hk, rfl, rfl, rfl⟩
 unfold rSt
 by_cases h' : k < R.length - 2
 rotate_left
 ·have h1 : ¬ (k : Int) < (R.length : Int) - 2 := by omega
  have e : k = R.length - 2 := by omega
  have hfold := hI.fold
  rw [e] at hfold
  have hsm := rfold_small _ hfold zero_small
  have hlen := hI.len
  rw [hfold, Option.bind_some] at hrd
  simp only [go_sem, l64_0, builtinA, w1, h1, decide_false, reduceEqDiff, Nat.reduceBEq, reduceAdd, reduceIte, reduceCtorEq, reduceLeDiff]
  refine cp n62 (rPrint_pc l (hsm.plain (by omega))) (SubL.cons (line_sub l tg tc) (SubL.refl [])) ?_
  have hne := neS (textB l) s
  by_cases ht : textB l = s
  ·rw [if_pos ht] at hrd
   rw [decide_eq_false (fun h => h ht)] at hne
   rw [rReadA_some hrd]
   simp only [go_sem, hne, put_eq, Tryz.f64, reduceEqDiff, Nat.reduceBEq, reduceAdd, reduceIte, reduceCtorEq, reduceLeDiff]
   exact ⟨_, rfl, Frz.two (rline_frz _ l tg tc) (.same _)⟩
  ·rw [if_neg ht] at hrd
   rw [decide_eq_true ht] at hne
   rw [rReadA_none hrd]
   simp only [go_sem, hne, put_eq, Tryz.f64, reduceEqDiff, Nat.reduceBEq, reduceAdd, reduceIte, reduceCtorEq, reduceLeDiff]
   exact ⟨_, rfl, .same _⟩
 have h1 : (k : Int) < (R.length : Int) - 2 := by omega
 have h2 : 0 ≤ (k : Int) ∧ (k : Int) < R.length := by omega
 have hkr : k < R.length := by omega
 have h3 : R[k]? = some R[k] := List.getElem?_eq_getElem hkr
 have h4 : IntKind.i64.wrap ((k : Int) + 1) = (k + 1 : Nat) := wrap64 (by omega)
 have hszk := hsz _ (List.getElem_mem hkr)
 have hfail : rstep l R[k] = none → rreadB s = none := fun h => by rw [hrd, rfold_fail hkr h' hI.fold h]; rfl
 have hnxt := rfold_next hkr hI.fold
 simp only [go_sem, l64_0, builtinA, w1, h1, decide_true, h2, strs_get, h3, Option.map_some, reduceEqDiff, Nat.reduceBEq, reduceAdd, reduceIte, reduceCtorEq, reduceLeDiff]
 refine cp n113 (split32 R[k] (by omega)) (SubL.refl _) ?_
 have hrs : rstep l R[k] = (rNums (splitL R[k] 32).tail).bind fun ns => if (ns.all fun n => decide (0 ≤ n)) = true then some (putR l ((splitL R[k] 32).headD ByteArray.empty) ns) else none := rfl
 have hWl := splitL_len R[k] 32
 have hWs : ∀ w ∈ splitL R[k] 32, w.size ≤ 900 := fun w hw => Nat.le_trans (splitL_size hw) hszk
 obtain ⟨a, W, hW⟩ := splitL_ne R[k] 32
 rw [hW] at hrs hWl hWs ⊢
 rw [List.tail_cons, List.headD_cons] at hrs
 rw [hrs] at hfail hnxt
 clear hrs hW
 have hsl := slS1 a W .unk
 rw [List.length_cons] at hWl
 have hWl2 : (a :: W).length = W.length + 1 := rfl
 rw [hWl2]
 simp only [go_sem, hsl, reduceEqDiff, Nat.reduceBEq, reduceAdd, reduceIte, reduceCtorEq, reduceLeDiff]
 refine cp n114 (rNumbers_pc W (by omega) (fun w hw => by have := hWs w (List.mem_cons_of_mem _ hw); omega)) (SubL.refl _) ?_
 unfold numsA
 cases hn : rNums W with
 | none =>
  rw [hn] at hfail
  rw [rReadA_none (hfail rfl)]
  simp only [go_sem, extractA, un_not, Bool.not_false, put_eq, Tryz.f64, reduceEqDiff, Nat.reduceBEq, reduceAdd, reduceIte, reduceCtorEq, reduceLeDiff]
  exact ⟨_, rfl, .same _⟩
 | some ns =>
  rw [hn, Option.bind_some] at hfail hnxt
  have hnl : ns.length ≤ 10000 := by
   have : ∀ {W : List ByteArray} {ns : List Int}, rNums W = some ns → ns.length = W.length := by
    intro W
    induction W with
    | nil => intro ns h; cases h; rfl
    | cons w W ih =>
     intro ns h
     unfold rNums at h
     cases g1 : rNum w with
     | none => rw [g1] at h; cases h
     | some x =>
      cases g2 : rNums W with
      | none => rw [g1, g2] at h; cases h
      | some xs => rw [g1, g2] at h; cases h; simp [ih g2]
   have := this hn
   omega
  clear hn hsl
  simp only [go_sem, extractA, un_not, Bool.not_true, reduceEqDiff, Nat.reduceBEq, reduceAdd, reduceIte, reduceCtorEq, reduceLeDiff]
  refine wc_forP ns.length (fun j => ∀ i, i < j → 0 ≤ ns.getD i 0) (fun j => [(0, .str s), (2, .ref 0 0), (4, .ref 1 0), (5, .slice (strs R) R.length .unk), (6, .int .i64 k), (7, .slice (strs (a :: W)) (W.length + 1) .unk), (8, sl ns), (10, .int .i64 j)]) (fun _ => ⟨[some (.cells [.nilS, .int .i64 0, .int .i64 0, .int .i64 0, .nilS]), some (.cells [pG l tg, .int .i64 l.least, .int .i64 l.most, .int .i64 l.taps, pC l tc])], nt, toks⟩) (fun i hi => absurd hi (Nat.not_lt_zero _)) rfl rfl ?_
  intro j hj hP I2 hI2
  by_cases h'' : j < ns.length
  ·have g1 : (j : Int) < ns.length := by omega
   have g2 : 0 ≤ (j : Int) ∧ (j : Int) < ns.length := by omega
   have g3 : ns[j]? = some (ns.getD j 0) := by rw [getD_at 0 h'', List.getElem?_eq_getElem h'']
   have g4 : IntKind.i64.wrap ((j : Int) + 1) = (j + 1 : Nat) := wrap64 (by omega)
   by_cases c : ns.getD j 0 < 0
   ·rw [if_neg (fun hh => by
     rw [List.all_eq_true] at hh
     have := hh (ns.getD j 0) (by rw [getD_at 0 h'']; exact List.getElem_mem h'')
     rw [decide_eq_true_iff] at this; omega)] at hfail
    rw [rReadA_none (hfail rfl)]
    simp only [go_sem, l64_1, builtinA, g1, decide_true, g2, ints_get, g3, Option.map_some, c, put_eq, Tryz.f64, reduceEqDiff, Nat.reduceBEq, reduceAdd, reduceIte, reduceCtorEq, reduceLeDiff]
    exact ⟨_, rfl, .same _⟩
   ·simp only [go_sem, l64_1, builtinA, g1, decide_true, decide_false, g2, ints_get, g3, Option.map_some, c, g4, reduceEqDiff, Nat.reduceBEq, reduceAdd, reduceIte, reduceCtorEq, reduceLeDiff]
    refine hI2 h'' fun i hi => ?_
    by_cases e : i = j
    ·subst e; omega
    ·exact hP i (by omega)
  have g1 : ¬ (j : Int) < ns.length := by omega
  have ej : j = ns.length := by omega
  subst ej
  clear hI2 hj h''
  have hall : (ns.all fun n => decide (0 ≤ n)) = true := by
   rw [List.all_eq_true]
   intro x hx
   obtain ⟨i, hi, rfl⟩ := List.mem_iff_getElem.1 hx
   have := hP i hi
   rw [getD_at 0 hi] at this
   exact decide_eq_true this
  rw [if_pos hall] at hnxt
  clear hfail hall hP
  simp only [go_sem, l64_1, builtinA, g1, decide_false, reduceEqDiff, Nat.reduceBEq, reduceAdd, reduceIte, reduceCtorEq, reduceLeDiff]
  clear g1
  have i0 : 0 ≤ (0 : Int) ∧ (0 : Int) < ((W.length + 1 : Nat) : Int) := by omega
  have ia : (a :: W)[0]? = some a := rfl
  have iz : ((0 : Int)).toNat = 0 := rfl
  have eqs := eqS
  unfold putR at hnxt
  have e0 : wordB 0 = { data := #[108, 105, 110, 101] } := rfl
  have e1 : wordB 1 = { data := #[115, 116, 114, 101, 116, 99, 104] } := rfl
  have e2 : wordB 2 = { data := #[99, 111, 117, 110, 116] } := rfl
  rw [e0, e1, e2] at hnxt
  clear e0 e1 e2
  have n01 : decide (({ data := #[108, 105, 110, 101] } : ByteArray) = { data := #[115, 116, 114, 101, 116, 99, 104] }) = false := by decide
  have n02 : decide (({ data := #[108, 105, 110, 101] } : ByteArray) = { data := #[99, 111, 117, 110, 116] }) = false := by decide
  have n10 : decide (({ data := #[115, 116, 114, 101, 116, 99, 104] } : ByteArray) = { data := #[108, 105, 110, 101] }) = false := by decide
  have n12 : decide (({ data := #[115, 116, 114, 101, 116, 99, 104] } : ByteArray) = { data := #[99, 111, 117, 110, 116] }) = false := by decide
  have n20 : decide (({ data := #[99, 111, 117, 110, 116] } : ByteArray) = { data := #[108, 105, 110, 101] }) = false := by decide
  have n21 : decide (({ data := #[99, 111, 117, 110, 116] } : ByteArray) = { data := #[115, 116, 114, 101, 116, 99, 104] }) = false := by decide
  by_cases t0 : a = { data := #[108, 105, 110, 101] }
  ·subst t0
   have n00 : decide (({ data := #[108, 105, 110, 101] } : ByteArray) = { data := #[108, 105, 110, 101] }) = true := by decide
   by_cases c3 : ns.length = 3
   ·rw [if_pos ⟨rfl, c3⟩] at hnxt
    match ns, c3 with
    | [x, y, z], _ =>
     simp only [List.getD_cons_zero, List.getD_cons_succ] at hnxt
     have q0 : 0 ≤ (0 : Int) ∧ (0 : Int) < ((3 : Nat) : Int) := by decide
     have q1 : 0 ≤ (1 : Int) ∧ (1 : Int) < ((3 : Nat) : Int) := by decide
     have q2 : 0 ≤ (2 : Int) ∧ (2 : Int) < ((3 : Nat) : Int) := by decide
     have c3' : decide ((((3 : Nat)) : Int) = 3) = true := rfl
     simp only [go_sem, builtinA, decide_false, decide_true, i0, iz, strs_get, ia, Option.map_some, eqs, n00, n01, n02, c3', q0, q1, q2, ints, List.map_cons, List.map_nil, List.length_cons, List.length_nil, Int.reduceToNat, put_eq, h4, reduceEqDiff, Nat.reduceBEq, reduceAdd, reduceIte, reduceCtorEq, reduceLeDiff]
     exact again_here (R.length - 2 - (k + 1)) (by omega) ⟨k + 1, _, tg, tc, nt, toks, hI.same hnxt rfl rfl, h', rfl, rfl, rfl⟩
   ·rw [if_neg (fun h => c3 h.2), if_neg (fun h => by have := h.1; revert this; decide), if_neg (fun h => by have := h.1; revert this; decide)] at hnxt
    have c3' : decide ((ns.length : Int) = 3) = false := decide_eq_false (by omega)
    simp only [go_sem, builtinA, decide_false, decide_true, i0, iz, strs_get, ia, Option.map_some, eqs, n00, n01, n02, c3', h4, reduceEqDiff, Nat.reduceBEq, reduceAdd, reduceIte, reduceCtorEq, reduceLeDiff]
    exact again_here (R.length - 2 - (k + 1)) (by omega) ⟨k + 1, _, tg, tc, nt, toks, hI.same hnxt rfl rfl, h', rfl, rfl, rfl⟩
  by_cases t1 : a = { data := #[115, 116, 114, 101, 116, 99, 104] }
  ·subst t1
   have n11 : decide (({ data := #[115, 116, 114, 101, 116, 99, 104] } : ByteArray) = { data := #[115, 116, 114, 101, 116, 99, 104] }) = true := by decide
   rw [if_neg (fun h => t0 h.1)] at hnxt
   by_cases c1 : ns.length = 1
   ·rw [if_pos ⟨rfl, c1⟩] at hnxt
    match ns, c1 with
    | [x], _ =>
     simp only [List.getD_cons_zero] at hnxt
     have q0 : 0 ≤ (0 : Int) ∧ (0 : Int) < ((1 : Nat) : Int) := by decide
     have c1' : decide ((((1 : Nat)) : Int) = 1) = true := rfl
     simp only [go_sem, builtinA, decide_false, decide_true, i0, iz, strs_get, ia, Option.map_some, eqs, n10, n11, n12, c1', q0, ints, List.map_cons, List.map_nil, List.length_cons, List.length_nil, Int.reduceToNat, reduceEqDiff, Nat.reduceBEq, reduceAdd, reduceIte, reduceCtorEq, reduceLeDiff]
     refine sr_push (t := 22) (e := 3) (ei := ti3) rfl rfl (by decide) (by decide) (l := ints l.gives) (lx := [.int .i64 x]) (n := l.gives.length) (k := tg) (by simp [ti3]) rfl rfl (by have := hI.len; omega) hI.htg rfl fun toks' hp => ?_
     simp only [go_sem, builtinA, decide_false, decide_true, i0, iz, strs_get, ia, Option.map_some, eqs, n10, n11, n12, h4, put_eq, reduceEqDiff, Nat.reduceBEq, reduceAdd, reduceIte, reduceCtorEq, reduceLeDiff]
     refine again_here (R.length - 2 - (k + 1)) (by omega) ⟨k + 1, { l with gives := l.gives ++ [x] }, nt, tc, nt + 1, toks', hI.pushG x hnxt hp, h', rfl, rfl, ?_⟩
     simp [rSt, pG, pC, ints]
   ·rw [if_neg (fun h => c1 h.2), if_neg (fun h => by have := h.1; revert this; decide)] at hnxt
    have c1' : decide ((ns.length : Int) = 1) = false := decide_eq_false (by omega)
    simp only [go_sem, builtinA, decide_false, decide_true, i0, iz, strs_get, ia, Option.map_some, eqs, n10, n11, n12, c1', h4, reduceEqDiff, Nat.reduceBEq, reduceAdd, reduceIte, reduceCtorEq, reduceLeDiff]
    exact again_here (R.length - 2 - (k + 1)) (by omega) ⟨k + 1, _, tg, tc, nt, toks, hI.same hnxt rfl rfl, h', rfl, rfl, rfl⟩
  rw [if_neg (fun h => t0 h.1), if_neg (fun h => t1 h.1)] at hnxt
  have d0 := decide_eq_false t0
  have d1 := decide_eq_false t1
  by_cases t2 : a = { data := #[99, 111, 117, 110, 116] }
  ·subst t2
   have n22 : decide (({ data := #[99, 111, 117, 110, 116] } : ByteArray) = { data := #[99, 111, 117, 110, 116] }) = true := by decide
   by_cases c3 : ns.length = 3
   ·rw [if_pos ⟨rfl, c3⟩] at hnxt
    match ns, c3 with
    | [x, y, z], _ =>
     simp only [List.getD_cons_zero, List.getD_cons_succ] at hnxt
     have q0 : 0 ≤ (0 : Int) ∧ (0 : Int) < ((3 : Nat) : Int) := by decide
     have q1 : 0 ≤ (1 : Int) ∧ (1 : Int) < ((3 : Nat) : Int) := by decide
     have q2 : 0 ≤ (2 : Int) ∧ (2 : Int) < ((3 : Nat) : Int) := by decide
     have c3' : decide ((((3 : Nat)) : Int) = 3) = true := rfl
     simp only [go_sem, builtinA, decide_false, decide_true, i0, iz, strs_get, ia, Option.map_some, eqs, n20, n21, n22, c3', q0, q1, q2, ints, List.map_cons, List.map_nil, List.length_cons, List.length_nil, Int.reduceToNat, reduceEqDiff, Nat.reduceBEq, reduceAdd, reduceIte, reduceCtorEq, reduceLeDiff]
     refine sr_push (t := 23) (e := 82) (ei := ti82) rfl rfl (by decide) (by decide) (l := cnts l.counts) (lx := [.int .i64 x, .int .i64 y, .int .i64 z]) (n := l.counts.length) (k := tc) (by simp [ti82]; omega) rfl rfl (by have := hI.len; omega) hI.htc rfl fun toks' hp => ?_
     simp only [go_sem, h4, put_eq, reduceEqDiff, Nat.reduceBEq, reduceAdd, reduceIte, reduceCtorEq, reduceLeDiff]
     refine again_here (R.length - 2 - (k + 1)) (by omega) ⟨k + 1, { l with counts := l.counts ++ [⟨x, y, z⟩] }, tg, nt, nt + 1, toks', hI.pushC ⟨x, y, z⟩ hnxt hp, h', rfl, rfl, ?_⟩
     simp [rSt, pG, pC, cnts, cntC]
   ·rw [if_neg (fun h => c3 h.2)] at hnxt
    have c3' : decide ((ns.length : Int) = 3) = false := decide_eq_false (by omega)
    simp only [go_sem, builtinA, decide_false, decide_true, i0, iz, strs_get, ia, Option.map_some, eqs, n20, n21, n22, c3', h4, reduceEqDiff, Nat.reduceBEq, reduceAdd, reduceIte, reduceCtorEq, reduceLeDiff]
    exact again_here (R.length - 2 - (k + 1)) (by omega) ⟨k + 1, _, tg, tc, nt, toks, hI.same hnxt rfl rfl, h', rfl, rfl, rfl⟩
  rw [if_neg (fun h => t2 h.1)] at hnxt
  have d2 := decide_eq_false t2
  simp only [go_sem, builtinA, decide_false, decide_true, i0, iz, strs_get, ia, Option.map_some, eqs, d0, d1, d2, h4, reduceEqDiff, Nat.reduceBEq, reduceAdd, reduceIte, reduceCtorEq, reduceLeDiff]
  exact again_here (R.length - 2 - (k + 1)) (by omega) ⟨k + 1, _, tg, tc, nt, toks, hI.same hnxt rfl rfl, h', rfl, rfl, rfl⟩
end Go.Av.Fx
end

/- Part 17 of the proof. -/
import Derived.Test.YtlagjjpbknpdkaaGreatDoorVo16
set_option linter.all false
set_option linter.unusedVariables false
set_option linter.unusedSimpArgs false
set_option linter.unusedSectionVars false
open Nat (reduceEqDiff reduceAdd reduceLeDiff)
section
namespace Go.Av.Fx
open Go Go.Av Go.Av.Tb Go.Proofs
open Go.Fw (Sq ent Bd Mat)
def gro (l : List AV) : AV := match l with
 | [] => .nilS
 | a :: l => .slice (a :: l) (l.length + 1) (.tok l.length)
@[go_sem] theorem gro_one (l : List AV) : AV.one (gro l) = true := by cases l <;> rfl
theorem gro_frz (h : List (Option Blk)) (l l' : List AV) (hl : l.length = l'.length) (hf : ∀ (j : Nat) (x y : AV), l[j]? = some x → l'[j]? = some y → Frz h x y) : Frz h (gro l) (.slice l' l'.length .unk) := by
 cases l with
 | nil => cases l' with
  | nil => exact .nil
  | cons a l' => cases hl
 | cons a l =>
  have e : (a :: l).length = l'.length := hl
  rw [← e]
  exact .slice _ _ _ _ hl hf
theorem gro_frz_same (h : List (Option Blk)) (l : List AV) : Frz h (gro l) (.slice l l.length .unk) :=
 gro_frz h l l rfl fun j x y hx hy => by rw [hx] at hy; cases hy; exact .same _
theorem gro_bnd {n : Nat} {l : List AV} (h : bndL n l.length l = true) : (gro l).bnd n l.length = true := by
 cases l with
 | nil => rfl
 | cons a l =>
  simp only [List.length_cons] at h
  simp only [gro, AV.bnd, List.length_cons, h, Bool.true_and]; simp
theorem gro_app (T : Tab) (t e : TypeId) (ei : TI) (h1 : descOf T t = some (.slice e)) (h2 : T e = some ei) (h3 : ei.size = 1) (h4 : ei.bytes ≤ 100) (l : List AV) (x : AV) (tx : Tail) (hx : AV.one x = true) (hn : appendA T ⟨[], 0, []⟩ t .nilS (.slice [x] 1 tx) = some (.tok none fun j => .slice [x] 1 (.tok j)))
  (hl : l.length ≤ 100000) {K : AV → St → Prop} {hK : Hold K} {h : List (Option Blk)} (hnil : ∀ S : St, appendA T S t .nilS (.slice [x] 1 tx) = some (.tok none fun j => .slice [x] 1 (.tok j))) (next : K (gro (l ++ [x])) ⟨h, l.length + 1, toksN (l.length + 1)⟩) : sr K hK (appendA T ⟨h, l.length, toksN l.length⟩ t (gro l) (.slice [x] 1 tx)) ⟨h, l.length, toksN l.length⟩ := by
 cases l with
 | nil =>
  show sr K hK (appendA T ⟨h, 0, []⟩ t .nilS (.slice [x] 1 tx)) _
  rw [hnil, sr_tok]; exact next
 | cons a l =>
  show sr K hK (appendA T ⟨h, (a :: l).length, toksN (a :: l).length⟩ t (.slice (a :: l) (l.length + 1) (.tok l.length)) _) _
  simp only [List.length_cons] at hl
  have hh : heldA ⟨h, (a :: l).length, toksN (a :: l).length⟩ ei.size (.slice [x] 1 tx) = some ([x], 1) := by rw [h3]; rfl
  rw [app_gen (e := e) (ei := ei) (lx := [x]) (nx := 1) h1 h2 (by rw [h3]; decide) hh (by decide) (by simp only [List.all_cons, List.all_nil, hx, Bool.and_true]) (by
   have : (l.length + 1 + 1) * ei.bytes ≤ (l.length + 1 + 1) * 100 := Nat.mul_le_mul_left _ h4
   omega) (by omega) (by rw [h3]; simp)]
  rw [sr_tok_some]
  refine ⟨List.mem_cons_self, ?_⟩
  have : killTok (toksN (l.length + 1)) (some l.length) = [] := by simp [killTok, toksN]
  show K (.slice (a :: l ++ [x]) (l.length + 1 + 1) (.tok (l.length + 1))) ⟨h, l.length + 1 + 1, (l.length + 1) :: killTok (toksN (l.length + 1)) (some l.length)⟩
  rw [this]
  have e : gro (a :: l ++ [x]) = .slice (a :: l ++ [x]) (l.length + 1 + 1) (.tok (l.length + 1)) := by simp [gro]
  rw [← e]; exact next
theorem toksN_lt {t n : Nat} (h : t ∈ toksN n) : t < n := by
 cases n with
 | zero => cases h
 | succ n => simp [toksN] at h; omega
theorem sr_gro22 (l : List AV) (n : Int) (tx : Tail) {q : Nat} (hq : l.length = q) (hl : q ≤ 100000) {K : AV → St → Prop} {hK : Hold K} {h : List (Option Blk)} (next : K (gro (l ++ [.int .i64 n])) ⟨h, q + 1, toksN (q + 1)⟩) : sr K hK (appendA T ⟨h, q, toksN q⟩ 22 (gro l) (.slice [.int .i64 n] 1 tx)) ⟨h, q, toksN q⟩ := by
 subst hq; exact gro_app T 22 3 ti3 rfl rfl rfl (by decide) l _ tx rfl rfl hl (fun S => rfl) next
theorem sr_gro28 (l : List AV) (n : Int) (tx : Tail) {q : Nat} (hq : l.length = q) (hl : q ≤ 100000) {K : AV → St → Prop} {hK : Hold K} {h : List (Option Blk)} (next : K (gro (l ++ [.int .i64 n])) ⟨h, q + 1, toksN (q + 1)⟩) : sr K hK (appendA T ⟨h, q, toksN q⟩ 28 (gro l) (.slice [.int .i64 n] 1 tx)) ⟨h, q, toksN q⟩ := by
 subst hq; exact gro_app T 28 48 ti48 rfl rfl rfl (by decide) l _ tx rfl rfl hl (fun S => rfl) next
theorem sr_gro32 (l : List AV) (s : List AV) (n : Nat) (t tx : Tail) {q : Nat} (hq : l.length = q) (hl : q ≤ 100000) {K : AV → St → Prop} {hK : Hold K} {h : List (Option Blk)} (next : K (gro (l ++ [.slice s n t])) ⟨h, q + 1, toksN (q + 1)⟩) : sr K hK (appendA T ⟨h, q, toksN q⟩ 32 (gro l) (.slice [.slice s n t] 1 tx)) ⟨h, q, toksN q⟩ := by
 subst hq; exact gro_app T 32 22 ti22 rfl rfl rfl (by decide) l _ tx rfl rfl hl (fun S => rfl) next
theorem setsL_len5 {m : Nat} (h : m ≤ 5) : (setsL m).length ≤ 100 := by
 have h4 : ∀ m, m ≤ 5 → (setsL m).length ≤ 100 := by decide
 exact h4 _ h
theorem theftsL_len {l : LLine} (h : Ln l) : (theftsL l).length ≤ 100 := by
 have h1 : ∀ (p : List (List Int)) (L : List Theft), (p.foldl (addT l) L).length ≤ L.length + p.length := by
  intro p
  induction p with
  | nil => intro L; simp
  | cons s p ih => intro L; have := ih (addT l L s); have := addT_len l L s; simp only [List.foldl_cons, List.length_cons]; omega
 have := h1 (setsL l.gives.length) []
 have := setsL_len5 h.pts.2
 unfold theftsL; simp at *; omega
def setsOut (l : LLine) : List (List Int) := (theftsL l).map (·.1)
def setsA (l : LLine) : AV := if askE l true = 0 then .tuple [.slice ((setsOut l).map sl) (setsOut l).length .unk, .int .i64 0] else .tuple [.nilS, .int .i64 (askE l true)]
theorem Sets_pc (l : LLine) (ok : okLine l) : PC Tryz.prog 22 [lineA l] (.pure (setsA l)) := by
 refine PC.of_frz (AC.run (E_ok _) mix Tryz.func22 m22 rfl rfl rfl (Nat.le_of_ble_eq_true rfl) ?_) (by simp [bndL, AV.bnd]) (by unfold setsA; split <;> simp [bndL, AV.bnd])
 simp only [go_sem, boxA, reduceEqDiff, Nat.reduceBEq, reduceAdd, reduceIte, reduceCtorEq, reduceLeDiff]
 refine cp n75 (asked_pc l ok true) (SubL.refl _) ?_
 cases h : isLineB l
 ·simp only [go_sem, askedA, h, extractA, Tryz.f22, reduceEqDiff, Nat.reduceBEq, reduceAdd, reduceIte, reduceCtorEq, reduceLeDiff]
  refine ⟨_, rfl, ?_⟩
  simp only [setsA, askE, h]; exact .same _
 cases hp : possB l
 ·simp only [go_sem, askedA, h, hp, extractA, Tryz.f22, reduceEqDiff, Nat.reduceBEq, reduceAdd, reduceIte, reduceCtorEq, reduceLeDiff]
  refine ⟨_, rfl, ?_⟩
  simp only [setsA, askE, h, hp]; exact .same _
 have hlen := theftsL_len (isLine_iff.1 h)
 have e1 : setsA l = .tuple [.slice ((setsOut l).map sl) (setsOut l).length .unk, .int .i64 0] := by simp only [setsA, askE, h, hp]; rfl
 rw [e1]
 unfold setsOut
 simp only [go_sem, askedA, h, hp, extractA, builtinA, reduceEqDiff, Nat.reduceBEq, reduceAdd, reduceIte, reduceCtorEq, reduceLeDiff]
 generalize theftsL l = L at *
 refine wc_forG L.length (fun k => [(6, gro ((L.take k).map fun t => sl t.1)), (18, .slice (thefts L) L.length .unk), (19, .int .i64 L.length), (20, .int .i64 k)])
  (fun k => ⟨[some (.cells (lineC l)), some (.cells (lnC l L))], k, toksN k⟩) rfl rfl (fun k hk => ?_) ?_
 ·have e : ((L.take k).map fun t => sl t.1).length = k := by simp; omega
  have e2 := gro_bnd (n := 2) (l := (L.take k).map fun t => sl t.1) (bndL_map _ (fun _ => by simp [AV.bnd]) _)
  rw [e] at e2
  refine ⟨Nat.zero_le _, Nat.zero_le _, by show (AV.bnd 2 k (gro ((L.take k).map fun t => sl t.1)) && bndTS 2 k _) = true; rw [e2]; simp [bndTS, AV.bnd], fun i B hB => ?_, fun t ht => toksN_lt ht⟩
  match i, hB with
  | 0, hB => simp at hB; subst hB; simp [Blk.bnd, bndL, AV.bnd]
  | 1, hB => simp at hB; subst hB; simp [Blk.bnd, bndL, AV.bnd]
  | i + 2, hB => simp at hB
 intro k hk I hI
 by_cases h' : k < L.length
 ·have h1 : (k : Int) < L.length := by omega
  have h2 : 0 ≤ (k : Int) ∧ (k : Int) < L.length := by omega
  have h3 : k * 2 + 2 ≤ (thefts L).length := by rw [thefts_len]; omega
  have h5 := thefts_at L k h'
  have h6 : IntKind.i64.wrap ((k : Int) + 1) = (k + 1 : Nat) := wrap64 (by omega)
  simp only [go_sem, l22_0, h1, decide_true, h2, h3, h5, builtinA, reduceEqDiff, Nat.reduceBEq, reduceAdd, reduceIte, reduceCtorEq, reduceLeDiff]
  refine sr_gro32 _ _ _ _ _ (by simp; omega) (by omega) ?_
  simp only [go_sem, h6, reduceEqDiff, Nat.reduceBEq, reduceAdd, reduceIte, reduceCtorEq, reduceLeDiff]
  have hI' := hI h' [some (.cells [sl L[k].1, wS L[k].2])]
  rw [List.take_succ_eq_append_getElem h', List.map_append] at hI'
  exact hI'
 ·have h1 : ¬ (k : Int) < L.length := by omega
  simp only [go_sem, l22_0, h1, decide_false, Tryz.f22, reduceEqDiff, Nat.reduceBEq, reduceAdd, reduceIte, reduceCtorEq, reduceLeDiff]
  rw [List.take_of_length_le (by omega)]
  refine ⟨_, rfl, .tuple _ _ rfl fun j x y hx hy => ?_⟩
  match j, hx, hy with
  | 0, hx, hy =>
   simp only [List.getElem?_cons_zero, Option.some.injEq] at hx hy; subst hx; subst hy
   rw [List.map_map, List.length_map]
   have := gro_frz_same [some (Blk.cells (lineC l)), some (Blk.cells (lnC l L))] (L.map fun t => sl t.1)
   rw [List.length_map] at this
   exact this
  | 1, hx, hy => simp at hx hy; subst hx; subst hy; exact .same _
  | j + 2, hx, hy => simp at hx
def manyT (L : List Theft) (i : Nat) : Nat := L.foldl (fun n t => if t.1.contains (i : Int) = true then n + 1 else n) 0
def wordT (L : List Theft) (i : Nat) : Int := if manyT L i = 0 then 1 else if manyT L i = L.length then 3 else 2
def wordsT (L : List Theft) (m : Nat) : List Int := (List.range m).map (wordT L)
def knownA (l : LLine) : AV := if askE l true = 0 then .tuple [.slice (ints (wordsT (theftsL l) l.gives.length)) l.gives.length .unk, .int .i64 0] else .tuple [.nilS, .int .i64 (askE l true)]
theorem manyT_le (L : List Theft) (i : Nat) : manyT L i ≤ L.length := by
 have : ∀ (L : List Theft) (z : Nat), L.foldl (fun n t => if t.1.contains (i : Int) = true then n + 1 else n) z ≤ z + L.length := by
  intro L
  induction L with
  | nil => intro z; simp
  | cons t L ih =>
   intro z
   simp only [List.foldl_cons, List.length_cons]
   split
   ·have := ih (z + 1); omega
   ·have := ih z; omega
 have := this L 0
 unfold manyT; omega
theorem theft_len {l : LLine} {t : Theft} (h : t ∈ theftsL l) : t.1.length ≤ 2 := by
 have : ∀ (p : List (List Int)) (L : List Theft), (∀ s ∈ p, s.length ≤ 2) → (∀ t ∈ L, t.1.length ≤ 2) → ∀ t ∈ p.foldl (addT l) L, t.1.length ≤ 2 := by
  intro p
  induction p with
  | nil => intro L _ h t ht; exact h t ht
  | cons s p ih =>
   intro L hp hL
   refine ih _ (fun s hs => hp s (List.mem_cons_of_mem _ hs)) fun t ht => ?_
   unfold addT at ht
   split at ht
   ·rcases List.mem_append.1 ht with h | h
    ·exact hL t h
    ·simp at h; subst h; exact hp s List.mem_cons_self
   ·exact hL t ht
 exact this _ [] (fun s hs => setsL_len hs) (fun t ht => by cases ht) t h
theorem Known_pc (l : LLine) (ok : okLine l) : PC Tryz.prog 21 [lineA l] (.pure (knownA l)) := by
 refine PC.of_frz (AC.run (E_ok _) mix Tryz.func21 m21 rfl rfl rfl (Nat.le_of_ble_eq_true rfl) ?_) (by simp [bndL, AV.bnd]) (by unfold knownA; split <;> simp [bndL, AV.bnd])
 simp only [go_sem, boxA, reduceEqDiff, Nat.reduceBEq, reduceAdd, reduceIte, reduceCtorEq, reduceLeDiff]
 refine cp n75 (asked_pc l ok true) (SubL.refl _) ?_
 cases h : isLineB l
 ·simp only [go_sem, askedA, h, extractA, Tryz.f21, reduceEqDiff, Nat.reduceBEq, reduceAdd, reduceIte, reduceCtorEq, reduceLeDiff]
  refine ⟨_, rfl, ?_⟩
  simp only [knownA, askE, h]; exact .same _
 cases hp : possB l
 ·simp only [go_sem, askedA, h, hp, extractA, Tryz.f21, reduceEqDiff, Nat.reduceBEq, reduceAdd, reduceIte, reduceCtorEq, reduceLeDiff]
  refine ⟨_, rfl, ?_⟩
  simp only [knownA, askE, h, hp]; exact .same _
 have hln := isLine_iff.1 h
 have hlen := theftsL_len hln
 have hpts := hln.pts
 have htl : ∀ t ∈ theftsL l, t.1.length ≤ 2 := fun t ht => theft_len ht
 have e1 : knownA l = .tuple [.slice (ints (wordsT (theftsL l) l.gives.length)) l.gives.length .unk, .int .i64 0] := by simp only [knownA, askE, h, hp]; rfl
 rw [e1]
 simp only [go_sem, askedA, h, hp, extractA, builtinA, reduceEqDiff, Nat.reduceBEq, reduceAdd, reduceIte, reduceCtorEq, reduceLeDiff]
 generalize theftsL l = L at *
 refine wc_forG l.gives.length (fun k => [(4, .ref 1 0), (6, gro (ints (wordsT L k))), (22, .int .i64 l.gives.length), (23, .int .i64 k)])
  (fun k => ⟨[some (.cells (lineC l)), some (.cells (lnC l L))], k, toksN k⟩) rfl rfl (fun k hk => ?_) ?_
 ·have e : (ints (wordsT L k)).length = k := by simp [wordsT]
  have e2 := gro_bnd (n := 2) (l := ints (wordsT L k)) (by simp)
  rw [e] at e2
  refine ⟨Nat.zero_le _, Nat.zero_le _, by simp [bndTS, AV.bnd, e2], fun i B hB => ?_, fun t ht => toksN_lt ht⟩
  match i, hB with
  | 0, hB => simp at hB; subst hB; simp [Blk.bnd, bndL, AV.bnd]
  | 1, hB => simp at hB; subst hB; simp [Blk.bnd, bndL, AV.bnd]
  | i + 2, hB => simp at hB
 intro k hk I hI
 by_cases h' : k < l.gives.length
 ·have h1 : (k : Int) < l.gives.length := by omega
  have h6 : IntKind.i64.wrap ((k : Int) + 1) = (k + 1 : Nat) := wrap64 (by omega)
  simp only [go_sem, l21_0, h1, decide_true, builtinA, reduceEqDiff, Nat.reduceBEq, reduceAdd, reduceIte, reduceCtorEq, reduceLeDiff]
  refine wc_forG L.length (fun j => [(4, .ref 1 0), (6, gro (ints (wordsT L k))), (22, .int .i64 l.gives.length), (23, .int .i64 k), (7, .int .i64 k), (8, .int .i64 (manyT (L.take j) k)), (27, .slice (thefts L) L.length .unk), (28, .int .i64 L.length), (29, .int .i64 j)])
   (fun j => ⟨[some (.cells (lineC l)), some (.cells (lnC l L))], k, toksN k⟩) rfl rfl (fun j hj => ?_) ?_
  ·have e : (ints (wordsT L k)).length = k := by simp [wordsT]
   have e2 := gro_bnd (n := 2) (l := ints (wordsT L k)) (by simp)
   rw [e] at e2
   refine ⟨Nat.zero_le _, Nat.zero_le _, by simp [bndTS, AV.bnd, e2], fun i B hB => ?_, fun t ht => toksN_lt ht⟩
   match i, hB with
   | 0, hB => simp at hB; subst hB; simp [Blk.bnd, bndL, AV.bnd]
   | 1, hB => simp at hB; subst hB; simp [Blk.bnd, bndL, AV.bnd]
   | i + 2, hB => simp at hB
  intro j hj I2 hI2
  by_cases hj' : j < L.length
  ·have h2 : (j : Int) < L.length := by omega
   have h3 : 0 ≤ (j : Int) ∧ (j : Int) < L.length := by omega
   have h4 : j * 2 + 2 ≤ (thefts L).length := by rw [thefts_len]; omega
   have h5 := thefts_at L j hj'
   have h7 : IntKind.i64.wrap ((j : Int) + 1) = (j + 1 : Nat) := wrap64 (by omega)
   have hmany := manyT_le (L.take j) k
   rw [List.length_take] at hmany
   have h8 : IntKind.i64.wrap ((manyT (L.take j) k : Int) + 1) = (manyT (L.take j) k + 1 : Nat) := wrap64 (by omega)
   have hI2' := hI2 hj' [some (.cells [sl L[j].1, wS L[j].2])]
   have em : manyT (L.take (j + 1)) k = if L[j].1.contains (k : Int) = true then manyT (L.take j) k + 1 else manyT (L.take j) k := by
    unfold manyT; rw [foldl_take _ _ _ _ hj']
   rw [em] at hI2'
   simp only [go_sem, l21_1, h2, decide_true, h3, h4, h5, reduceEqDiff, Nat.reduceBEq, reduceAdd, reduceIte, reduceCtorEq, reduceLeDiff]
   refine cp n76 (contains_pc L[j].1 (by have := htl _ (List.getElem_mem hj'); show _ < _; omega) k) (SubL.refl _) ?_
   cases hc : L[j].1.contains (k : Int)
   ·rw [hc, if_neg (by decide)] at hI2'
    simp only [go_sem, hc, h7, reduceEqDiff, Nat.reduceBEq, reduceAdd, reduceIte, reduceCtorEq, reduceLeDiff]
    exact hI2'
   ·rw [hc, if_pos rfl] at hI2'
    simp only [go_sem, hc, h7, h8, reduceEqDiff, Nat.reduceBEq, reduceAdd, reduceIte, reduceCtorEq, reduceLeDiff]
    exact hI2'
  ·have h2 : ¬ (j : Int) < L.length := by omega
   rw [List.take_of_length_le (by omega)]
   have hI' := hI h'
   have ew : wordsT L (k + 1) = wordsT L k ++ [wordT L k] := by unfold wordsT; rw [List.range_succ, List.map_append]; rfl
   rw [ew] at hI'
   have hle := manyT_le L k
   have elen : (ints (wordsT L k)).length = k := by simp [wordsT]
   have eapp : ∀ x, ints (wordsT L k) ++ [.int .i64 x] = ints (wordsT L k ++ [x]) := fun x => by simp [ints]
   by_cases m0 : manyT L k = 0
   ·have d0 : decide ((manyT L k : Int) = 0) = true := by rw [m0]; rfl
    have hw : wordT L k = 1 := by unfold wordT; rw [if_pos m0]
    rw [hw] at hI'
    simp only [go_sem, l21_1, h2, decide_false, d0, reduceEqDiff, Nat.reduceBEq, reduceAdd, reduceIte, reduceCtorEq, reduceLeDiff]
    refine sr_gro28 (ints (wordsT L k)) 1 .exact elen (by omega) ?_
    simp only [go_sem, h6, reduceEqDiff, Nat.reduceBEq, reduceAdd, reduceIte, reduceCtorEq, reduceLeDiff]
    rw [eapp]
    have := hI' []
    rw [List.append_nil] at this
    exact this
   ·have d0 : decide ((manyT L k : Int) = 0) = false := by rw [decide_eq_false_iff_not]; omega
    by_cases m1 : manyT L k = L.length
    ·have d1 : decide ((manyT L k : Int) = L.length) = true := by rw [m1]; simp
     have hw : wordT L k = 3 := by unfold wordT; rw [if_neg m0, if_pos m1]
     rw [hw] at hI'
     simp only [go_sem, l21_1, h2, decide_false, d0, d1, builtinA, reduceEqDiff, Nat.reduceBEq, reduceAdd, reduceIte, reduceCtorEq, reduceLeDiff]
     refine sr_gro28 (ints (wordsT L k)) 3 .exact elen (by omega) ?_
     simp only [go_sem, h6, reduceEqDiff, Nat.reduceBEq, reduceAdd, reduceIte, reduceCtorEq, reduceLeDiff]
     rw [eapp]
     have := hI' []
     rw [List.append_nil] at this
     exact this
    ·have d1 : decide ((manyT L k : Int) = L.length) = false := by rw [decide_eq_false_iff_not]; omega
     have hw : wordT L k = 2 := by unfold wordT; rw [if_neg m0, if_neg m1]
     rw [hw] at hI'
     simp only [go_sem, l21_1, h2, decide_false, d0, d1, builtinA, reduceEqDiff, Nat.reduceBEq, reduceAdd, reduceIte, reduceCtorEq, reduceLeDiff]
     refine sr_gro28 (ints (wordsT L k)) 2 .exact elen (by omega) ?_
     simp only [go_sem, h6, reduceEqDiff, Nat.reduceBEq, reduceAdd, reduceIte, reduceCtorEq, reduceLeDiff]
     rw [eapp]
     have := hI' []
     rw [List.append_nil] at this
     exact this
 ·have h1 : ¬ (k : Int) < l.gives.length := by omega
  simp only [go_sem, l21_0, h1, decide_false, Tryz.f21, reduceEqDiff, Nat.reduceBEq, reduceAdd, reduceIte, reduceCtorEq, reduceLeDiff]
  refine ⟨_, rfl, .tuple _ _ rfl fun j x y hx hy => ?_⟩
  match j, hx, hy with
  | 0, hx, hy =>
   simp only [List.getElem?_cons_zero, Option.some.injEq] at hx hy; subst hx; subst hy
   have := gro_frz_same [some (Blk.cells (lineC l)), some (Blk.cells (lnC l L))] (ints (wordsT L k))
   have e : k = l.gives.length := by omega
   subst e
   rw [show (ints (wordsT L l.gives.length)).length = l.gives.length by simp [wordsT]] at this
   exact this
  | 1, hx, hy => simp at hx hy; subst hx; subst hy; exact .same _
  | j + 2, hx, hy => simp at hx
end Go.Av.Fx
end
section
namespace Go.Av.Fx
open Go Go.Av Go.Av.Tb Go.Proofs
open Go.Fw (Sq ent Bd Mat)
@[go_sem] theorem y_guard_c {E : Env} {K : TS → St → Prop} {n : Nat} {rest : List MO} {b : St} {ts : TS} {S : St} (t : Nat) (g : Bool) (d : Option Nat) (o : Op) (f : Bool) (hs : List Bool) :
  preM E K (n + 1) (⟨some (t, g), d, o⟩ :: rest) (f :: hs) b ts S = sg (preM E K (n + 1) (⟨none, d, o⟩ :: rest) (f :: hs) b ts S) (preM E K n rest hs b (setT ts d .undef) S) ⟨⟩ ⟨⟩ g (ts.get t) := by
 simp only [preM, guardM, sg]
 cases ts.get t with
 | none => rfl
 | some v => cases v with
  | bool x => cases x <;> cases g <;> rfl
  | _ => rfl
theorem Lnt.funcL {h : List (Option Blk)} {fn : Fn} {c c' : List AV} (hc : LntL h c c') : Lnt h (.func fn [] c) (.func fn [] c') :=
 .func fn [] c [] c' rfl (fun j x y e => by simp at e) hc.1 hc.2
theorem closeC_sq {n : Nat} {cs : List Bd} {W : Mat} (h : closeC n cs = some W) : Sq n W := by
 unfold closeC Fw.closed at h
 split at h
 ·simp only [Option.some.injEq] at h; subst h
  have : ∀ (cs : List Bd) (W : Mat), Sq n W → Sq n (cs.foldl Fw.addc W) := by
   intro cs
   induction cs with
   | nil => exact fun W h => h
   | cons c cs ih => exact fun W h => ih _ (h.put _ _ _)
  exact (this cs _ (sq_mat0 n)).upto _ _ _
 ·cases h
theorem explM_sq {l : LLine} {s : List Int} {W : Mat} (h : explM l s = some W) : Sq (l.gives.length + 2) W := by
 unfold explM at h
 split at h
 ·cases h
 ·exact closeC_sq h
theorem thefts_ind {l : LLine} (P : List Int → Mat → Prop) (h : ∀ s W, s ∈ setsL l.gives.length → explM l s = some W → P s W) : ∀ t ∈ theftsL l, P t.1 t.2 := by
 have : ∀ (p : List (List Int)) (L : List Theft), (∀ s ∈ p, s ∈ setsL l.gives.length) → (∀ t ∈ L, P t.1 t.2) → ∀ t ∈ p.foldl (addT l) L, P t.1 t.2 := by
  intro p
  induction p with
  | nil => intro L _ h t ht; exact h t ht
  | cons s p ih =>
   intro L hp hL
   refine ih _ (fun s hs => hp s (List.mem_cons_of_mem _ hs)) fun t ht => ?_
   unfold addT at ht
   split at ht
   ·rename_i W hW
    rcases List.mem_append.1 ht with h' | h'
    ·exact hL t h'
    ·simp at h'; subst h'; exact h s W (hp s List.mem_cons_self) hW
   ·exact hL t ht
 exact this _ [] (fun s hs => hs) (fun t ht => by cases ht)
theorem theft_sq {l : LLine} : ∀ t ∈ theftsL l, Sq (l.gives.length + 2) t.2 := thefts_ind (fun _ W => Sq (l.gives.length + 2) W) fun s W _ h => explM_sq h
theorem Flows1_pc (l : LLine) (hl : l.gives.length ≤ 1000) (p : Nat) (hp : p ≤ l.gives.length) (t : Theft) (ht : Sq (l.gives.length + 2) t.2) :
  PC Tryz.prog 88 [.agg (thC t), .eptr (lineC l) 0, .eptr [.int .i64 p] 0] (.pure (spA (spanM t.2 (l.gives.length + 1) p))) := by
 refine PC.of_empty (AC.run (E_ok _) mix Tryz.func88 m88 rfl rfl rfl (Nat.le_of_ble_eq_true rfl) ?_) (by simp [bndL, AV.bnd]) rfl
 have e1 : IntKind.i64.wrap ((l.gives.length : Int) + 1) = (l.gives.length + 1 : Nat) := wrap64 (by omega)
 simp only [go_sem, boxA, builtinA, e1, reduceEqDiff, Nat.reduceBEq, reduceAdd, reduceIte, reduceCtorEq, reduceLeDiff]
 refine cp n89 (span_pc ht (by omega) (by omega)) (SubL.refl _) ?_
 simp only [go_sem, Tryz.f88, reduceEqDiff, Nat.reduceBEq, reduceAdd, reduceIte, reduceCtorEq, reduceLeDiff]
def flowsS (l : LLine) (p : Nat) : Span := overS (theftsL l) fun t => spanM t.2 (l.gives.length + 1) p
def flowsA (l : LLine) (p : Int) : AV := if askE l (inB p 0 l.gives.length) = 0 then .tuple [spA (flowsS l p.toNat), .int .i64 0] else .tuple [spA ⟨0, 0⟩, .int .i64 (askE l (inB p 0 l.gives.length))]
theorem Flows_pc (l : LLine) (ok : okLine l) (p : Int) : PC Tryz.prog 34 [lineA l, .int .i64 p] (.pure (flowsA l p)) := by
 refine PC.of_empty (AC.run (E_ok _) mix Tryz.func34 m34 rfl rfl rfl (Nat.le_of_ble_eq_true rfl) ?_) (by simp [bndL, AV.bnd]) (by unfold flowsA; split <;> simp [bndL, AV.bnd])
 simp only [go_sem, boxA, reduceEqDiff, Nat.reduceBEq, reduceAdd, reduceIte, reduceCtorEq, reduceLeDiff]
 refine qp n86 (isPoint_pc l p) (SubL.refl _) ?_
 rw [show (decide (p ≥ 0) && decide (p ≤ (l.gives.length : Int))) = inB p 0 l.gives.length from rfl]
 generalize hf : inB p 0 l.gives.length = fine
 simp only [go_sem, reduceEqDiff, Nat.reduceBEq, reduceAdd, reduceIte, reduceCtorEq, reduceLeDiff]
 refine qp n75 (asked_pc l ok fine) (SubL.refl _) ?_
 have ee : askE l fine = askE l (inB p 0 l.gives.length) := by rw [hf]
 cases h : isLineB l
 ·simp only [go_sem, askedA, h, extractA, Tryz.f34, reduceEqDiff, Nat.reduceBEq, reduceAdd, reduceIte, reduceCtorEq, reduceLeDiff]
  simp only [flowsA, askE, h]; rfl
 cases fine
 ·simp only [go_sem, askedA, h, extractA, Tryz.f34, reduceEqDiff, Nat.reduceBEq, reduceAdd, reduceIte, reduceCtorEq, reduceLeDiff]
  simp only [flowsA, askE, h, hf]; rfl
 cases hp : possB l
 ·simp only [go_sem, askedA, h, hp, extractA, Tryz.f34, reduceEqDiff, Nat.reduceBEq, reduceAdd, reduceIte, reduceCtorEq, reduceLeDiff]
  simp only [flowsA, askE, h, hf, hp]; rfl
 have hln := isLine_iff.1 h
 have hpts := hln.pts
 have hpp := inB_iff.1 hf
 obtain ⟨q, rfl⟩ : ∃ q : Nat, p = q := ⟨p.toNat, by omega⟩
 have e1 : flowsA l q = .tuple [spA (flowsS l q), .int .i64 0] := by simp only [flowsA, askE, h, hp, hf]; rfl
 rw [e1]
 simp only [go_sem, askedA, h, hp, extractA, reduceEqDiff, Nat.reduceBEq, reduceAdd, reduceIte, reduceCtorEq, reduceLeDiff]
 have hne : 0 < (theftsL l).length := by unfold possB at hp; simpa using hp
 refine cl n87 (over_pc l (theftsL l) (by have := theftsL_len hln; omega) hne 88 n88 [.eptr (lineC l) 0, .eptr [.int .i64 q] 0] (by simp [bndL, AV.bnd]) (fun t => spanM t.2 (l.gives.length + 1) q) (fun t ht => Flows1_pc l (by omega) q (by omega) t (theft_sq t ht)))
  (LntL.cons (.same _ (by simp [bndL, AV.bnd])) (LntL.cons (Lnt.funcL (LntL.cons (.ptr 0 0 _ rfl (by simp [bndL, AV.bnd])) (LntL.cons (.ptr 1 0 _ rfl (by simp [bndL, AV.bnd])) (LntL.nil _)))) (LntL.nil _))) rfl ?_
 simp only [go_sem, Tryz.f34, reduceEqDiff, Nat.reduceBEq, reduceAdd, reduceIte, reduceCtorEq, reduceLeDiff]
 rfl
theorem Lost1_pc (l : LLine) (hl : l.gives.length ≤ 1000) (a b : Nat) (hab : a ≤ b) (hb : b ≤ l.gives.length) (t : Theft) (ht : Sq (l.gives.length + 2) t.2) :
  PC Tryz.prog 90 [.agg (thC t), .eptr (lineC l) 0, .eptr [.int .i64 a] 0, .eptr [.int .i64 b] 0] (.pure (spA (lostS l t.2 a b))) := by
 refine PC.of_empty (AC.run (E_ok _) mix Tryz.func90 m90 rfl rfl rfl (Nat.le_of_ble_eq_true rfl) ?_) (by simp [bndL, AV.bnd]) rfl
 simp only [go_sem, boxA, reduceEqDiff, Nat.reduceBEq, reduceAdd, reduceIte, reduceCtorEq, reduceLeDiff]
 refine cp n85 (lost_pc ht t.1 l hl (by omega) (by omega) hab hb) (SubL.refl _) ?_
 simp only [go_sem, Tryz.f90, reduceEqDiff, Nat.reduceBEq, reduceAdd, reduceIte, reduceCtorEq, reduceLeDiff]
def lostAll (l : LLine) (a b : Nat) : Span := overS (theftsL l) fun t => lostS l t.2 a b
def fineLost (l : LLine) (a b : Int) : Bool := inB a 0 l.gives.length && inB b 0 l.gives.length && decide (a ≤ b)
def lostA (l : LLine) (a b : Int) : AV := if askE l (fineLost l a b) = 0 then .tuple [spA (lostAll l a.toNat b.toNat), .int .i64 0] else .tuple [spA ⟨0, 0⟩, .int .i64 (askE l (fineLost l a b))]
theorem Lost_pc (l : LLine) (ok : okLine l) (a b : Int) : PC Tryz.prog 35 [lineA l, .int .i64 a, .int .i64 b] (.pure (lostA l a b)) := by
 refine PC.of_empty (AC.run (E_ok _) mix Tryz.func35 m35 rfl rfl rfl (Nat.le_of_ble_eq_true rfl) ?_) (by simp [bndL, AV.bnd]) (by unfold lostA; split <;> simp [bndL, AV.bnd])
 simp only [go_sem, boxA, reduceEqDiff, Nat.reduceBEq, reduceAdd, reduceIte, reduceCtorEq, reduceLeDiff]
 refine qp n86 (isPoint_pc l a) (SubL.refl _) ?_
 rw [show (decide (a ≥ 0) && decide (a ≤ (l.gives.length : Int))) = inB a 0 l.gives.length from rfl]
 cases ha : inB a 0 l.gives.length
 ·have hf : fineLost l a b = false := by unfold fineLost; rw [ha]; rfl
  simp only [go_sem, reduceEqDiff, Nat.reduceBEq, reduceAdd, reduceIte, reduceCtorEq, reduceLeDiff]
  refine qp n75 (asked_pc l ok false) (SubL.refl _) ?_
  cases h : isLineB l
  ·simp only [go_sem, askedA, h, extractA, Tryz.f35, reduceEqDiff, Nat.reduceBEq, reduceAdd, reduceIte, reduceCtorEq, reduceLeDiff]
   simp only [lostA, askE, h, hf]; rfl
  ·simp only [go_sem, askedA, h, extractA, Tryz.f35, reduceEqDiff, Nat.reduceBEq, reduceAdd, reduceIte, reduceCtorEq, reduceLeDiff]
   simp only [lostA, askE, h, hf]; rfl
 simp only [go_sem, reduceEqDiff, Nat.reduceBEq, reduceAdd, reduceIte, reduceCtorEq, reduceLeDiff]
 refine qp n86 (isPoint_pc l b) (SubL.refl _) ?_
 rw [show (decide (b ≥ 0) && decide (b ≤ (l.gives.length : Int))) = inB b 0 l.gives.length from rfl]
 cases hb : inB b 0 l.gives.length
 ·have hf : fineLost l a b = false := by unfold fineLost; rw [ha, hb]; rfl
  simp only [go_sem, reduceEqDiff, Nat.reduceBEq, reduceAdd, reduceIte, reduceCtorEq, reduceLeDiff]
  refine qp n75 (asked_pc l ok false) (SubL.refl _) ?_
  cases h : isLineB l
  ·simp only [go_sem, askedA, h, extractA, Tryz.f35, reduceEqDiff, Nat.reduceBEq, reduceAdd, reduceIte, reduceCtorEq, reduceLeDiff]
   simp only [lostA, askE, h, hf]; rfl
  ·simp only [go_sem, askedA, h, extractA, Tryz.f35, reduceEqDiff, Nat.reduceBEq, reduceAdd, reduceIte, reduceCtorEq, reduceLeDiff]
   simp only [lostA, askE, h, hf]; rfl
 simp only [go_sem, reduceEqDiff, Nat.reduceBEq, reduceAdd, reduceIte, reduceCtorEq, reduceLeDiff]
 have hf : fineLost l a b = decide (a ≤ b) := by unfold fineLost; rw [ha, hb]; rfl
 by_cases hab : a ≤ b
 case neg =>
  rw [decide_eq_false hab] at hf
  simp only [go_sem, hab, decide_false, reduceEqDiff, Nat.reduceBEq, reduceAdd, reduceIte, reduceCtorEq, reduceLeDiff]
  refine qp n75 (asked_pc l ok false) (SubL.refl _) ?_
  cases h : isLineB l
  ·simp only [go_sem, askedA, h, extractA, Tryz.f35, reduceEqDiff, Nat.reduceBEq, reduceAdd, reduceIte, reduceCtorEq, reduceLeDiff]
   simp only [lostA, askE, h, hf]; rfl
  ·simp only [go_sem, askedA, h, extractA, Tryz.f35, reduceEqDiff, Nat.reduceBEq, reduceAdd, reduceIte, reduceCtorEq, reduceLeDiff]
   simp only [lostA, askE, h, hf]; rfl
 rw [decide_eq_true hab] at hf
 simp only [go_sem, hab, decide_true, reduceEqDiff, Nat.reduceBEq, reduceAdd, reduceIte, reduceCtorEq, reduceLeDiff]
 refine qp n75 (asked_pc l ok true) (SubL.refl _) ?_
 cases h : isLineB l
 ·simp only [go_sem, askedA, h, extractA, Tryz.f35, reduceEqDiff, Nat.reduceBEq, reduceAdd, reduceIte, reduceCtorEq, reduceLeDiff]
  simp only [lostA, askE, h, hf]; rfl
 cases hp : possB l
 ·simp only [go_sem, askedA, h, hp, extractA, Tryz.f35, reduceEqDiff, Nat.reduceBEq, reduceAdd, reduceIte, reduceCtorEq, reduceLeDiff]
  simp only [lostA, askE, h, hp, hf]; rfl
 have hln := isLine_iff.1 h
 have hpts := hln.pts
 have hpa := inB_iff.1 ha
 have hpb := inB_iff.1 hb
 obtain ⟨x, rfl⟩ : ∃ x : Nat, a = x := ⟨a.toNat, by omega⟩
 obtain ⟨y, rfl⟩ : ∃ y : Nat, b = y := ⟨b.toNat, by omega⟩
 have e1 : lostA l x y = .tuple [spA (lostAll l x y), .int .i64 0] := by simp only [lostA, askE, h, hp, hf]; rfl
 rw [e1]
 simp only [go_sem, askedA, h, hp, extractA, reduceEqDiff, Nat.reduceBEq, reduceAdd, reduceIte, reduceCtorEq, reduceLeDiff]
 have hne : 0 < (theftsL l).length := by unfold possB at hp; simpa using hp
 refine cl n87 (over_pc l (theftsL l) (by have := theftsL_len hln; omega) hne 90 n90 [.eptr (lineC l) 0, .eptr [.int .i64 x] 0, .eptr [.int .i64 y] 0] (by simp [bndL, AV.bnd]) (fun t => lostS l t.2 x y) (fun t ht => Lost1_pc l (by omega) x y (by omega) (by omega) t (theft_sq t ht)))
  (LntL.cons (.same _ (by simp [bndL, AV.bnd])) (LntL.cons (Lnt.funcL (LntL.cons (.ptr 0 0 _ rfl (by simp [bndL, AV.bnd])) (LntL.cons (.ptr 1 0 _ rfl (by simp [bndL, AV.bnd])) (LntL.cons (.ptr 2 0 _ rfl (by simp [bndL, AV.bnd])) (LntL.nil _))))) (LntL.nil _))) rfl ?_
 simp only [go_sem, Tryz.f35, reduceEqDiff, Nat.reduceBEq, reduceAdd, reduceIte, reduceCtorEq, reduceLeDiff]
 rfl
def okAt (l : LLine) (set : List Int) (i : Nat) : Bool := inB (set.getD i 0) 0 (l.gives.length - 1) && (decide (i = 0) || decide (set.getD (i - 1) 0 < set.getD i 0))
def isSetB (l : LLine) (set : List Int) : Bool := (List.range set.length).all (okAt l set)
def explA (l : LLine) (set : List Int) : AV :=
 if isLineB l = true ∧ set.length ≤ 2 then (if isSetB l set = true then (match explM l set with | some W => .tuple [spA (lostS l W 0 l.gives.length), .int .i64 0] | none => .tuple [spA ⟨0, 0⟩, .int .i64 5]) else .tuple [spA ⟨0, 0⟩, .int .i64 2]) else .tuple [spA ⟨0, 0⟩, .int .i64 2]
theorem explA_bnd (l : LLine) (set : List Int) : (explA l set).bnd 0 0 = true := by
 unfold explA
 repeat' split
 all_goals simp [bndL, AV.bnd]
theorem Explains_pc (l : LLine) (ok : okLine l) (set : List Int) (hs : okL set.length) : PC Tryz.prog 30 [lineA l, sl set] (.pure (explA l set)) := by
 refine PC.of_empty (AC.run (E_ok _) mix Tryz.func30 m30 rfl rfl rfl (Nat.le_of_ble_eq_true rfl) ?_) (by simp [bndL, AV.bnd]) (explA_bnd l set)
 simp only [go_sem, boxA, reduceEqDiff, Nat.reduceBEq, reduceAdd, reduceIte, reduceCtorEq, reduceLeDiff]
 refine cp n82 (isLine_pc l ok) (SubL.refl _) ?_
 cases h : isLineB l
 ·simp only [go_sem, un_not, Bool.not_false, Tryz.f30, reduceEqDiff, Nat.reduceBEq, reduceAdd, reduceIte, reduceCtorEq, reduceLeDiff]
  unfold explA; rw [if_neg (by rw [h]; simp)]
 ·have hln := isLine_iff.1 h
  have hpts := hln.pts
  by_cases h2 : set.length ≤ 2
  case neg =>
   have g2 : (set.length : Int) > 2 := by omega
   simp only [go_sem, un_not, Bool.not_true, builtinA, g2, decide_true, Tryz.f30, reduceEqDiff, Nat.reduceBEq, reduceAdd, reduceIte, reduceCtorEq, reduceLeDiff]
   unfold explA; rw [if_neg (by omega)]
  have g2 : ¬ (set.length : Int) > 2 := by omega
  have e0 : explA l set = if isSetB l set = true then (match explM l set with | some W => .tuple [spA (lostS l W 0 l.gives.length), .int .i64 0] | none => .tuple [spA ⟨0, 0⟩, .int .i64 5]) else .tuple [spA ⟨0, 0⟩, .int .i64 2] := by
   unfold explA; rw [if_pos ⟨h, h2⟩]
  rw [e0]
  simp only [go_sem, un_not, Bool.not_true, builtinA, g2, decide_false, reduceEqDiff, Nat.reduceBEq, reduceAdd, reduceIte, reduceCtorEq, reduceLeDiff]
  refine wc_forP set.length (fun k => ∀ i, i < k → okAt l set i = true) (fun k => [(1, sl set), (2, .ref 0 0), (4, .ref 1 0), (19, sl set), (20, .int .i64 set.length), (21, .int .i64 k)]) (fun k => ⟨[some (.cells (lineC l)), some (.cells [.int .i64 0, .int .i64 0])], 0, []⟩) (fun i hi => absurd hi (Nat.not_lt_zero _)) rfl rfl ?_
  intro k hk hP I hI
  by_cases h' : k < set.length
  ·have h1 : (k : Int) < set.length := by omega
   have h3 : 0 ≤ (k : Int) ∧ (k : Int) < set.length := by omega
   have h4 : set[k]? = some (set.getD k 0) := by rw [List.getD_eq_getElem?_getD, List.getElem?_eq_getElem h']; rfl
   have h6 : IntKind.i64.wrap ((k : Int) + 1) = (k + 1 : Nat) := wrap64 (by omega)
   have h7 : IntKind.i64.wrap ((l.gives.length : Int) - 1) = (l.gives.length : Int) - 1 := wrap64 (by omega)
   simp only [go_sem, l30_0, h1, decide_true, h3, ints_get, h4, builtinA, h7, reduceEqDiff, Nat.reduceBEq, reduceAdd, reduceIte, reduceCtorEq, reduceLeDiff]
   refine cp n83 (in_pc _ _ _) (SubL.refl _) ?_
   rw [show (decide (set.getD k 0 ≥ 0) && decide (set.getD k 0 ≤ (l.gives.length : Int) - 1)) = inB (set.getD k 0) 0 ((l.gives.length : Int) - 1) from rfl]
   have bad : okAt l set k = false → isSetB l set = false := fun hb => by
    cases hx : isSetB l set
    ·rfl
    ·unfold isSetB at hx; rw [List.all_eq_true] at hx
     have := hx k (List.mem_range.2 h'); rw [hb] at this; cases this
   cases hin : inB (set.getD k 0) 0 ((l.gives.length : Int) - 1)
   ·have hb := bad (by unfold okAt; rw [hin]; rfl)
    simp only [go_sem, un_not, Bool.not_false, Tryz.f30, reduceEqDiff, Nat.reduceBEq, reduceAdd, reduceIte, reduceCtorEq, reduceLeDiff]
    rw [hb]; rfl
   ·cases k with
    | zero =>
     have z : ¬ (((0 : Nat) : Int) > 0) := by decide
     have hk0 : okAt l set 0 = true := by unfold okAt; rw [hin]; rfl
     simp only [go_sem, un_not, Bool.not_true, z, decide_false, h6, reduceEqDiff, Nat.reduceBEq, reduceAdd, reduceIte, reduceCtorEq, reduceLeDiff]
     exact hI h' fun i hi => by rw [show i = 0 by omega]; exact hk0
    | succ j =>
     have z : (((j + 1 : Nat) : Int) > 0) := by omega
     have z2 : IntKind.i64.wrap (((j + 1 : Nat) : Int) - 1) = (j : Nat) := by rw [wrap64 (by omega)]; omega
     have z3 : 0 ≤ (j : Int) ∧ (j : Int) < set.length := by omega
     have z4 : set[j]? = some (set.getD j 0) := by rw [List.getD_eq_getElem?_getD, List.getElem?_eq_getElem (by omega)]; rfl
     simp only [go_sem, un_not, Bool.not_true, z, decide_true, z2, z3, ints_get, z4, reduceEqDiff, Nat.reduceBEq, reduceAdd, reduceIte, reduceCtorEq, reduceLeDiff]
     by_cases hc : set.getD (j + 1) 0 ≤ set.getD j 0
     ·have hb := bad (by
       unfold okAt; rw [hin]
       have : ¬ set.getD (j + 1 - 1) 0 < set.getD (j + 1) 0 := by rw [Nat.add_sub_cancel]; omega
       rw [decide_eq_false this, decide_eq_false (by omega : ¬ j + 1 = 0)]; rfl)
      simp only [go_sem, hc, decide_true, Tryz.f30, reduceEqDiff, Nat.reduceBEq, reduceAdd, reduceIte, reduceCtorEq, reduceLeDiff]
      rw [hb]; rfl
     ·have hk1 : okAt l set (j + 1) = true := by
       unfold okAt; rw [hin]
       have : set.getD (j + 1 - 1) 0 < set.getD (j + 1) 0 := by rw [Nat.add_sub_cancel]; omega
       rw [decide_eq_true this, Bool.or_true]; rfl
      simp only [go_sem, hc, decide_false, h6, reduceEqDiff, Nat.reduceBEq, reduceAdd, reduceIte, reduceCtorEq, reduceLeDiff]
      exact hI h' fun i hi => by
       by_cases e : i = j + 1
       ·subst e; exact hk1
       ·exact hP i (by omega)
  ·have h1 : ¬ (k : Int) < set.length := by omega
   have hset : isSetB l set = true := by
    unfold isSetB; rw [List.all_eq_true]; intro i hi; exact hP i (by have := List.mem_range.1 hi; omega)
   rw [hset, if_pos rfl]
   simp only [go_sem, l30_0, h1, decide_false, reduceEqDiff, Nat.reduceBEq, reduceAdd, reduceIte, reduceCtorEq, reduceLeDiff]
   refine cp n84 (explained_pc l hln set (by omega)) (SubL.refl _) ?_
   cases hx : explM l set with
   | none =>
    simp only [go_sem, closeA, extractA, un_not, Bool.not_false, Tryz.f30, reduceEqDiff, Nat.reduceBEq, reduceAdd, reduceIte, reduceCtorEq, reduceLeDiff]
   | some W =>
    simp only [go_sem, closeA, extractA, un_not, Bool.not_true, builtinA, reduceEqDiff, Nat.reduceBEq, reduceAdd, reduceIte, reduceCtorEq, reduceLeDiff]
    refine cp n85 (lost_pc (explM_sq hx) set l (by omega) (a := 0) (b := l.gives.length) (by omega) (by omega) (by omega) (Nat.le_refl _)) (SubL.refl _) ?_
    simp only [go_sem, Tryz.f30, reduceEqDiff, Nat.reduceBEq, reduceAdd, reduceIte, reduceCtorEq, reduceLeDiff]
end Go.Av.Fx
end
section
namespace Go.Av.Fx
open Go Go.Av Go.Av.Tb Go.Proofs
open Go.Fw (Sq ent Bd Mat)
theorem sr_appK {T : Tab} {S : St} {t e : TypeId} {ei : TI} {l lx : List AV} {n nx k : Nat} {x : AV} (h1 : descOf T t = some (.slice e)) (h2 : T e = some ei) (h3 : ei.size ≠ 0) (h4 : heldA S ei.size x = some (lx, nx)) (h5 : nx ≠ 0) (h6 : lx.all AV.one = true)
  (h7 : (n + nx) * ei.bytes ≤ 1099511627776) (h8 : n + nx ≤ 1099511627776) (h9 : l.length = n * ei.size) (hk : k ∈ S.toks) {K : AV → St → Prop} {hK : Hold K}
  (next : K (.slice (l ++ lx) (n + nx) (.tok S.nt)) { S with toks := S.nt :: killTok S.toks (some k), nt := S.nt + 1 }) : sr K hK (appendA T S t (.slice l n (.tok k)) x) S := by
 rw [app_gen h1 h2 h3 h4 h5 h6 h7 h8 h9, sr_tok_some]
 exact ⟨hk, next⟩
def pairB (n : Nat) (off : Int) (p : Int) : List Bd := [⟨p.toNat, n + p.toNat, 2 * off⟩, ⟨n + p.toNat, p.toNat, 2 * off⟩]
def alikeCs (l : LLine) (a b : List Int) (pts : List Int) (off : Int) : List Bd :=
 lineB l a 0 (2 * (l.gives.length + 1)) ++ lineB l b (l.gives.length + 1) (2 * (l.gives.length + 1)) ++ pts.flatMap (pairB (l.gives.length + 1) off)
def alikeB (l : LLine) (a b : List Int) (pts : List Int) (off : Int) : Bool := (closeC (2 * (l.gives.length + 1) + 1) (alikeCs l a b pts off)).isSome
def PtsOk (l : LLine) (pts : List Int) : Prop := pts.length ≤ 1000 ∧ ∀ p ∈ pts, 0 ≤ p ∧ p ≤ l.gives.length
theorem alike_pc (l : LLine) (h : Ln l) (L : List Theft) (a b : Theft) (ha : a.1.length ≤ 1000) (hb : b.1.length ≤ 1000) (pts : List Int) (hp : PtsOk l pts) (off : Int) (ho : 0 ≤ off ∧ off ≤ 20) :
  PC Tryz.prog 134 [.agg (lnC l L), .agg (thC a), .agg (thC b), sl pts, .int .i64 off] (.pure (.bool (alikeB l a.1 b.1 pts off))) := by
 have hm := h.pts
 refine PC.of_empty (AC.run (E_ok _) mix Tryz.func134 m134 rfl rfl rfl (Nat.le_of_ble_eq_true rfl) ?_) (by simp [bndL, AV.bnd]) rfl
 have e1 : IntKind.i64.wrap ((l.gives.length : Int) + 1) = (l.gives.length + 1 : Nat) := wrap64 (by omega)
 have e2 : IntKind.i64.wrap (2 * ((l.gives.length + 1 : Nat) : Int)) = (2 * (l.gives.length + 1) : Nat) := by rw [wrap64 (by omega)]; omega
 have hc := h.cts
 generalize hn : l.gives.length + 1 = n at *
 simp only [go_sem, boxA, builtinA, e1, e2, reduceEqDiff, Nat.reduceBEq, reduceAdd, reduceIte, reduceCtorEq, reduceLeDiff]
 have hA := boundsL_eq h a.1 (b := 0) (dry := 2 * n) (by omega) (by omega)
 have hB := boundsL_eq h b.1 (b := n) (dry := 2 * n) (by omega) (by omega)
 have lA := lineB_len h a.1 0 (2 * n)
 have lB := lineB_len h b.1 n (2 * n)
 have pA := bounds_pc l ⟨by omega, by omega⟩ a.1 (by show _ < _; omega) 0 (2 * n : Nat)
 rw [show ((0 : Nat) : Int) = 0 from rfl] at hA
 rw [hA] at pA
 have pB := bounds_pc l ⟨by omega, by omega⟩ b.1 (by show _ < _; omega) (n : Nat) (2 * n : Nat)
 rw [hB] at pB
 refine qt n129 pA (SubL.refl _) ?_
 simp only [go_sem, e2, reduceEqDiff, Nat.reduceBEq, reduceAdd, reduceIte, reduceCtorEq, reduceLeDiff]
 refine ct n129 pB (SubL.refl _) ?_
 simp only [go_sem, builtinA, reduceEqDiff, Nat.reduceBEq, reduceAdd, reduceIte, reduceCtorEq, reduceLeDiff]
 generalize hLA : lineB l a.1 0 (2 * n) = LA at *
 generalize hLB : lineB l b.1 n (2 * n) = LB at *
 refine sr_appK (e := 191) (ei := ti191) (lx := bnds (LB.map ofBd)) (nx := (LB.map ofBd).length) rfl rfl (by decide) (by simp [heldA, ti191, bnds_len]; omega) (by
  rw [← hLB]; unfold lineB; simp) (bnds_one _) (by simp [ti191]; omega) (by simp; omega) (by simp [ti191, bnds_len]; omega) (by simp) ?_
 rw [bnds_app, ← List.map_append]
 have hk1 : killTok [1, 0] (some 0) = [1] := rfl
 simp only [go_sem, builtinA, hk1, reduceEqDiff, Nat.reduceBEq, reduceAdd, reduceIte, reduceCtorEq, reduceLeDiff]
 refine wc_for pts.length (fun k => [(4, .int .i64 off), (11, .int .i64 n), (12, .slice (bnds ((LA ++ LB ++ (pts.take k).flatMap (pairB n off)).map ofBd)) (LA ++ LB ++ (pts.take k).flatMap (pairB n off)).length (.tok (2 + k))), (38, sl pts), (39, .int .i64 pts.length), (40, .int .i64 k)])
  (fun k => ⟨[some (.cells (lnC l L)), some (.cells (thC a)), some (.cells (thC b))], 3 + k, [2 + k, 1]⟩) (by simp) rfl ?_
 intro k hk I hI
 have hlen : (LA ++ LB ++ (pts.take k).flatMap (pairB n off)).length ≤ 10000 := by
  have : ∀ q : List Int, (q.flatMap (pairB n off)).length = 2 * q.length := by
   intro q
   induction q with
   | nil => rfl
   | cons x q ih => rw [List.flatMap_cons, List.length_append, ih]; simp [pairB]; omega
  have h1 := hp.1
  rw [List.length_append, List.length_append, this, List.length_take]; omega
 have hcs : ∀ c ∈ LA ++ LB ++ (pts.take k).flatMap (pairB n off), c.Ok 400 400 (2 * n + 1) := by
  intro c hc
  rw [List.mem_append, List.mem_append, List.mem_flatMap] at hc
  rcases hc with (hc | hc) | ⟨p, hp1, hc⟩
  ·rw [← hLA] at hc; exact lineB_ok h a.1 (by omega) (by omega) (.inr (by omega)) c hc
  ·rw [← hLB] at hc; exact lineB_ok h b.1 (by omega) (by omega) (.inr (by omega)) c hc
  ·have := hp.2 p (List.mem_of_mem_take hp1)
   simp only [pairB, List.mem_cons, List.not_mem_nil, or_false] at hc
   rcases hc with rfl | rfl
   ·exact ⟨by show p.toNat < _; omega, by show n + p.toNat < _; omega, by show p.toNat ≠ n + p.toNat; omega, by show -400 ≤ 2 * off; omega, by show 2 * off ≤ 400; omega⟩
   ·exact ⟨by show n + p.toNat < _; omega, by show p.toNat < _; omega, by show n + p.toNat ≠ p.toNat; omega, by show -400 ≤ 2 * off; omega, by show 2 * off ≤ 400; omega⟩
 have hpl := hp.1
 by_cases h' : k < pts.length
 ·have h1 : (k : Int) < pts.length := by omega
  have h2 : 0 ≤ (k : Int) ∧ (k : Int) < pts.length := by omega
  have h3 : pts[k]? = some pts[k] := List.getElem?_eq_getElem h'
  have h6 : IntKind.i64.wrap ((k : Int) + 1) = (k + 1 : Nat) := wrap64 (by omega)
  have hq := hp.2 _ (List.getElem_mem h')
  have hI' := hI h'
  rw [List.take_succ_eq_append_getElem h', List.flatMap_append] at hI'
  simp only [List.flatMap_cons, List.flatMap_nil, List.append_nil] at hI'
  generalize pts[k] = p at hq h3 hI'
  generalize hcsE : LA ++ LB ++ (pts.take k).flatMap (pairB n off) = cs at *
  have w1 : IntKind.i64.wrap ((n : Int) + p) = (n : Int) + p := wrap64 (by omega)
  have w2 : IntKind.i64.wrap (2 * off) = 2 * off := wrap64 (by omega)
  have hk2 : killTok [2 + k, 1] (some (2 + k)) = [1] := by
   simp [killTok]; omega
  have eapp : bnds (cs.map ofBd) ++ [.int .i64 p, .int .i64 ((n : Int) + p), .int .i64 (2 * off), .int .i64 ((n : Int) + p), .int .i64 p, .int .i64 (2 * off)] = bnds ((cs ++ pairB n off p).map ofBd) := by
   rw [List.map_append, ← bnds_app]
   congr 1
   have e1 : ((p.toNat : Nat) : Int) = p := by omega
   have e2 : ((n + p.toNat : Nat) : Int) = (n : Int) + p := by omega
   simp only [pairB, List.map_cons, List.map_nil, ofBd, bnds, List.flatMap_cons, List.flatMap_nil, bndC, e1, e2]; rfl
  simp only [go_sem, l134_0, h1, decide_true, h2, ints_get, h3, w1, w2, builtinA, reduceEqDiff, Nat.reduceBEq, reduceAdd, reduceIte, reduceCtorEq, reduceLeDiff]
  refine sr_appK (e := 191) (ei := ti191) (lx := [.int .i64 p, .int .i64 ((n : Int) + p), .int .i64 (2 * off), .int .i64 ((n : Int) + p), .int .i64 p, .int .i64 (2 * off)]) (nx := 2) rfl rfl (by decide) rfl (by decide) rfl (by simp [ti191]; omega) (by simp; omega) (by simp [ti191, bnds_len]; omega) List.mem_cons_self ?_
  rw [hk2, eapp]
  simp only [go_sem, h6, reduceEqDiff, Nat.reduceBEq, reduceAdd, reduceIte, reduceCtorEq, reduceLeDiff]
  rw [show LA ++ LB ++ ((pts.take k).flatMap (pairB n off) ++ pairB n off p) = cs ++ pairB n off p by rw [← hcsE]; simp only [List.append_assoc]] at hI'
  have e4 : (cs ++ pairB n off p).length = cs.length + 2 := by simp [pairB]
  rw [e4, show 2 + (k + 1) = 3 + k by omega, show 3 + (k + 1) = 3 + k + 1 by omega] at hI'
  exact hI'
 ·have h1 : ¬ (k : Int) < pts.length := by omega
  have e3 : IntKind.i64.wrap (((2 * n : Nat) : Int) + 1) = (2 * n + 1 : Nat) := by rw [wrap64 (by omega)]; omega
  rw [List.take_of_length_le (by omega)] at hlen hcs ⊢
  have hall : alikeB l a.1 b.1 pts off = (closeC (2 * n + 1) (LA ++ LB ++ pts.flatMap (pairB n off))).isSome := by
   unfold alikeB alikeCs; rw [hn, hLA, hLB]
  rw [hall]
  generalize LA ++ LB ++ pts.flatMap (pairB n off) = cs at *
  simp only [go_sem, l134_0, h1, decide_false, e2, e3, reduceEqDiff, Nat.reduceBEq, reduceAdd, reduceIte, reduceCtorEq, reduceLeDiff]
  refine cp n128 (close_pc (2 * n + 1) (by omega) (by omega) (cs.map ofBd) (by simp; omega) (of_in hcs) (of_low hcs)) (SubL.cons (Sub.refl _) (SubL.cons (by rw [List.length_map]; exact Sub.unk _ _ _) (SubL.refl []))) ?_
  rw [closeM_of]
  cases closeC (2 * n + 1) cs with
  | none => simp only [go_sem, closeA, extractA, Tryz.f134, Option.isSome_none, reduceEqDiff, Nat.reduceBEq, reduceAdd, reduceIte, reduceCtorEq, reduceLeDiff]
  | some W => simp only [go_sem, closeA, extractA, Tryz.f134, Option.isSome_some, reduceEqDiff, Nat.reduceBEq, reduceAdd, reduceIte, reduceCtorEq, reduceLeDiff]
end Go.Av.Fx
end

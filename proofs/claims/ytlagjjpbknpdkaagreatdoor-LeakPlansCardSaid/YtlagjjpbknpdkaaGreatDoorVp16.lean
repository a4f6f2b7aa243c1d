/- Part 16 of the proof. -/
import Derived.Test.YtlagjjpbknpdkaaGreatDoorVp15
import Derived.Test.YtlagjjpbknpdkaaGreatDoorVp8
set_option linter.all false
set_option linter.unusedVariables false
set_option linter.unusedSimpArgs false
set_option linter.unusedSectionVars false
open Nat (reduceEqDiff reduceAdd reduceLeDiff)
section
namespace Go.Av.Fx
open Go Go.Av Go.Av.Tb Go.Proofs
open Go.Fw (Sq ent upd row stage upto closed)
def far : Int := 1099511627776
def row0 (n a : Nat) : List Int := (List.replicate n far).set a 0
def mat0 (n m : Nat) : List (List Int) := (List.range m).map (row0 n)
def wA (n : Nat) : Nat → AV
 | 0 => .nilS
 | m + 1 => .slice (rowsA (m + 1) n) (m + 1) (.tok m)
@[go_sem] theorem bs111 (i o n c : Nat) : buildSliceA T 111 1 [(0, .sref i o n c)] = some (.slice [.sref i o n c] 1 .exact) := rfl
theorem sr_appW {K : AV → St → Prop} {hK : Hold K} {h : List (Option Blk)} {k n : Nat} (hk : k ≤ 1000)
  (next : K (wA n (k + 1)) ⟨h, k + 1, toksN (k + 1)⟩) : sr K hK (appendA T ⟨h, k, toksN k⟩ 111 (wA n k) (.slice [.sref k 0 n n] 1 .exact)) ⟨h, k, toksN k⟩ := by
 cases k with
 | zero =>
  have : appendA T ⟨h, 0, toksN 0⟩ 111 (wA n 0) (.slice [.sref 0 0 n n] 1 .exact) = some (.tok none (fun j => .slice [.sref 0 0 n n] 1 (.tok j))) := rfl
  rw [this, sr_tok]; exact next
 | succ k =>
  show sr K hK (appendA T ⟨h, k + 1, toksN (k + 1)⟩ 111 (.slice (rowsA (k + 1) n) (k + 1) (.tok k)) _) _
  rw [app_gen (e := 22) (ei := ti22) (lx := [.sref (k + 1) 0 n n]) (nx := 1) rfl rfl (by decide) rfl (by decide) rfl (by show (k + 1 + 1) * 24 ≤ _; omega) (by omega) (by simp [ti22])]
  rw [sr_tok_some]
  refine ⟨List.mem_cons_self, ?_⟩
  have : killTok (toksN (k + 1)) (some k) = [] := by simp [killTok, toksN]
  show K (.slice (rowsA (k + 1) n ++ [.sref (k + 1) 0 n n]) (k + 1 + 1) (.tok (k + 1))) ⟨h, k + 1 + 1, (k + 1) :: killTok (toksN (k + 1)) (some k)⟩
  rw [this, rowsA_snoc]; exact next
def putB (R : List (List Int)) (x : Bound) : List (List Int) := Fw.addc R ⟨x.a.toNat, x.b.toNat, x.most⟩
theorem sq_mat0 (n : Nat) : Sq n (mat0 n n) := (Fw.Good.base (far := far) (U := 0) (B := 0) (by decide) (Int.le_refl _) (Int.le_refl _)).sq
theorem putB_eq {R : List (List Int)} {x : Bound} {a b : Nat} (ha : x.a = a) (hb : x.b = b) (h : a < R.length) (h' : b < R[a].length) : putB R x = R.set a (R[a].set b (if x.most < R[a][b] then x.most else R[a][b])) := by
 unfold putB Fw.addc Fw.put Fw.ent
 simp only [ha, hb, Int.toNat_natCast]
 have e : R.getD a [] = R[a] := by rw [List.getD_eq_getElem?_getD, List.getElem?_eq_getElem h]; rfl
 have e2 : R[a].getD b 0 = R[a][b] := by rw [List.getD_eq_getElem?_getD, List.getElem?_eq_getElem h']; rfl
 rw [e, e2]
 congr 2
 omega
def bd (x : Bound) : Fw.Bd := ⟨x.a.toNat, x.b.toNat, x.most⟩
def bsM (n : Nat) (bs : List Bound) : Fw.Mat := (bs.map bd).foldl Fw.addc (Fw.base far n)
def closeM (n : Nat) (bs : List Bound) : Option Fw.Mat := closed far n (bsM n bs)
def closeA : Option Fw.Mat → AV
 | none => .tuple [.nilS, .bool false]
 | some W => .tuple [.slice (W.map sl) W.length .unk, .bool true]
theorem closeA_bnd (o : Option Fw.Mat) : (closeA o).bnd 0 0 = true := by
 cases o with
 | none => rfl
 | some W =>
  have : bndL 0 0 (W.map sl) = true := bndL_map _ (fun _ => by simp [AV.bnd]) W
  simp [closeA, AV.bnd, bndL, this]
theorem bsM_eq (n : Nat) (bs : List Bound) : bs.foldl putB (mat0 n n) = bsM n bs := by
 unfold bsM; rw [List.foldl_map]; rfl
theorem bsM_low (n : Nat) (X : Int) (hX : 0 ≤ X) (bs : List Bound) (hin : ∀ x ∈ bs, 0 ≤ x.a ∧ x.a < n ∧ 0 ≤ x.b ∧ x.b < n) (hm : ∀ x ∈ bs, -X ≤ x.most) : ∀ i j, i < n → j < n → -X ≤ ent (bsM n bs) i j := by
 unfold bsM
 have : ∀ (bs : List Bound) (W : Fw.Mat), Sq n W → (∀ i j, i < n → j < n → -X ≤ ent W i j) → (∀ x ∈ bs, 0 ≤ x.a ∧ x.a < n ∧ 0 ≤ x.b ∧ x.b < n) → (∀ x ∈ bs, -X ≤ x.most) → ∀ i j, i < n → j < n → -X ≤ ent ((bs.map bd).foldl Fw.addc W) i j := by
  intro bs
  induction bs with
  | nil => exact fun W _ h _ _ => h
  | cons x bs ih =>
   intro W hW h h1 h2
   have hx := h1 x List.mem_cons_self
   refine ih _ (hW.put _ _ _) (fun i j hi hj => ?_) (fun y hy => h1 y (List.mem_cons_of_mem _ hy)) (fun y hy => h2 y (List.mem_cons_of_mem _ hy))
   rw [Fw.ent_addc hW (c := bd x) (by show x.a.toNat < n; omega) (by show x.b.toNat < n; omega)]
   split
   ·have := h _ _ (show (bd x).a < n by show x.a.toNat < n; omega) (show (bd x).b < n by show x.b.toNat < n; omega)
    have h3 : -X ≤ (bd x).m := h2 x List.mem_cons_self
    omega
   ·exact h i j hi hj
 refine this bs _ (sq_mat0 n) (fun i j hi hj => ?_) hin hm
 rw [Fw.ent_base hi hj]
 split
 ·omega
 ·show -X ≤ 1099511627776; omega
theorem bsM_high (n : Nat) (bs : List Bound) (hin : ∀ x ∈ bs, 0 ≤ x.a ∧ x.a < n ∧ 0 ≤ x.b ∧ x.b < n) (i j : Nat) (hi : i < n) (hj : j < n) : ent (bsM n bs) i j ≤ far := by
 unfold bsM
 refine Int.le_trans (Fw.fold_le (sq_mat0 n) (fun c hc => ?_) i j) ?_
 ·obtain ⟨x, hx, rfl⟩ := List.mem_map.1 hc
  have := hin x hx
  exact ⟨by show x.a.toNat < n; omega, by show x.b.toNat < n; omega⟩
 ·rw [show mat0 n n = Fw.base far n from rfl, Fw.ent_base hi hj]
  split
  ·decide
  ·exact Int.le_refl _
theorem cells_ent {n : Nat} {V : Fw.Mat} (h : Sq n V) {a : Nat} (ha : a < n) : cellsAt (heapR V) a = some (ints (V.getD a [])) := by
 have hl : a < V.length := by rw [h.1]; exact ha
 have := cellsAt_R (R := V) (g := []) hl
 rw [List.append_nil] at this
 rw [this, List.getD_eq_getElem?_getD, List.getElem?_eq_getElem hl]; rfl
theorem ints_ent {n : Nat} {V : Fw.Mat} (h : Sq n V) {a b : Nat} (ha : a < n) (hb : b < n) : (ints (V.getD a []))[b]? = some (.int .i64 (ent V a b)) := by
 rw [ints_get]
 have := h.getD ha
 unfold ent
 rw [List.getD_eq_getElem?_getD (l := V.getD a []), List.getElem?_eq_getElem (by omega)]; rfl
theorem setH_ent {n : Nat} {V : Fw.Mat} (h : Sq n V) {a : Nat} (ha : a < n) (b : Nat) (v : Int) : setH (heapR V) a (.cells ((ints (V.getD a [])).set b (.int .i64 v))) = heapR (Fw.put V a b v) := by
 have hl : a < V.length := by rw [h.1]; exact ha
 have := setH_R (R := V) (g := []) (r := (V.getD a []).set b v) hl
 rw [List.append_nil, List.append_nil] at this
 rw [ints_set, this]; rfl
theorem rows_frz {n : Nat} {V : Fw.Mat} (h : Sq n V) (t : Tail) (g : List (Option Blk)) : Frz (heapR V ++ g) (.slice (rowsA n n) n t) (.slice (V.map sl) V.length .unk) := by
 rw [h.1]
 refine .slice _ _ _ _ (by simp [h.1]) fun j x y hx hy => ?_
 have hj : j < n := by
  rcases Nat.lt_or_ge j n with h' | h'
  ·exact h'
  ·rw [List.getElem?_eq_none (by simpa using h')] at hx; cases hx
 have hl : j < V.length := by rw [h.1]; exact hj
 rw [rowsA_get hj] at hx
 simp only [Option.some.injEq] at hx
 subst hx
 rw [List.getElem?_map, List.getElem?_eq_getElem hl] at hy
 simp only [Option.map_some, Option.some.injEq] at hy
 subst hy
 have hlen : V[j].length = n := h.2 j _ (List.getElem?_eq_getElem hl)
 have := Frz.row (h := heapR V ++ g) j 0 n n 1 (ints V[j]) (heapR_get hl) (by simp [hlen]) (Nat.le_refl _)
 rw [List.drop_zero, List.take_of_length_le (by simp [hlen])] at this
 show Frz _ _ (.slice (ints V[j]) V[j].length .unk)
 rw [hlen]; exact this
theorem close_pc (n : Nat) (hn : 0 < n) (hn' : n ≤ 13) (bs : List Bound) (hb : bs.length ≤ 100000) (hin : ∀ x ∈ bs, 0 ≤ x.a ∧ x.a < n ∧ 0 ≤ x.b ∧ x.b < n) (hm : ∀ x ∈ bs, -1000000 ≤ x.most) :
  PC Tryz.prog 128 [.int .i64 n, .slice (bnds bs) bs.length .unk] (.pure (closeA (closeM n bs))) := by
 refine PC.of_frz (AC.run (E_ok _) mix Tryz.func128 m128 rfl rfl rfl (Nat.le_of_ble_eq_true rfl) ?_) (by simp [bndL, AV.bnd]) (closeA_bnd _)
 simp only [go_sem, reduceEqDiff, Nat.reduceBEq, reduceAdd, reduceIte, reduceCtorEq, reduceLeDiff]
 refine wc_for n (fun k => [(0, .int .i64 n), (1, .slice (bnds bs) bs.length .unk), (6, wA n k), (14, .int .i64 n), (15, .int .i64 k)]) (fun k => ⟨heapR (mat0 n k), k, toksN k⟩) rfl rfl ?_
 intro k hk I hI
 by_cases h : k < n
 ·have h' : (k : Int) < n := by omega
  have h4 : IntKind.i64.wrap ((k : Int) + 1) = (k + 1 : Nat) := wrap64 (by omega)
  simp only [go_sem, l128_0, h', decide_true, reduceEqDiff, Nat.reduceBEq, reduceAdd, reduceIte, reduceCtorEq, reduceLeDiff]
  refine ca n154 (repeat_pc far n hn (by omega)) (SubL.cons (Sub.unk _ 1 .exact) (SubL.refl _)) ?_
  have hl : (heapR (mat0 n k)).length = k := by simp [mat0]
  simp only [go_sem, hl, builtinA, reduceEqDiff, Nat.reduceBEq, reduceAdd, reduceIte, reduceCtorEq, reduceLeDiff]
  refine sr_appW (by omega) ?_
  simp only [go_sem, reduceEqDiff, Nat.reduceBEq, reduceAdd, reduceIte, reduceCtorEq, reduceLeDiff]
  have h2 : 0 ≤ (k : Int) ∧ (k : Int) < (k + 1 : Nat) := by omega
  have h3 : 0 ≤ (k : Int) ∧ (k : Int) < (n : Nat) := by omega
  have hw : wA n (k + 1) = .slice (rowsA (k + 1) n) (k + 1) (.tok k) := rfl
  have hr : (rowsA (k + 1) n)[k]? = some (.sref k 0 n n) := rowsA_get (by omega)
  have hc : cellsAt (heapR (mat0 n k) ++ [some (.cells (ints (List.replicate n far)))]) k = some (ints (List.replicate n far)) := by
   rw [heapR_snoc]
   have := cellsAt_R (R := mat0 n k ++ [List.replicate n far]) (g := []) (i := k) (by simp [mat0])
   rw [List.append_nil] at this
   rw [this]; simp [mat0]
  have hk1 : k + 1 ≤ n := h
  have hset : setH (heapR (mat0 n k) ++ [some (.cells (ints (List.replicate n far)))]) k (.cells ((ints (List.replicate n far)).set k (.int .i64 0))) = heapR (mat0 n (k + 1)) := by
   rw [heapR_snoc, ints_set]
   have := setH_R (g := []) (r := (List.replicate n far).set k 0) (R := mat0 n k ++ [List.replicate n far]) (i := k) (by simp [mat0])
   rw [List.append_nil, List.append_nil] at this
   rw [this]
   congr 1
   have hm : (mat0 n k).length = k := by simp [mat0]
   rw [List.set_append_right _ _ (by omega), hm, Nat.sub_self]
   simp [mat0, row0, List.range_succ]
  simp only [go_sem, hw, h2, h3, nat_idx, Nat.mul_one, and_self, hr, hc, AV.cells, AV.one, List.all_cons, List.all_nil, Bool.and_self, splice, ints_len, List.length_replicate, hk1, hset, h4, reduceEqDiff, Nat.reduceBEq, reduceAdd, reduceIte, reduceCtorEq, reduceLeDiff]
  exact hI h
 ·have h' : ¬ (k : Int) < n := by omega
  have hk' : k = n := by omega
  subst hk'
  obtain ⟨m, rfl⟩ : ∃ m, k = m + 1 := ⟨k - 1, by omega⟩
  have hw : wA (m + 1) (m + 1) = .slice (rowsA (m + 1) (m + 1)) (m + 1) (.tok m) := rfl
  simp only [go_sem, l128_0, h', decide_false, builtinA, hw, reduceEqDiff, Nat.reduceBEq, reduceAdd, reduceIte, reduceCtorEq, reduceLeDiff]
  clear hI hk h h'
  have sqk : ∀ k, Sq (m + 1) ((bs.take k).foldl putB (mat0 (m + 1) (m + 1))) := by
   intro k
   induction k with
   | zero => exact sq_mat0 _
   | succ k ih =>
    by_cases hk : k < bs.length
    ·rw [foldl_take _ _ _ _ hk]
     have := hin _ (List.getElem_mem hk)
     exact ih.put _ _ _
    ·rw [List.take_of_length_le (by omega)] at ih ⊢; exact ih
  refine wc_forG bs.length (fun k => [(0, .int .i64 (m + 1 : Nat)), (6, .slice (rowsA (m + 1) (m + 1)) (m + 1) (.tok m)), (31, .slice (bnds bs) bs.length .unk), (32, .int .i64 bs.length), (33, .int .i64 k)]) (fun k => ⟨heapR ((bs.take k).foldl putB (mat0 (m + 1) (m + 1))), m + 1, toksN (m + 1)⟩) rfl rfl (fun k hk => ?_) ?_
  ·refine ⟨Nat.zero_le _, Nat.zero_le _, ?_, fun i B hB => heapR_bnd hB, ?_⟩
   ·simp only [bndTS, AV.bnd, heapR_len, (sqk k).1]
    rw [rowsA_bnd (Nat.le_refl _)]; simp
   ·intro t ht; simp [toksN] at ht; simp; omega
  intro k hk I hI
  have sq := sqk k
  generalize hR : (bs.take k).foldl putB (mat0 (m + 1) (m + 1)) = R at *
  by_cases h : k < bs.length
  ·have h' : (k : Int) < bs.length := by omega
   have h2 : 0 ≤ (k : Int) ∧ (k : Int) < bs.length := by omega
   have h3 : k * 3 + 3 ≤ (bnds bs).length := by rw [bnds_len]; omega
   have h5 := bnds_at bs k h
   have h6 : IntKind.i64.wrap ((k : Int) + 1) = (k + 1 : Nat) := wrap64 (by omega)
   have hl : (heapR R).length = m + 1 := by simp [sq.1]
   simp only [go_sem, l128_1, h', decide_true, reduceEqDiff, Nat.reduceBEq, reduceAdd, reduceIte, reduceCtorEq, reduceLeDiff]
   simp only [go_sem, h2, nat_idx, and_self, h3, h5, hl, bndC, AV.cells, AV.one, List.all_cons, List.all_nil, Bool.and_self, reduceEqDiff, Nat.reduceBEq, reduceAdd, reduceIte, reduceCtorEq, reduceLeDiff]
   have c1 : ∀ l, cellsAt (heapR R ++ [some (.cells l)]) (m + 1) = some l := fun l => cellsAt_last sq.1
   have c2 : ∀ l B, setH (heapR R ++ [some (.cells l)]) (m + 1) B = heapR R ++ [some B] := fun l B => setH_last sq.1
   simp only [go_sem, c1, c2, splice, List.set_cons_zero, List.set_cons_succ, AV.cells, AV.one, List.all_cons, List.all_nil, Bool.and_self, and_self, reduceEqDiff, Nat.reduceBEq, reduceAdd, reduceIte, reduceCtorEq, reduceLeDiff]
   have hx := hin _ (List.getElem_mem h)
   have hI' := hI h
   rw [foldl_take _ _ _ _ h, hR] at hI'
   clear hI
   generalize bs[k] = x at hx hI' c1 c2 h5 ⊢
   obtain ⟨ai, hai⟩ : ∃ ai : Nat, x.a = ai := ⟨x.a.toNat, by omega⟩
   obtain ⟨bi, hbi⟩ : ∃ bi : Nat, x.b = bi := ⟨x.b.toNat, by omega⟩
   rw [hai, hbi] at hx
   have x1 : 0 ≤ (ai : Int) ∧ (ai : Int) < (m + 1 : Nat) := ⟨hx.1, hx.2.1⟩
   have x2 : 0 ≤ (bi : Int) ∧ (bi : Int) < (m + 1 : Nat) := ⟨hx.2.2.1, hx.2.2.2⟩
   have hlt : ai < R.length := by rw [sq.1]; omega
   have hblt : bi < R[ai].length := by rw [sq.2 ai _ (List.getElem?_eq_getElem hlt)]; omega
   have hr1 : (rowsA (m + 1) (m + 1))[ai]? = some (.sref ai 0 (m + 1) (m + 1)) := rowsA_get (by omega)
   have hr2 : ∀ g, cellsAt (heapR R ++ g) ai = some (ints R[ai]) := fun g => cellsAt_R hlt
   have hr3 : (ints R[ai])[bi]? = some (.int .i64 R[ai][bi]) := by rw [ints_get, List.getElem?_eq_getElem hblt]; rfl
   have hlen : R[ai].length = m + 1 := sq.2 ai _ (List.getElem?_eq_getElem hlt)
   have hk1 : bi + 1 ≤ m + 1 := by omega
   have hset : ∀ v g, setH (heapR R ++ g) ai (.cells ((ints R[ai]).set bi (.int .i64 v))) = heapR (R.set ai (R[ai].set bi v)) ++ g := fun v g => by rw [ints_set]; exact setH_R hlt
   simp only [go_sem, hai, hbi, x1, x2, nat_idx, Nat.mul_one, and_self, hr1, hr2, hr3, c1, builtinA, minsA, AV.cells, AV.one, List.all_cons, List.all_nil, Bool.and_self, splice, ints_len, hlen, hk1, hset, h6, reduceEqDiff, Nat.reduceBEq, reduceAdd, reduceIte, reduceCtorEq, reduceLeDiff]
   have := hI' [some (.cells [.int .i64 ai, .int .i64 bi, .int .i64 x.most])]
   rw [putB_eq hai hbi hlt hblt] at this
   exact this
  ·have h' : ¬ (k : Int) < bs.length := by omega
   rw [List.take_of_length_le (by omega), bsM_eq] at hR
   simp only [go_sem, l128_1, h', decide_false, reduceEqDiff, Nat.reduceBEq, reduceAdd, reduceIte, reduceCtorEq, reduceLeDiff]
   clear hI hk h h' sqk hw I
   have mlow := bsM_low (m + 1) 1000000 (by decide) bs hin hm
   have mhigh := bsM_high (m + 1) bs hin
   have sqR := sq
   rw [← hR] at sqR
   have h7 : (7 : Int) ^ (m + 1) ≤ 7 ^ 13 := Fw.pow_le (by decide) _ hn'
   refine wc_for (m + 1) (fun k => [(0, .int .i64 (m + 1 : Nat)), (6, .slice (rowsA (m + 1) (m + 1)) (m + 1) (.tok m)), (58, .int .i64 (m + 1 : Nat)), (59, .int .i64 k)]) (fun k => ⟨heapR (upto far (m + 1) k R), m + 1, toksN (m + 1)⟩) rfl rfl ?_
   intro c hc I hI
   by_cases h : c < m + 1
   ·have h' : (c : Int) < (m + 1 : Nat) := by omega
    have h6 : IntKind.i64.wrap ((c : Int) + 1) = (c + 1 : Nat) := wrap64 (by omega)
    have sqc : Sq (m + 1) (upto far (m + 1) c R) := sq.upto far (m + 1) c
    simp only [go_sem, l128_2, h', decide_true, reduceEqDiff, Nat.reduceBEq, reduceAdd, reduceIte, reduceCtorEq, reduceLeDiff]
    refine wc_for (m + 1) (fun k => [(0, .int .i64 (m + 1 : Nat)), (6, .slice (rowsA (m + 1) (m + 1)) (m + 1) (.tok m)), (58, .int .i64 (m + 1 : Nat)), (59, .int .i64 c), (10, .int .i64 c), (62, .int .i64 (m + 1 : Nat)), (63, .int .i64 k)]) (fun k => ⟨heapR ((List.range k).foldl (row far (m + 1) c) (upto far (m + 1) c R)), m + 1, toksN (m + 1)⟩) rfl rfl ?_
    intro a ha I2 hI2
    by_cases hA : a < m + 1
    ·have hA' : (a : Int) < (m + 1 : Nat) := by omega
     have hA6 : IntKind.i64.wrap ((a : Int) + 1) = (a + 1 : Nat) := wrap64 (by omega)
     have sqa : Sq (m + 1) ((List.range a).foldl (row far (m + 1) c) (upto far (m + 1) c R)) := Fw.fold_ind (fun _ w => Sq (m + 1) w) _ _ _ sqc fun _ _ _ hw => hw.row _ _ _ _
     simp only [go_sem, l128_3, hA', decide_true, reduceEqDiff, Nat.reduceBEq, reduceAdd, reduceIte, reduceCtorEq, reduceLeDiff]
     refine wc_for (m + 1) (fun k => [(0, .int .i64 (m + 1 : Nat)), (6, .slice (rowsA (m + 1) (m + 1)) (m + 1) (.tok m)), (58, .int .i64 (m + 1 : Nat)), (59, .int .i64 c), (10, .int .i64 c), (62, .int .i64 (m + 1 : Nat)), (63, .int .i64 a), (11, .int .i64 a), (66, .int .i64 (m + 1 : Nat)), (67, .int .i64 k)]) (fun k => ⟨heapR ((List.range k).foldl (upd far c a) ((List.range a).foldl (row far (m + 1) c) (upto far (m + 1) c R))), m + 1, toksN (m + 1)⟩) rfl rfl ?_
     intro b hb3 I3 hI3
     by_cases hB : b < m + 1
     ·have hB' : (b : Int) < (m + 1 : Nat) := by omega
      have hB6 : IntKind.i64.wrap ((b : Int) + 1) = (b + 1 : Nat) := wrap64 (by omega)
      have sqb : Sq (m + 1) ((List.range b).foldl (upd far c a) ((List.range a).foldl (row far (m + 1) c) (upto far (m + 1) c R))) := Fw.fold_ind (fun _ w => Sq (m + 1) w) _ _ _ sqa fun _ _ _ hw => hw.upd _ _ _ _
      have hnext := hI3 hB
      rw [Fw.fold_succ] at hnext
      have low := Fw.low_in (n := m + 1) (X := 1000000) (W := R) (by decide) sq far (by rw [← hR]; exact mlow) (c := c) (a := a) (b := b) h hA (by omega)
      have high : ∀ i j, i < m + 1 → j < m + 1 → ent ((List.range b).foldl (upd far c a) ((List.range a).foldl (row far (m + 1) c) (upto far (m + 1) c R))) i j ≤ far := fun i j hi hj =>
       Int.le_trans (Fw.high_in (n := m + 1) (W := R) sq far (c := c) (a := a) (b := b) (by omega) (by omega) i j (.inr hA)) (by rw [← hR]; exact mhigh i j hi hj)
      generalize (List.range b).foldl (upd far c a) ((List.range a).foldl (row far (m + 1) c) (upto far (m + 1) c R)) = V at *
      have xa : 0 ≤ (a : Int) ∧ (a : Int) < (m + 1 : Nat) := by omega
      have xb : 0 ≤ (b : Int) ∧ (b : Int) < (m + 1 : Nat) := by omega
      have xc : 0 ≤ (c : Int) ∧ (c : Int) < (m + 1 : Nat) := by omega
      have ra : (rowsA (m + 1) (m + 1))[a]? = some (.sref a 0 (m + 1) (m + 1)) := rowsA_get hA
      have rc : (rowsA (m + 1) (m + 1))[c]? = some (.sref c 0 (m + 1) (m + 1)) := rowsA_get h
      have ca := cells_ent sqb hA
      have cc := cells_ent sqb h
      have eac := ints_ent sqb hA h
      have ecb := ints_ent sqb h hB
      have eab := ints_ent sqb hA hB
      have k1 : b + 1 ≤ m + 1 := by omega
      have lenA := sqb.getD hA
      have sset := setH_ent sqb hA b
      have w1 := low a c hA h
      have w2 := low c b h hB
      have w3 := high a c hA h
      have w4 := high c b h hB
      have hwrap : IntKind.i64.wrap (ent V a c + ent V c b) = ent V a c + ent V c b := wrap64 (by
       have e7 : (7 : Int) ^ 13 = 96889010407 := by decide
       have ef : far = 1099511627776 := rfl
       omega)
      simp only [go_sem, l128_4, hB', decide_true, reduceEqDiff, Nat.reduceBEq, reduceAdd, reduceIte, reduceCtorEq, reduceLeDiff]
      by_cases g1 : ent V a c < 1099511627776
      ·by_cases g2 : ent V c b < 1099511627776
       ·have hu : upd far c a V b = Fw.put V a b (if ent V a c + ent V c b < ent V a b then ent V a c + ent V c b else ent V a b) := by
         unfold upd
         rw [if_pos ⟨g1, g2⟩]
         congr 1
         omega
        rw [hu] at hnext
        simp only [go_sem, xa, xb, xc, ra, rc, ca, cc, eac, ecb, eab, g1, g2, nat_idx, Nat.mul_one, and_self, decide_true, hwrap, builtinA, minsA, AV.cells, AV.one, List.all_cons, List.all_nil, Bool.and_self, splice, ints_len, lenA, k1, sset, hB6, reduceEqDiff, Nat.reduceBEq, reduceAdd, reduceIte, reduceCtorEq, reduceLeDiff]
        exact hnext
       ·have hu : upd far c a V b = V := by
         unfold upd
         rw [if_neg (fun x => g2 x.2)]
        rw [hu] at hnext
        simp only [go_sem, xa, xb, xc, ra, rc, ca, cc, eac, ecb, eab, g1, g2, nat_idx, Nat.mul_one, and_self, decide_true, decide_false, hB6, reduceEqDiff, Nat.reduceBEq, reduceAdd, reduceIte, reduceCtorEq, reduceLeDiff]
        exact hnext
      ·have hu : upd far c a V b = V := by
        unfold upd
        rw [if_neg (fun x => g1 x.1)]
       rw [hu] at hnext
       simp only [go_sem, xa, xb, xc, ra, rc, ca, cc, eac, ecb, eab, g1, nat_idx, Nat.mul_one, and_self, decide_false, hB6, reduceEqDiff, Nat.reduceBEq, reduceAdd, reduceIte, reduceCtorEq, reduceLeDiff]
       exact hnext
     ·have hB' : ¬ (b : Int) < (m + 1 : Nat) := by omega
      simp only [go_sem, l128_4, hB', decide_false, hA6, reduceEqDiff, Nat.reduceBEq, reduceAdd, reduceIte, reduceCtorEq, reduceLeDiff]
      have := hI2 hA
      rw [Fw.fold_succ] at this
      rw [show b = m + 1 by omega]
      exact this
    ·have hA' : ¬ (a : Int) < (m + 1 : Nat) := by omega
     simp only [go_sem, l128_3, hA', decide_false, h6, reduceEqDiff, Nat.reduceBEq, reduceAdd, reduceIte, reduceCtorEq, reduceLeDiff]
     have := hI h
     rw [show upto far (m + 1) (c + 1) R = stage far (m + 1) (upto far (m + 1) c R) c from Fw.fold_succ _ _ _] at this
     rw [show a = m + 1 by omega]
     exact this
   ·have h' : ¬ (c : Int) < (m + 1 : Nat) := by omega
    have hcm : c = m + 1 := by omega
    subst hcm
    simp only [go_sem, l128_2, h', decide_false, reduceEqDiff, Nat.reduceBEq, reduceAdd, reduceIte, reduceCtorEq, reduceLeDiff]
    clear hI hc h h' I
    have sqV : Sq (m + 1) (upto far (m + 1) (m + 1) R) := sq.upto far (m + 1) (m + 1)
    have hcm : closeM (m + 1) bs = if (List.range (m + 1)).all fun i => decide (0 ≤ ent (upto far (m + 1) (m + 1) R) i i) then some (upto far (m + 1) (m + 1) R) else none := by
     unfold closeM closed; rw [hR]
    generalize upto far (m + 1) (m + 1) R = V at *
    refine wc_forP (m + 1) (fun k => ∀ i, i < k → 0 ≤ ent V i i) (fun k => [(6, .slice (rowsA (m + 1) (m + 1)) (m + 1) (.tok m)), (120, .int .i64 (m + 1 : Nat)), (121, .int .i64 k)]) (fun k => ⟨heapR V, m + 1, toksN (m + 1)⟩) (fun i hi => absurd hi (Nat.not_lt_zero _)) rfl rfl ?_
    intro a ha hP I hI
    by_cases h : a < m + 1
    ·have h' : (a : Int) < (m + 1 : Nat) := by omega
     have h6 : IntKind.i64.wrap ((a : Int) + 1) = (a + 1 : Nat) := wrap64 (by omega)
     have xa : 0 ≤ (a : Int) ∧ (a : Int) < (m + 1 : Nat) := by omega
     have ra : (rowsA (m + 1) (m + 1))[a]? = some (.sref a 0 (m + 1) (m + 1)) := rowsA_get h
     have ca := cells_ent sqV h
     have eaa := ints_ent sqV h h
     simp only [go_sem, l128_5, h', decide_true, xa, ra, ca, eaa, nat_idx, Nat.mul_one, and_self, reduceEqDiff, Nat.reduceBEq, reduceAdd, reduceIte, reduceCtorEq, reduceLeDiff]
     by_cases g : ent V a a < 0
     ·simp only [go_sem, g, decide_true, Tryz.f128, reduceEqDiff, Nat.reduceBEq, reduceAdd, reduceIte, reduceCtorEq, reduceLeDiff]
      refine ⟨_, rfl, ?_⟩
      rw [hcm, if_neg (fun hall => by
       rw [List.all_eq_true] at hall
       have := hall a (List.mem_range.2 h)
       rw [decide_eq_true_iff] at this; omega)]
      exact .same _
     ·simp only [go_sem, g, decide_false, h6, reduceEqDiff, Nat.reduceBEq, reduceAdd, reduceIte, reduceCtorEq, reduceLeDiff]
      refine hI h fun i hi => ?_
      by_cases e : i = a
      ·subst e; omega
      ·exact hP i (by omega)
    ·have h' : ¬ (a : Int) < (m + 1 : Nat) := by omega
     simp only [go_sem, l128_5, h', decide_false, Tryz.f128, reduceEqDiff, Nat.reduceBEq, reduceAdd, reduceIte, reduceCtorEq, reduceLeDiff]
     refine ⟨_, rfl, ?_⟩
     rw [hcm, if_pos (by rw [List.all_eq_true]; intro i hi; rw [decide_eq_true_iff]; exact hP i (by have := List.mem_range.1 hi; omega))]
     refine .tuple _ _ rfl fun j x y hx hy => ?_
     match j, hx, hy with
     | 0, hx, hy =>
      simp at hx hy; subst hx; subst hy
      have := rows_frz sqV (.tok m) []
      rw [List.append_nil] at this; exact this
     | 1, hx, hy => simp at hx hy; subst hx; subst hy; exact .same _
     | j + 2, hx, hy => simp at hx
end Go.Av.Fx
end
section
namespace Go.Av.Fx
open Go Go.Av Go.Av.Tb Go.Proofs
open Go.Fw (Sq ent Bd)
structure Ln (l : LLine) : Prop where
 pts : 1 ≤ l.gives.length ∧ l.gives.length ≤ 5
 cts : l.counts.length ≤ 8
 least : 1 ≤ l.least ∧ l.least ≤ l.most
 most : l.most ≤ 60
 taps : 0 ≤ l.taps ∧ l.taps ≤ 2
 gives : ∀ g ∈ l.gives, 0 ≤ g ∧ g ≤ 60
 counts : ∀ c ∈ l.counts, (0 ≤ c.point ∧ c.point ≤ l.gives.length) ∧ 0 ≤ c.low ∧ c.low ≤ c.high ∧ c.high ≤ 400
theorem inB_iff {n lo hi : Int} : inB n lo hi = true ↔ lo ≤ n ∧ n ≤ hi := by
 simp [inB]
theorem isLine_iff {l : LLine} : isLineB l = true ↔ Ln l := by
 unfold isLineB
 simp only [Bool.and_eq_true, inB_iff, decide_eq_true_iff, Bool.not_eq_true', List.any_eq_false, badCnt, Bool.or_eq_true, not_or, Bool.not_eq_true, Bool.not_eq_false', decide_eq_true_eq]
 constructor
 ·rintro ⟨⟨⟨⟨⟨⟨h1, h2⟩, h3⟩, h4⟩, h5⟩, h6⟩, h7⟩
  refine ⟨by omega, by omega, h3, h4, h5, fun g hg => ?_, fun c hc => ?_⟩
  ·have := h6 g hg
   simp only [Bool.not_eq_false] at this
   exact inB_iff.1 this
  ·have := h7 c hc
   simp [inB] at this
   omega
 ·rintro ⟨h1, h2, h3, h4, h5, h6, h7⟩
  refine ⟨⟨⟨⟨⟨⟨by omega, by omega⟩, h3⟩, h4⟩, h5⟩, fun g hg => ?_⟩, fun c hc => ?_⟩
  ·simp only [Bool.not_eq_false]
   exact inB_iff.2 (h6 g hg)
  ·have := h7 c hc
   simp [inB]
   omega
theorem Ln.ok {l : LLine} (h : Ln l) : okLine l := by
 have := h.pts; have := h.cts; exact ⟨by show _ < _; omega, by show _ < _; omega⟩
def lowL (l : LLine) (set : List Int) (i : Nat) : Int := if set.contains (i : Int) = true then l.gives.getD i 0 + l.least else l.gives.getD i 0
def highL (l : LLine) (set : List Int) (i : Nat) : Int := if set.contains (i : Int) = true then l.gives.getD i 0 + l.most else l.gives.getD i 0
def lineB (l : LLine) (set : List Int) (b dry : Nat) : List Bd :=
 ⟨dry, b, 400⟩ :: ((List.range l.gives.length).flatMap (fun i => [⟨b + i, b + i + 1, -lowL l set i⟩, ⟨b + i + 1, b + i, highL l set i⟩]) ++
  (List.range (l.gives.length + 1)).map (fun p => ⟨b + p, dry, 0⟩) ++ l.counts.flatMap (fun c => [⟨dry, b + c.point.toNat, c.high⟩, ⟨b + c.point.toNat, dry, -c.low⟩]))
def ofBd (c : Bd) : Bound := ⟨c.a, c.b, c.m⟩
theorem bd_ofBd (c : Bd) : bd (ofBd c) = c := by simp [bd, ofBd]
theorem w64_eq {x : Int} (h : -9223372036854775808 ≤ x ∧ x ≤ 9223372036854775807) : w64 x = x := wrap64 h
theorem Ln.give {l : LLine} (h : Ln l) (i : Nat) : 0 ≤ l.gives.getD i 0 ∧ l.gives.getD i 0 ≤ 60 := by
 rw [List.getD_eq_getElem?_getD]
 cases hx : l.gives[i]? with
 | none => simp
 | some g => exact h.gives g (List.mem_of_getElem? hx)
theorem Ln.low {l : LLine} (h : Ln l) (set : List Int) (i : Nat) : 0 ≤ lowL l set i ∧ lowL l set i ≤ highL l set i ∧ highL l set i ≤ 120 := by
 have := h.give i; have := h.least; have := h.most
 unfold lowL highL; split <;> omega
theorem sumW2 {a b : Int} (ha : -4611686018427387904 ≤ a ∧ a ≤ 4611686018427387903) (hb : -4611686018427387904 ≤ b ∧ b ≤ 4611686018427387903) : sumW [a, b] = a + b := by
 simp only [sumW, List.foldl_cons, List.foldl_nil]
 have e : IntKind.i64.wrap (0 + a) = a := by rw [wrap64 (by omega)]; omega
 rw [e, wrap64 (by omega)]
theorem boundsL_eq {l : LLine} (h : Ln l) (set : List Int) {b dry : Nat} (hb : b ≤ 1000) (hd : dry ≤ 1000) : boundsL l set b dry = (lineB l set b dry).map ofBd := by
 have hp := h.pts
 unfold boundsL lineB
 rw [List.map_cons, List.map_append, List.map_append]
 have e1 : gPart l set b l.gives.length = ((List.range l.gives.length).flatMap fun i => [(⟨b + i, b + i + 1, -lowL l set i⟩ : Bd), ⟨b + i + 1, b + i, highL l set i⟩]).map ofBd := by
  unfold gPart
  rw [List.map_flatMap]
  have : ∀ (m : Nat), m ≤ l.gives.length → (List.range m).flatMap (fun i => gBounds l set b i (l.gives.getD i 0)) = (List.range m).flatMap (fun i => [(⟨b + i, b + i + 1, -lowL l set i⟩ : Bd), ⟨b + i + 1, b + i, highL l set i⟩].map ofBd) := by
   intro m
   induction m with
   | zero => intro _; rfl
   | succ m ih =>
    intro hm
    rw [List.range_succ, List.flatMap_append, List.flatMap_append, ih (by omega)]
    congr 1
    have hg := h.give m
    have hl := h.low set m
    have e1 : w64 ((b : Int) + m) = ((b + m : Nat) : Int) := by rw [w64_eq (by omega)]; omega
    have e2 : w64 (((b + m : Nat) : Int) + 1) = ((b + m + 1 : Nat) : Int) := by rw [w64_eq (by omega)]; omega
    have hle := h.least; have hmo := h.most
    have e3 : bLow l set m (l.gives.getD m 0) = lowL l set m := by
     unfold bLow lowL; split
     ·rw [sumW2 (by omega) (by omega)]
     ·rfl
    have e4 : bHigh l set m (l.gives.getD m 0) = highL l set m := by
     unfold bHigh highL; split
     ·rw [sumW2 (by omega) (by omega)]
     ·rfl
    have e5 : w64 (0 - lowL l set m) = -lowL l set m := by rw [w64_eq (by omega)]; omega
    simp only [List.flatMap_cons, List.flatMap_nil, List.append_nil, gBounds, e2, e1, e3, e4, e5, List.map_cons, List.map_nil, ofBd]
  exact this _ (Nat.le_refl _)
 have e2 : pPart b dry (l.gives.length + 1) = ((List.range (l.gives.length + 1)).map fun p => (⟨b + p, dry, 0⟩ : Bd)).map ofBd := by
  unfold pPart
  rw [List.map_map]
  refine List.map_congr_left fun p hp => ?_
  have := List.mem_range.1 hp
  have e1 : w64 ((b : Int) + p) = ((b + p : Nat) : Int) := by rw [w64_eq (by omega)]; omega
  simp only [Function.comp, ofBd, e1]
 have e3 : cPart b dry l.counts = (l.counts.flatMap fun c => [(⟨dry, b + c.point.toNat, c.high⟩ : Bd), ⟨b + c.point.toNat, dry, -c.low⟩]).map ofBd := by
  unfold cPart
  rw [List.map_flatMap]
  have : ∀ cs : List Cnt, (∀ c ∈ cs, c ∈ l.counts) → cs.flatMap (cBounds b dry) = cs.flatMap fun c => [(⟨dry, b + c.point.toNat, c.high⟩ : Bd), ⟨b + c.point.toNat, dry, -c.low⟩].map ofBd := by
   intro cs
   induction cs with
   | nil => intro _; rfl
   | cons c cs ih =>
    intro hc
    have := h.counts c (hc c List.mem_cons_self)
    have e1 : w64 ((b : Int) + c.point) = ((b + c.point.toNat : Nat) : Int) := by rw [w64_eq (by omega)]; omega
    have e5 : w64 (0 - c.low) = -c.low := by rw [w64_eq (by omega)]; omega
    rw [List.flatMap_cons, List.flatMap_cons, ih fun d hd => hc d (List.mem_cons_of_mem _ hd)]
    simp only [cBounds, e1, e5, List.map_cons, List.map_nil, ofBd]
  exact this _ fun _ h => h
 rw [e1, e2, e3]; rfl
theorem lineB_ok {l : LLine} (h : Ln l) (set : List Int) {b dry n : Nat} (hb : b + l.gives.length < n) (hd : dry < n) (hne : dry < b ∨ b + l.gives.length < dry) : ∀ c ∈ lineB l set b dry, c.Ok 400 400 n := by
 intro c hc
 unfold lineB at hc
 simp only [List.mem_cons, List.mem_append, List.mem_flatMap, List.mem_map, List.mem_range, List.not_mem_nil, or_false] at hc
 rcases hc with rfl | (⟨i, hi, rfl | rfl⟩ | ⟨p, hp, rfl⟩) | ⟨x, hx, rfl | rfl⟩
 ·exact ⟨hd, by show b < n; omega, by show dry ≠ b; omega, by show (-400 : Int) ≤ 400; decide, by show (400 : Int) ≤ 400; decide⟩
 ·have := h.low set i
  exact ⟨by show b + i < n; omega, by show b + i + 1 < n; omega, by show b + i ≠ b + i + 1; omega, by show -400 ≤ -lowL l set i; omega, by show -lowL l set i ≤ 400; omega⟩
 ·have := h.low set i
  exact ⟨by show b + i + 1 < n; omega, by show b + i < n; omega, by show b + i + 1 ≠ b + i; omega, by show -400 ≤ highL l set i; omega, by show highL l set i ≤ 400; omega⟩
 ·exact ⟨by show b + p < n; omega, hd, by show b + p ≠ dry; omega, by show (-400 : Int) ≤ 0; decide, by show (0 : Int) ≤ 400; decide⟩
 ·have := h.counts x hx
  exact ⟨hd, by show b + x.point.toNat < n; omega, by show dry ≠ b + x.point.toNat; omega, by show -400 ≤ x.high; omega, by show x.high ≤ 400; omega⟩
 ·have := h.counts x hx
  exact ⟨by show b + x.point.toNat < n; omega, hd, by show b + x.point.toNat ≠ dry; omega, by show -400 ≤ -x.low; omega, by show -x.low ≤ 400; omega⟩
theorem lineB_len {l : LLine} (h : Ln l) (set : List Int) (b dry : Nat) : (lineB l set b dry).length ≤ 100 := by
 have := h.pts; have := h.cts
 have e1 : ∀ m, ((List.range m).flatMap fun i => [(⟨b + i, b + i + 1, -lowL l set i⟩ : Bd), ⟨b + i + 1, b + i, highL l set i⟩]).length = 2 * m := by
  intro m
  induction m with
  | zero => rfl
  | succ m ih => rw [List.range_succ, List.flatMap_append, List.length_append, ih]; simp; omega
 have e2 : ∀ cs : List Cnt, (cs.flatMap fun c => [(⟨dry, b + c.point.toNat, c.high⟩ : Bd), ⟨b + c.point.toNat, dry, -c.low⟩]).length = 2 * cs.length := by
  intro cs
  induction cs with
  | nil => rfl
  | cons c cs ih => rw [List.flatMap_cons, List.length_append, ih]; simp; omega
 unfold lineB
 simp only [List.length_cons, List.length_append, e1, e2, List.length_map, List.length_range]
 omega
theorem of_in {cs : List Bd} {n : Nat} {U B : Int} (h : ∀ c ∈ cs, c.Ok U B n) : ∀ x ∈ cs.map ofBd, 0 ≤ x.a ∧ x.a < n ∧ 0 ≤ x.b ∧ x.b < n := by
 intro x hx
 obtain ⟨c, hc, rfl⟩ := List.mem_map.1 hx
 have h1 := (h c hc).a; have h2 := (h c hc).b
 show 0 ≤ (c.a : Int) ∧ (c.a : Int) < n ∧ 0 ≤ (c.b : Int) ∧ (c.b : Int) < n
 omega
theorem of_low {cs : List Bd} {n : Nat} (h : ∀ c ∈ cs, c.Ok 400 400 n) : ∀ x ∈ cs.map ofBd, -1000000 ≤ x.most := by
 intro x hx
 obtain ⟨c, hc, rfl⟩ := List.mem_map.1 hx
 have h1 := (h c hc).low
 show -1000000 ≤ c.m
 omega
def closeC (n : Nat) (cs : List Bd) : Option Fw.Mat := Fw.closed far n (cs.foldl Fw.addc (Fw.base far n))
theorem closeM_of (n : Nat) (cs : List Bd) : closeM n (cs.map ofBd) = closeC n cs := by
 unfold closeM bsM closeC
 rw [List.map_map]
 have : cs.map (bd ∘ ofBd) = cs := by
  have : cs.map (bd ∘ ofBd) = cs.map id := List.map_congr_left fun c _ => bd_ofBd c
  rw [this, List.map_id]
 rw [this]
def explM (l : LLine) (set : List Int) : Option Fw.Mat := if (set.length : Int) > l.taps then none else closeC (l.gives.length + 2) (lineB l set 0 (l.gives.length + 1))
theorem explained_pc (l : LLine) (h : Ln l) (set : List Int) (hs : set.length ≤ 1000) : PC Tryz.prog 84 [lineA l, sl set] (.pure (closeA (explM l set))) := by
 have hp := h.pts
 refine PC.of_empty (AC.run (E_ok _) mix Tryz.func84 m84 rfl rfl rfl (Nat.le_of_ble_eq_true rfl) ?_) (by simp [bndL, AV.bnd]) (closeA_bnd _)
 simp only [go_sem, boxA, AV.cells, builtinA, reduceEqDiff, Nat.reduceBEq, reduceAdd, reduceIte, reduceCtorEq, reduceLeDiff]
 refine sb_dec (fun hd => ?_) (fun hd => ?_)
 ·simp only [go_sem, Tryz.f84, reduceEqDiff, Nat.reduceBEq, reduceAdd, reduceIte, reduceCtorEq, reduceLeDiff]
  unfold explM
  rw [if_pos hd]; rfl
 ·have e1 : IntKind.i64.wrap ((l.gives.length : Int) + 1) = (l.gives.length + 1 : Nat) := wrap64 (by omega)
  have e2 : IntKind.i64.wrap (((l.gives.length + 1 : Nat) : Int) + 1) = (l.gives.length + 2 : Nat) := wrap64 (by omega)
  have hm := h.cts
  simp only [go_sem, builtinA, e1, e2, reduceEqDiff, Nat.reduceBEq, reduceAdd, reduceIte, reduceCtorEq, reduceLeDiff]
  refine ct n129 (bounds_pc l ⟨by omega, by omega⟩ set (by show _ < _; omega) 0 (l.gives.length + 1 : Nat)) (SubL.refl _) ?_
  simp only [go_sem, reduceEqDiff, Nat.reduceBEq, reduceAdd, reduceIte, reduceCtorEq, reduceLeDiff]
  have hB := boundsL_eq h set (b := 0) (dry := l.gives.length + 1) (by omega) (by omega)
  have hok := lineB_ok h set (b := 0) (dry := l.gives.length + 1) (n := l.gives.length + 2) (by omega) (by omega) (.inr (by omega))
  have hlen := lineB_len h set 0 (l.gives.length + 1)
  rw [show ((0 : Nat) : Int) = 0 from rfl] at hB
  rw [hB]
  refine cp n128 (close_pc (l.gives.length + 2) (by omega) (by omega) _ (by simp; omega) (of_in hok) (of_low hok)) (SubL.cons (Sub.refl _) (SubL.cons (Sub.unk _ _ _) (SubL.refl []))) ?_
  rw [closeM_of]
  have he : explM l set = closeC (l.gives.length + 2) (lineB l set 0 (l.gives.length + 1)) := by unfold explM; rw [if_neg hd]
  rw [he]
  cases closeC (l.gives.length + 2) (lineB l set 0 (l.gives.length + 1)) with
  | none => simp only [go_sem, closeA, extractA, Tryz.f84, reduceEqDiff, Nat.reduceBEq, reduceAdd, reduceIte, reduceCtorEq, reduceLeDiff]
  | some W => simp only [go_sem, closeA, extractA, Tryz.f84, reduceEqDiff, Nat.reduceBEq, reduceAdd, reduceIte, reduceCtorEq, reduceLeDiff]
end Go.Av.Fx
end
section
namespace Go.Av.Fx
open Go Go.Av Go.Av.Tb Go.Proofs
open Go.Fw (Sq ent Bd Mat)
@[go_sem] theorem one_int (k : IntKind) (n : Int) : AV.one (.int k n) = true := rfl
@[go_sem] theorem one_bool (b : Bool) : AV.one (.bool b) = true := rfl
@[go_sem] theorem one_str (b : ByteArray) : AV.one (.str b) = true := rfl
@[go_sem] theorem one_slice (l : List AV) (n : Nat) (t : Tail) : AV.one (.slice l n t) = true := rfl
@[go_sem] theorem one_nilS : AV.one .nilS = true := rfl
@[go_sem] theorem one_sref (i o n c : Nat) : AV.one (.sref i o n c) = true := rfl
@[go_sem] theorem one_ref (i o : Nat) : AV.one (.ref i o) = true := rfl
@[go_sem] theorem one_eptr (l : List AV) (o : Nat) : AV.one (.eptr l o) = true := rfl
@[go_sem] theorem one_func (f : Fn) (a b : List AV) : AV.one (.func f a b) = true := rfl
@[go_sem] theorem one_nilFunc : AV.one .nilFunc = true := rfl
@[go_sem] theorem one_iface (t : TypeId) (v : AV) : AV.one (.iface t v) = true := rfl
@[go_sem] theorem one_map (i : Nat) : AV.one (.map i) = true := rfl
@[go_sem] theorem cl_agg (l : List AV) : AV.cells (.agg l) = l := rfl
@[go_sem] theorem cl_int (k : IntKind) (n : Int) : AV.cells (.int k n) = [.int k n] := rfl
@[go_sem] theorem cl_bool (b : Bool) : AV.cells (.bool b) = [.bool b] := rfl
@[go_sem] theorem cl_str (b : ByteArray) : AV.cells (.str b) = [.str b] := rfl
@[go_sem] theorem cl_slice (l : List AV) (n : Nat) (t : Tail) : AV.cells (.slice l n t) = [.slice l n t] := rfl
@[go_sem] theorem cl_nilS : AV.cells .nilS = [.nilS] := rfl
@[go_sem] theorem cl_sref (i o n c : Nat) : AV.cells (.sref i o n c) = [.sref i o n c] := rfl
@[go_sem] theorem cl_ref (i o : Nat) : AV.cells (.ref i o) = [.ref i o] := rfl
@[go_sem] theorem cl_eptr (l : List AV) (o : Nat) : AV.cells (.eptr l o) = [.eptr l o] := rfl
@[go_sem] theorem cl_func (f : Fn) (a b : List AV) : AV.cells (.func f a b) = [.func f a b] := rfl
@[go_sem] theorem cl_nilFunc : AV.cells .nilFunc = [.nilFunc] := rfl
@[go_sem] theorem cl_iface (t : TypeId) (v : AV) : AV.cells (.iface t v) = [.iface t v] := rfl
@[go_sem] theorem cl_map (i : Nat) : AV.cells (.map i) = [.map i] := rfl
theorem cells_one {v : AV} (h : AV.one v = true) : AV.cells v = [v] := by cases v <;> first | rfl | cases h
section
variable (a b c : Int) (l m : List AV) (n k : Nat) (t u : Tail) (x0 x1 x2 x3 x4 : AV)
@[go_sem] theorem bd42_ : buildA T 42 [] = some (.agg [.int .i64 0, .int .i64 0]) := rfl
@[go_sem] theorem bd42_2 : buildA T 42 [(0, .int .i64 a), (1, .int .i64 b)] = some (.agg [.int .i64 a, .int .i64 b]) := rfl
@[go_sem] theorem bd82_3 : buildA T 82 [(0, .int .i64 a), (1, .int .i64 b), (2, .int .i64 c)] = some (.agg [.int .i64 a, .int .i64 b, .int .i64 c]) := rfl
@[go_sem] theorem bd128_2 : buildA T 128 [(0, .int .i64 a), (1, .int .i64 b)] = some (.agg [.int .i64 a, .int .i64 b]) := rfl
@[go_sem] theorem bd113_ss : buildA T 113 [(0, .slice l n t), (1, .slice m k u)] = some (.agg [.slice l n t, .slice m k u]) := rfl
@[go_sem] theorem bd113_ns : buildA T 113 [(0, .nilS), (1, .slice m k u)] = some (.agg [.nilS, .slice m k u]) := rfl
@[go_sem] theorem bd25_ : buildA T 25 [] = some (.agg [.nilS, .int .i64 0, .int .i64 0, .int .i64 0, .nilS]) := rfl
@[go_sem] theorem bd25_3 : buildA T 25 [(1, .int .i64 a), (2, .int .i64 b), (3, .int .i64 c)] = some (.agg [.nilS, .int .i64 a, .int .i64 b, .int .i64 c, .nilS]) := rfl
@[go_sem] theorem bd25_5 : buildA T 25 [(0, .slice l n t), (1, .int .i64 a), (2, .int .i64 b), (3, .int .i64 c), (4, .slice m k u)] = some (.agg [.slice l n t, .int .i64 a, .int .i64 b, .int .i64 c, .slice m k u]) := rfl
@[go_sem] theorem bd108_ : buildA T 108 [] = some (.agg [.nilS, .int .i64 0, .int .i64 0, .int .i64 0, .nilS, .nilS]) := rfl
@[go_sem] theorem bd108_1 : buildA T 108 [(0, .agg [x0, x1, x2, x3, x4])] = some (.agg [x0, x1, x2, x3, x4, .nilS]) := rfl
@[go_sem] theorem bs22_3 : buildSliceA T 22 3 [(0, .int .i64 a), (1, .int .i64 b), (2, .int .i64 c)] = some (.slice [.int .i64 a, .int .i64 b, .int .i64 c] 3 .exact) := rfl
@[go_sem] theorem bs22_0 : buildSliceA T 22 0 [] = some (.slice [] 0 .exact) := rfl
@[go_sem] theorem bs106_1 : buildSliceA T 106 1 [(0, .agg [x0, x1])] = some (.slice [x0, x1] 1 .exact) := rfl
@[go_sem] theorem bs126_1 : buildSliceA T 126 1 [(0, .agg [.int .i64 a, .int .i64 b])] = some (.slice [.int .i64 a, .int .i64 b] 1 .exact) := rfl
@[go_sem] theorem bs23_1 : buildSliceA T 23 1 [(0, .agg [.int .i64 a, .int .i64 b, .int .i64 c])] = some (.slice [.int .i64 a, .int .i64 b, .int .i64 c] 1 .exact) := rfl
@[go_sem] theorem bs23_2 (d e f : Int) : buildSliceA T 23 2 [(0, .agg [.int .i64 a, .int .i64 b, .int .i64 c]), (1, .agg [.int .i64 d, .int .i64 e, .int .i64 f])] = some (.slice [.int .i64 a, .int .i64 b, .int .i64 c, .int .i64 d, .int .i64 e, .int .i64 f] 2 .exact) := rfl
@[go_sem] theorem bs28_1 : buildSliceA T 28 1 [(0, .int .i64 a)] = some (.slice [.int .i64 a] 1 .exact) := rfl
@[go_sem] theorem bs28_3 : buildSliceA T 28 3 [(0, .int .i64 a), (1, .int .i64 b), (2, .int .i64 c)] = some (.slice [.int .i64 a, .int .i64 b, .int .i64 c] 3 .exact) := rfl
@[go_sem] theorem bs32_1 : buildSliceA T 32 1 [(0, .slice l n t)] = some (.slice [.slice l n t] 1 .exact) := rfl
@[go_sem] theorem bs32_1n : buildSliceA T 32 1 [(0, .nilS)] = some (.slice [.nilS] 1 .exact) := rfl
@[go_sem] theorem bs32_3 (o : List AV) (q : Nat) (v : Tail) : buildSliceA T 32 3 [(0, .slice l n t), (1, .slice m k u), (2, .slice o q v)] = some (.slice [.slice l n t, .slice m k u, .slice o q v] 3 .exact) := rfl
@[go_sem] theorem bs93_1 (i o : Nat) : buildSliceA T 93 1 [(0, .sref i o n k)] = some (.slice [.sref i o n k] 1 .exact) := rfl
end
abbrev wS (W : Mat) : AV := .slice (W.map sl) W.length .unk
structure Span where
 low : Int
 high : Int
 deriving DecidableEq
abbrev spA (s : Span) : AV := .agg [.int .i64 s.low, .int .i64 s.high]
@[simp] theorem wS_bnd (n k : Nat) (W : Mat) : bndL n k (W.map sl) = true := bndL_map _ (fun _ => by simp [AV.bnd]) W
theorem wS_get {n : Nat} {W : Mat} (h : Sq n W) {a : Nat} (ha : a < n) : (W.map sl)[a]? = some (sl (W.getD a [])) := by
 have hl : a < W.length := by rw [h.1]; exact ha
 rw [List.getElem?_map, List.getElem?_eq_getElem hl, List.getD_eq_getElem?_getD, List.getElem?_eq_getElem hl]; rfl
def spanM (W : Mat) (a b : Nat) : Span := ⟨w64 (0 - ent W b a), ent W a b⟩
theorem least_pc {n : Nat} {W : Mat} (h : Sq n W) {a b : Nat} (ha : a < n) (hb : b < n) : PC Tryz.prog 131 [wS W, .int .i64 a, .int .i64 b] (.pure (.int .i64 (w64 (0 - ent W b a)))) := by
 refine PC.of_empty (AC.run (E_ok _) mix Tryz.func131 m131 rfl rfl rfl (Nat.le_of_ble_eq_true rfl) ?_) (by simp [bndL, AV.bnd]) rfl
 have xa : 0 ≤ (a : Int) ∧ (a : Int) < ((W.getD b []).length : Int) := by rw [h.getD hb]; omega
 have xb : 0 ≤ (b : Int) ∧ (b : Int) < (W.length : Int) := by rw [h.1]; omega
 have rb := wS_get h hb
 have eb := ints_ent h hb ha
 simp only [go_sem, xa, xb, rb, eb, nat_idx, Nat.mul_one, and_self, unA, Tryz.f131, reduceEqDiff, Nat.reduceBEq, reduceAdd, reduceIte, reduceCtorEq, reduceLeDiff]
 rfl
theorem greatest_pc {n : Nat} {W : Mat} (h : Sq n W) {a b : Nat} (ha : a < n) (hb : b < n) : PC Tryz.prog 132 [wS W, .int .i64 a, .int .i64 b] (.pure (.int .i64 (ent W a b))) := by
 refine PC.of_empty (AC.run (E_ok _) mix Tryz.func132 m132 rfl rfl rfl (Nat.le_of_ble_eq_true rfl) ?_) (by simp [bndL, AV.bnd]) rfl
 have xa : 0 ≤ (b : Int) ∧ (b : Int) < ((W.getD a []).length : Int) := by rw [h.getD ha]; omega
 have xb : 0 ≤ (a : Int) ∧ (a : Int) < (W.length : Int) := by rw [h.1]; omega
 have rb := wS_get h ha
 have eb := ints_ent h ha hb
 simp only [go_sem, xa, xb, rb, eb, nat_idx, Nat.mul_one, and_self, unA, Tryz.f132, reduceEqDiff, Nat.reduceBEq, reduceAdd, reduceIte, reduceCtorEq, reduceLeDiff]
@[go_sem] theorem bld159 (f g : Fn) (a b c d : List AV) : buildA T 159 [(0, .func f a b), (1, .func g c d)] = some (.agg [.func f a b, .func g c d]) := rfl
@[go_sem] theorem ix159_0 (f g : Fn) (a b c d : List AV) : indexA T 159 (.agg [.func f a b, .func g c d]) (.int .i64 ((0 : Nat) : Int)) = some (.func f a b) := rfl
@[go_sem] theorem ix159_1 (f g : Fn) (a b c d : List AV) : indexA T 159 (.agg [.func f a b, .func g c d]) (.int .i64 ((1 : Nat) : Int)) = some (.func g c d) := rfl
theorem tn0 : Int.toNat 0 = 0 := rfl
theorem tn1 : Int.toNat 1 = 1 := rfl
theorem span_pc {n : Nat} {W : Mat} (h : Sq n W) {a b : Nat} (ha : a < n) (hb : b < n) : PC Tryz.prog 89 [wS W, .int .i64 a, .int .i64 b] (.pure (spA (spanM W a b))) := by
 refine PC.of_empty (AC.run (E_ok _) mix Tryz.func89 m89 rfl rfl rfl (Nat.le_of_ble_eq_true rfl) ?_) (by simp [bndL, AV.bnd]) rfl
 simp only [go_sem, reduceEqDiff, Nat.reduceBEq, reduceAdd, reduceIte, reduceCtorEq, reduceLeDiff]
 refine wc_for 2 (fun k => [(1, .int .i64 a), (2, .int .i64 b), (6, .ref 0 0), (7, .ref 1 0), (14, .agg [.func (.func 131) [wS W] [], .func (.func 132) [wS W] []]), (15, .int .i64 k)])
  (fun k => ⟨[some (.cells [.int .i64 0, .int .i64 0]), some (.cells [.int .i64 (if 0 < k then w64 (0 - ent W b a) else 0), .int .i64 (if 1 < k then ent W a b else 0)])], 0, []⟩) rfl rfl ?_
 intro k hk I hI
 match k, hk, hI with
 | 0, _, hI =>
  have h' : ((0 : Nat) : Int) < 2 := by decide
  have h2 : 0 ≤ ((0 : Nat) : Int) ∧ ((0 : Nat) : Int) < 2 := by decide
  have h3 : ((0 : Nat) : Int) < ((2 : Nat) : Int) := by decide
  have h4 : IntKind.i64.wrap (((0 : Nat) : Int) + 1) = (0 + 1 : Nat) := wrap64 (by decide)
  simp only [go_sem, l89_0, h', decide_true, h2, nat_idx, and_self, Nat.mul_one, reduceEqDiff, Nat.reduceBEq, reduceAdd, reduceIte, reduceCtorEq, reduceLeDiff]
  refine cp n131 (least_pc h ha hb) (SubL.refl _) ?_
  simp only [go_sem, h2, h3, nat_idx, and_self, true_and, Nat.mul_one, h4, reduceEqDiff, Nat.reduceBEq, reduceAdd, reduceIte, reduceCtorEq, reduceLeDiff]
  exact hI (by decide)
 | 1, _, hI =>
  have h' : ((1 : Nat) : Int) < 2 := by decide
  have h2 : 0 ≤ ((1 : Nat) : Int) ∧ ((1 : Nat) : Int) < 2 := by decide
  have h3 : ((1 : Nat) : Int) < ((2 : Nat) : Int) := by decide
  have h4 : IntKind.i64.wrap (((1 : Nat) : Int) + 1) = (1 + 1 : Nat) := wrap64 (by decide)
  simp only [go_sem, l89_0, h', decide_true, h2, nat_idx, and_self, Nat.mul_one, reduceEqDiff, Nat.reduceBEq, reduceAdd, reduceIte, reduceCtorEq, reduceLeDiff]
  refine cp n132 (greatest_pc h ha hb) (SubL.refl _) ?_
  simp only [go_sem, h2, h3, nat_idx, and_self, true_and, Nat.mul_one, h4, reduceEqDiff, Nat.reduceBEq, reduceAdd, reduceIte, reduceCtorEq, reduceLeDiff]
  exact hI (by decide)
 | 2, _, hI =>
  have h' : ¬ ((2 : Nat) : Int) < 2 := by decide
  have z0 : (0 : Int) ≤ 0 ∧ (0 : Int) < ((2 : Nat) : Int) := by decide
  have z1 : (0 : Int) ≤ 1 ∧ (1 : Int) < ((2 : Nat) : Int) := by decide
  simp only [go_sem, l89_0, h', decide_false, z0, z1, and_self, tn0, tn1, Nat.zero_mul, Nat.one_mul, Tryz.f89, reduceEqDiff, Nat.reduceBEq, reduceAdd, reduceIte, reduceCtorEq, reduceLeDiff]
  rfl
abbrev Theft := List Int × Mat
abbrev thC (t : Theft) : List AV := [sl t.1, wS t.2]
def thefts (L : List Theft) : List AV := L.flatMap thC
@[simp] theorem thefts_bnd (n k : Nat) (L : List Theft) : bndL n k (thefts L) = true := bndL_flatMap _ (fun t => by simp [bndL, AV.bnd]) L
@[simp] theorem thefts_len (L : List Theft) : (thefts L).length = L.length * 2 := by
 induction L with
 | nil => rfl
 | cons t L ih => simp only [thefts, List.flatMap_cons, List.length_append] at ih ⊢; rw [ih]; simp; omega
theorem thefts_at : ∀ (L : List Theft) (k : Nat) (h : k < L.length), ((thefts L).drop (k * 2)).take 2 = thC L[k]
 | t :: L, 0, h => by simp [thefts]
 | t :: L, k + 1, h => by
  have := thefts_at L k (by simpa using h)
  rw [show (k + 1) * 2 = 2 + k * 2 by omega, ← List.drop_drop]
  simpa [thefts] using this
abbrev lnC (l : LLine) (L : List Theft) : List AV := [sl l.gives, .int .i64 l.least, .int .i64 l.most, .int .i64 l.taps, .slice (cnts l.counts) l.counts.length .unk, .slice (thefts L) L.length .unk]
attribute [go_sem] lnC thC
theorem sl_both {cs : List AV} {n a b : Nat} {tl : Tail} (hl : cs.length = n) (h : a ≤ b) (hb : b ≤ n) : sliceA T 22 (.slice cs n tl) (some (.int .i64 a)) (some (.int .i64 b)) none = some (.slice ((cs.drop a).take (b - a)) (b - a) .unk) := by
 have : sliceA T 22 (.slice cs n tl) (some (.int .i64 a)) (some (.int .i64 b)) none = if cs.length = n * 1 then (Go.Av.bnd (some (.int .i64 b)) n n).bind fun h => (Go.Av.bnd (some (.int .i64 a)) 0 h).map fun l => .slice ((cs.drop (l * 1)).take ((h - l) * 1)) (h - l) .unk else none := rfl
 have e1 : Go.Av.bnd (some (.int .i64 (b : Nat))) n n = some b := by simp [Go.Av.bnd]; omega
 have e2 : Go.Av.bnd (some (.int .i64 (a : Nat))) 0 b = some a := by simp [Go.Av.bnd]; omega
 rw [this, if_pos (by omega), e1, Option.bind_some, e2]
 simp
theorem ints_drop (l : List Int) (a n : Nat) : ((ints l).drop a).take n = ints ((l.drop a).take n) := by simp [ints, List.map_drop, List.map_take]
def lostS (l : LLine) (W : Mat) (a b : Nat) : Span :=
 ⟨w64 ((spanM W b a).low - sumW ((l.gives.drop a).take (b - a))), w64 ((spanM W b a).high - sumW ((l.gives.drop a).take (b - a)))⟩
theorem lost_pc {n : Nat} {W : Mat} (h : Sq n W) (set : List Int) (l : LLine) (hl : l.gives.length ≤ 1000) {a b : Nat} (ha : a < n) (hb : b < n) (hab : a ≤ b) (hbl : b ≤ l.gives.length) :
  PC Tryz.prog 85 [.agg (thC (set, W)), lineA l, .int .i64 a, .int .i64 b] (.pure (spA (lostS l W a b))) := by
 refine PC.of_empty (AC.run (E_ok _) mix Tryz.func85 m85 rfl rfl rfl (Nat.le_of_ble_eq_true rfl) ?_) (by simp [bndL, AV.bnd]) rfl
 simp only [go_sem, boxA, reduceEqDiff, Nat.reduceBEq, reduceAdd, reduceIte, reduceCtorEq, reduceLeDiff]
 refine cp n89 (span_pc h hb ha) (SubL.refl _) ?_
 have e0 := sl_both (cs := ints l.gives) (tl := .unk) (by simp) hab hbl
 have e1 : ((l.gives.drop a).take (b - a)).length = b - a := by rw [List.length_take, List.length_drop]; omega
 have hs := sum_pc ((l.gives.drop a).take (b - a)) (by show _ < _; omega)
 have e2 : sl ((l.gives.drop a).take (b - a)) = .slice (ints ((l.gives.drop a).take (b - a))) (b - a) .unk := by show AV.slice _ _ _ = _; rw [e1]
 rw [e2] at hs
 simp only [go_sem, e0, ints_drop, and_self, reduceEqDiff, Nat.reduceBEq, reduceAdd, reduceIte, reduceCtorEq, reduceLeDiff]
 refine cp n130 hs (SubL.refl _) ?_
 simp only [go_sem, and_self, Tryz.f85, reduceEqDiff, Nat.reduceBEq, reduceAdd, reduceIte, reduceCtorEq, reduceLeDiff]
 rfl
end Go.Av.Fx
end
section
namespace Go.Av.Fx
open Go Go.Av Go.Av.Tb Go.Proofs
open Go.Fw (Sq ent Bd Mat)
mutual
theorem bnd_le {n k n' k' : Nat} (hn : n ≤ n') (hk : k ≤ k') : ∀ v : AV, v.bnd n k = true → v.bnd n' k' = true
 | .ref i o, h => by simp only [AV.bnd, decide_eq_true_iff] at h ⊢; omega
 | .sref i _ _ _, h => by simp only [AV.bnd, decide_eq_true_iff] at h ⊢; omega
 | .map i, h => by simp only [AV.bnd, decide_eq_true_iff] at h ⊢; omega
 | .eptr l _, h => by simp only [AV.bnd] at h ⊢; exact bndL_le hn hk l h
 | .slice l _ .unk, h => by simp only [AV.bnd] at h ⊢; exact bndL_le hn hk l h
 | .slice l _ .exact, h => by simp only [AV.bnd] at h ⊢; exact bndL_le hn hk l h
 | .slice l _ (.tok j), h => by
  simp only [AV.bnd, Bool.and_eq_true, decide_eq_true_iff] at h ⊢
  exact ⟨bndL_le hn hk l h.1, by omega⟩
 | .func _ a b, h => by
  simp only [AV.bnd, Bool.and_eq_true] at h ⊢
  exact ⟨bndL_le hn hk a h.1, bndL_le hn hk b h.2⟩
 | .iface _ v, h => by simp only [AV.bnd] at h ⊢; exact bnd_le hn hk v h
 | .agg l, h => by simp only [AV.bnd] at h ⊢; exact bndL_le hn hk l h
 | .tuple l, h => by simp only [AV.bnd] at h ⊢; exact bndL_le hn hk l h
 | .bool _, _ => rfl
 | .int _ _, _ => rfl
 | .str _, _ => rfl
 | .nilp, _ => rfl
 | .nilS, _ => rfl
 | .nilFunc, _ => rfl
 | .nilIface, _ => rfl
 | .nilMap, _ => rfl
theorem bndL_le {n k n' k' : Nat} (hn : n ≤ n') (hk : k ≤ k') : ∀ l : List AV, bndL n k l = true → bndL n' k' l = true
 | [], _ => rfl
 | v :: l, h => by
  simp only [bndL, Bool.and_eq_true] at h ⊢
  exact ⟨bnd_le hn hk v h.1, bndL_le hn hk l h.2⟩
end
def joinS (a b : Span) : Span := ⟨if b.low < a.low then b.low else a.low, if b.high > a.high then b.high else a.high⟩
def overS (L : List Theft) (f : Theft → Span) : Span := L.foldl (fun o t => joinS o (f t)) (f (L.headD ([], [])))
theorem over_pc (l : LLine) (L : List Theft) (hL : L.length ≤ 1000) (hne : 0 < L.length) (g : FuncId) (ng : Callable Tryz.prog g) (caps : List AV) (hc : bndL 0 0 caps = true) (f : Theft → Span)
  (hg : ∀ t ∈ L, PC Tryz.prog g (.agg (thC t) :: caps) (.pure (spA (f t)))) : PC Tryz.prog 87 [.agg (lnC l L), .func (.func g) [] caps] (.pure (spA (overS L f))) := by
 refine PC.of_empty (AC.run (E_ok _) mix Tryz.func87 m87 rfl rfl rfl (Nat.le_of_ble_eq_true rfl) ?_) (by simp [bndL, AV.bnd, hc]) rfl
 have z0 : (0 : Int) ≤ 0 ∧ (0 : Int) < (L.length : Int) := by omega
 have z1 : 0 * 2 + 2 ≤ (thefts L).length := by rw [thefts_len]; omega
 have z2 := thefts_at L 0 hne
 have z3 : L.headD ([], []) = L[0] := by
  cases L with
  | nil => simp at hne
  | cons t L => rfl
 rw [Nat.zero_mul] at z1 z2
 rw [List.drop_zero] at z2
 simp only [go_sem, boxA, z0, z1, z2, tn0, Nat.zero_mul, reduceEqDiff, Nat.reduceBEq, reduceAdd, reduceIte, reduceCtorEq, reduceLeDiff]
 refine cp ng (hg _ (List.getElem_mem hne)) (SubL.refl _) ?_
 simp only [go_sem, builtinA, reduceEqDiff, Nat.reduceBEq, reduceAdd, reduceIte, reduceCtorEq, reduceLeDiff]
 refine wc_forG L.length (fun k => [(1, .func (.func g) [] caps), (4, .ref 1 0), (5, .ref 2 0), (16, .slice (thefts L) L.length .unk), (17, .int .i64 L.length), (18, .int .i64 k)])
  (fun k => ⟨[some (.cells (lnC l L)), some (.cells [.int .i64 0, .int .i64 0]), some (.cells [.int .i64 ((L.take k).foldl (fun o t => joinS o (f t)) (f L[0])).low, .int .i64 ((L.take k).foldl (fun o t => joinS o (f t)) (f L[0])).high])], 0, []⟩) rfl rfl (fun k hk => ?_) ?_
 ·refine ⟨Nat.zero_le _, Nat.zero_le _, by simp [bndTS, AV.bnd]; exact ⟨rfl, bndL_le (Nat.zero_le _) (Nat.zero_le _) _ hc⟩, fun i B hB => ?_, fun t ht => by cases ht⟩
  match i, hB with
  | 0, hB => simp at hB; subst hB; simp [Blk.bnd, bndL, AV.bnd]
  | 1, hB => simp at hB; subst hB; simp [Blk.bnd, bndL, AV.bnd]
  | 2, hB => simp at hB; subst hB; simp [Blk.bnd, bndL, AV.bnd]
  | i + 3, hB => simp at hB
 intro k hk I hI
 by_cases h : k < L.length
 ·have h' : (k : Int) < L.length := by omega
  have h2 : 0 ≤ (k : Int) ∧ (k : Int) < L.length := by omega
  have h3 : k * 2 + 2 ≤ (thefts L).length := by rw [thefts_len]; omega
  have h5 := thefts_at L k h
  have h6 : IntKind.i64.wrap ((k : Int) + 1) = (k + 1 : Nat) := wrap64 (by omega)
  simp only [go_sem, l87_0, h', decide_true, h2, h3, h5, reduceEqDiff, Nat.reduceBEq, reduceAdd, reduceIte, reduceCtorEq, reduceLeDiff]
  refine cp ng (hg _ (List.getElem_mem h)) (SubL.refl _) ?_
  have hI' := hI h
  rw [foldl_take _ _ _ _ h] at hI'
  simp only [go_sem, builtinA, minsA, maxsA, h6, reduceEqDiff, Nat.reduceBEq, reduceAdd, reduceIte, reduceCtorEq, reduceLeDiff]
  exact hI' [some (.cells [sl L[k].1, wS L[k].2]), some (.cells [.int .i64 (f L[k]).low, .int .i64 (f L[k]).high])]
 ·have h' : ¬ (k : Int) < L.length := by omega
  simp only [go_sem, l87_0, h', decide_false, Tryz.f87, reduceEqDiff, Nat.reduceBEq, reduceAdd, reduceIte, reduceCtorEq, reduceLeDiff]
  rw [List.take_of_length_le (by omega)]
  unfold overS
  rw [z3]
end Go.Av.Fx
end
section
namespace Go.Av
open Go
def Env.iter (E : Env) (S : St) (l : Nat) (Y : List AV → St → (AV → St → Prop) → Prop) (C : Cx → Prop) : Env :=
 {E with base := S.heap.length, bt := S.nt, R := none, Y := fun l' args S2 R2 => l' = l ∧ Y args S2 R2, C := C }
theorem IterC.run {E : Env} (hE : E.Ok) (hmix : E.P.follows .mixedOrders = true) {f : FuncId} {fn : Func} {ks : Nat → List Nat} {dm : Nat → Nat × List Bool} {mc : MC} (hf : E.P.funcs[f]? = some fn) (hm : fn.body.bind (toMC E.N ks dm) = some mc) (hN : fn.ntmps = E.N) {caps : List AV} {S : St} {Y : List AV → St → (AV → St → Prop) → Prop} {R : St → Prop}
  (hargs : caps.length + 1 ≤ E.N)
  (h : ∀ (l : Nat) (C : Cx → Prop), WC (E.iter S l Y C) mc (bodyQ (E.iter S l Y C) fn.results.toList fun e S' => (∃ x, e = .ret x) ∧ R S') (argTS 0 (.func (.yield l) [] [] :: caps)) S) : IterC E.P f caps S Y R := by
 intro l C hCle hY c w vs hC hst hl
 have hok : (E.iter S l Y C).Ok := ⟨hE.T, hE.M, hCle, fun l' args S2 K c w vs ⟨e, hy⟩ hc hs hr => by
  subst e; exact hY args S2 K c w vs hy hc hs hr⟩
 cases hb : fn.body with
 | none => rw [hb] at hm; cases hm
 | some code =>
  rw [hb] at hm
  refine (AC.of_bodyC (E := E.iter S l Y C) hok hf hb (toMC_ok _ _ hm) hN rfl rfl (by show caps.length + 1 ≤ E.N; exact hargs) (fun E' hE' hP => draw_ok hE' (hP ▸ hmix)) (h l C) rfl c w vs hC hst hl).mono fun e w' ⟨ae, S', c', h1, h2, h3, h4⟩ => ?_
  obtain ⟨⟨x, rfl⟩, hR⟩ := h2
  cases e with
  | returned y => exact ⟨y, S', c', rfl, h1, hR, h4⟩
  | panicked ch => exact h3.elim
  | outgrown => exact h3.elim
end Go.Av
end

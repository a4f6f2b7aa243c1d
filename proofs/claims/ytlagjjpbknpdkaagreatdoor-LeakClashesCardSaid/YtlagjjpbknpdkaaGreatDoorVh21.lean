/- Part 21 of the proof. -/
import Derived.Test.YtlagjjpbknpdkaaGreatDoorVh20
set_option linter.all false
set_option linter.unusedVariables false
set_option linter.unusedSimpArgs false
set_option linter.unusedSectionVars false
open Nat (reduceEqDiff reduceAdd reduceLeDiff)
section
namespace Go.Av.Fx
open Go Go.Av Go.Av.Tb Go.Proofs
open Go.Fw (Sq ent Bd Mat)
noncomputable def Ek (n : Nat) (S : St) : Env := { E n with base := S.heap.length, bt := S.nt, K := false }
theorem Ek_ok (n : Nat) (S : St) : (Ek n S).Ok := ⟨(E_ok n).T, (E_ok n).M, (E_ok n).Cle, (E_ok n).Y⟩
@[go_sem] theorem Ek_T (n : Nat) (S : St) : (Ek n S).T = T := rfl
@[go_sem] theorem Ek_P (n : Nat) (S : St) : (Ek n S).P = Tryz.prog := rfl
@[go_sem] theorem from_T (E : Env) (S : St) : (E.from S).T = E.T := rfl
@[go_sem] theorem from_P (E : Env) (S : St) : (E.from S).P = E.P := rfl
@[go_sem] theorem eqn20 : binA T .eql 20 .nilIface .nilIface = some (.bool true) := rfl
@[go_sem] theorem eqi20 (t : TypeId) (v : AV) : binA T .eql 20 (.iface t v) .nilIface = some (.bool false) := rfl
@[go_sem] theorem ta174 (v : AV) : typeAssertA T (.iface 174 v) 174 true = some (.tuple [v, .bool true]) := rfl
@[go_sem] theorem ta174n (v : AV) : typeAssertA T (.iface 176 v) 174 true = some (.tuple [.agg [.int .i64 0], .bool false]) := rfl
@[go_sem] theorem ta176 (v : AV) : typeAssertA T (.iface 176 v) 176 true = some (.tuple [v, .bool true]) := rfl
def c141t : MC := (.block 0 (.seq (.region [0, 5, 7] r141_3) (.cond (.tmp 7) (.region [] r141_4) (.seq (.region [0, 5, 9, 10] r141_5) (.cond (.tmp 9) (.seq (.region [0] r141_6) (.region [] r141_7)) (.seq (.region [0, 5, 12, 13] r141_8) (.cond (.tmp 12) (.seq (.region [0] r141_9) (.region [] r141_10)) (.seq (.region [4] r141_1) (.region [] r141_2)))))))))
def caught (b : Nat) (k : Int) (x : AV) (S : St) : St := ⟨setH (S.heap ++ [some (.cells x.cells)]) b (.cells [.int .i64 k]), S.nt, S.toks⟩
theorem cellsAt_app {h : List (Option Blk)} {b : Nat} {l : List AV} (hb : cellsAt h b = some l) (g : List (Option Blk)) : cellsAt (h ++ g) b = some l := by
 unfold cellsAt at hb ⊢
 have : b < h.length := by
  rcases Nat.lt_or_ge b h.length with h' | h'
  ·exact h'
  ·rw [List.getElem?_eq_none h'] at hb; cases hb
 rw [List.getElem?_append_left this]; exact hb
theorem cellsAt_end (h : List (Option Blk)) (l : List AV) : cellsAt (h ++ [some (.cells l)]) h.length = some l := by
 unfold cellsAt; rw [List.getElem?_append_right (Nat.le_refl _), Nat.sub_self]; rfl
theorem setH_end (h : List (Option Blk)) (x : Option Blk) (B : Blk) : setH (h ++ [x]) h.length B = h ++ [some B] := by
 have := setH_app h [x] 0 B
 rw [Nat.add_zero] at this; rw [this]; rfl
theorem try1_none (b : Nat) (S : St) : DC Tryz.prog 141 [.ref b 0] none S fun S' => S' = S := by
 refine DC.run (E := Ek 14 S) (Ek_ok 14 S) mix (fn := Tryz.f141) (mc := c141t) (d := 5) (ks := lk [(0, [0, 5]), (1, [4]), (2, []), (3, [0, 5, 7]), (4, []), (5, [0, 5, 9, 10]), (6, [0]), (7, []), (8, [0, 5, 12, 13]), (9, [0]), (10, [])]) (dm := lk1 []) Tryz.func141 rfl rfl rfl rfl (by kernel_rfl) rfl rfl (Nat.le_of_ble_eq_true rfl) (show 5 < 14 by decide) rfl rfl rfl (fun _ => trivial) rfl ?_
 simp only [go_sem, c141t, Option.getD_none, reduceEqDiff, Nat.reduceBEq, reduceAdd, reduceIte, reduceCtorEq, reduceLeDiff]
theorem try1_174 (b : Nat) (S : St) (p : Int) (hb : cellsAt S.heap b = some [.int .i64 0]) : DC Tryz.prog 141 [.ref b 0] (some (.iface 174 (.agg [.int .i64 p]))) S fun S' => S' = caught b 7 (.agg [.int .i64 p]) S := by
 refine DC.run (E := Ek 14 S) (Ek_ok 14 S) mix (fn := Tryz.f141) (mc := c141t) (d := 5) (ks := lk [(0, [0, 5]), (1, [4]), (2, []), (3, [0, 5, 7]), (4, []), (5, [0, 5, 9, 10]), (6, [0]), (7, []), (8, [0, 5, 12, 13]), (9, [0]), (10, [])]) (dm := lk1 []) Tryz.func141 rfl rfl rfl rfl (by kernel_rfl) rfl rfl (Nat.le_of_ble_eq_true rfl) (show 5 < 14 by decide) rfl rfl rfl (fun _ => trivial) rfl ?_
 have h1 : ∀ g, cellsAt (S.heap ++ g) b = some [.int .i64 0] := cellsAt_app hb
 have h2 := cellsAt_end S.heap
 have h3 := setH_end S.heap
 simp only [go_sem, c141t, Option.getD_some, extractA, put_eq, h1, h2, h3, reduceEqDiff, Nat.reduceBEq, reduceAdd, reduceIte, reduceCtorEq, reduceLeDiff]
 rfl
theorem try1_176 (b : Nat) (S : St) (p : ByteArray) (hb : cellsAt S.heap b = some [.int .i64 0]) : DC Tryz.prog 141 [.ref b 0] (some (.iface 176 (.agg [.str p]))) S fun S' => S' = caught b 4 (.agg [.str p]) S := by
 refine DC.run (E := Ek 14 S) (Ek_ok 14 S) mix (fn := Tryz.f141) (mc := c141t) (d := 5) (ks := lk [(0, [0, 5]), (1, [4]), (2, []), (3, [0, 5, 7]), (4, []), (5, [0, 5, 9, 10]), (6, [0]), (7, []), (8, [0, 5, 12, 13]), (9, [0]), (10, [])]) (dm := lk1 []) Tryz.func141 rfl rfl rfl rfl (by kernel_rfl) rfl rfl (Nat.le_of_ble_eq_true rfl) (show 5 < 14 by decide) rfl rfl rfl (fun _ => trivial) rfl ?_
 have h1 : ∀ g, cellsAt (S.heap ++ g) b = some [.int .i64 0] := cellsAt_app hb
 have h2 := cellsAt_end S.heap
 have h3 := setH_end S.heap
 simp only [go_sem, c141t, Option.getD_some, extractA, put_eq, h1, h2, h3, reduceEqDiff, Nat.reduceBEq, reduceAdd, reduceIte, reduceCtorEq, reduceLeDiff]
 rfl
theorem DC.mono {P : Program} {g : FuncId} {caps : List AV} {pan : Option AV} {S : St} {R R' : St → Prop} (h : DC P g caps pan S R) (hr : ∀ S', R S' → R' S') : DC P g caps pan S R' :=
 fun c w vs u h1 h2 h3 => (h c w vs u h1 h2 h3).mono fun e u' w' ⟨a1, a2, S', c', a3, a4, a5⟩ => ⟨a1, a2, S', c', a3, hr _ a4, a5⟩
@[go_sem] theorem endQ_ret (E : Env) (rs : List ResultVar) (g : FuncId) (caps : List AV) (R : AEnd → St → Prop) (ts : TS) (S : St) : endQ E rs g caps R .ret ts S = DC E.P g caps none S fun S2 => ∃ vs, resA E.T S2 ts rs = some vs ∧ R (.ret (tupA vs)) S2 := rfl
@[go_sem] theorem endQ_panic (E : Env) (rs : List ResultVar) (g : FuncId) (caps : List AV) (R : AEnd → St → Prop) (v : AV) (ts : TS) (S : St) : endQ E rs g caps R (.panic v) ts S = DC E.P g caps (some v) S fun S2 => ∃ vs, resA E.T S2 ts rs = some vs ∧ R (.ret (tupA vs)) S2 := rfl
theorem setH_same : ∀ {h : List (Option Blk)} {b : Nat} {l : List AV}, cellsAt h b = some l → setH h b (.cells l) = h
 | [], b, l, h => by simp [cellsAt] at h
 | x :: h, 0, l, e => by
  simp only [cellsAt, List.getElem?_cons_zero] at e
  show some (.cells l) :: h = _
  split at e
  ·rename_i q hq
   simp only [Option.some.injEq] at hq e; subst e; rw [hq]
  ·cases e
 | x :: h, b + 1, l, e => by
  show x :: setH h b _ = _
  rw [setH_same (h := h) (b := b) (l := l) (by simpa [cellsAt] using e)]
theorem cellsAt_set {h : List (Option Blk)} {b : Nat} {l l' : List AV} (hb : cellsAt h b = some l) (g : List (Option Blk)) : cellsAt (setH (h ++ g) b (.cells l')) b = some l' := by
 have hlt : b < h.length := by
  unfold cellsAt at hb
  rcases Nat.lt_or_ge b h.length with h' | h'
  ·exact h'
  ·rw [List.getElem?_eq_none h'] at hb; cases hb
 have : ∀ (h : List (Option Blk)) (b : Nat), b < h.length → cellsAt (setH h b (.cells l')) b = some l' := by
  intro h
  induction h with
  | nil => intro b hb; simp at hb
  | cons x h ih =>
   intro b hb
   cases b with
   | zero => rfl
   | succ b =>
    have := ih b (by simpa using hb)
    simpa [cellsAt, setH] using this
 exact this _ _ (by simp; omega)
theorem try_ac {S : St} {g : FuncId} {caps : List AV} {R0 R : AEnd → St → Prop} (ng : Callable Tryz.prog g) (hdo : AC Tryz.prog g caps ⟨S.heap ++ [some (.cells [.int .i64 0])], S.nt, S.toks⟩ R0)
  (hret : ∀ v S', R0 (.ret v) S' → cellsAt S'.heap S.heap.length = some [.int .i64 0] ∧ R (.ret (.int .i64 0)) S')
  (hpan : ∀ v S', R0 (.panic v) S' → cellsAt S'.heap S.heap.length = some [.int .i64 0] ∧ ((∃ p : Int, v = .iface 174 (.agg [.int .i64 p]) ∧ R (.ret (.int .i64 7)) (caught S.heap.length 7 (.agg [.int .i64 p]) S')) ∨ (∃ s : ByteArray, v = .iface 176 (.agg [.str s]) ∧ R (.ret (.int .i64 4)) (caught S.heap.length 4 (.agg [.str s]) S')))) :
  AC Tryz.prog 108 [.func (.func g) [] caps] S R := by
 refine AC.deferring (E := Ek 6 S) (Ek_ok 6 S) mix (fn := Tryz.f108) (t := 3) (ma := .region [0, 2] r108_0) (mx := .seq (.region [2] r108_2) (.seq (.region [2] r108_3) .ret)) (ks := lk [(0, [0, 2]), (1, [0, 2]), (2, [2]), (3, [2])]) (dm := lk1 []) Tryz.func108 rfl rfl rfl rfl rfl rfl (by kernel_rfl) (by kernel_rfl) rfl (show 3 < 6 by decide) rfl rfl (Nat.le_of_ble_eq_true rfl) rfl (fun _ => trivial) rfl ?_
 simp only [go_sem, reduceEqDiff, Nat.reduceBEq, reduceAdd, reduceIte, reduceCtorEq, reduceLeDiff]
 refine ⟨141, [.ref S.heap.length 0], rfl, n141, ?_⟩
 refine call_ac (E := (Ek 6 S).from _) ng hdo ?_ ?_
 ·intro v S' hR
  obtain ⟨h1, h2⟩ := hret v S' hR
  have h3 := setH_same h1
  simp only [go_sem, h1, put_eq, h3, Tryz.f108, reduceEqDiff, Nat.reduceBEq, reduceAdd, reduceIte, reduceCtorEq, reduceLeDiff]
  refine DC.mono (try1_none _ _) fun S2 e => ?_
  subst e
  exact ⟨[.int .i64 0], by simp only [go_sem, h1, reduceEqDiff, Nat.reduceBEq, reduceAdd, reduceIte, reduceCtorEq, reduceLeDiff], h2⟩
 ·intro v S' hR
  obtain ⟨h1, h2⟩ := hpan v S' hR
  rcases h2 with ⟨p, rfl, h2⟩ | ⟨p, rfl, h2⟩
  ·refine DC.mono (try1_174 _ _ p h1) fun S2 e => ?_
   subst e
   have hcs : cellsAt (caught S.heap.length 7 (.agg [.int .i64 p]) S').heap S.heap.length = some [.int .i64 7] := cellsAt_set h1 _
   exact ⟨[.int .i64 7], by simp only [go_sem, Tryz.f108, hcs, reduceEqDiff, Nat.reduceBEq, reduceAdd, reduceIte, reduceCtorEq, reduceLeDiff], h2⟩
  ·refine DC.mono (try1_176 _ _ p h1) fun S2 e => ?_
   subst e
   have hcs : cellsAt (caught S.heap.length 4 (.agg [.str p]) S').heap S.heap.length = some [.int .i64 4] := cellsAt_set h1 _
   exact ⟨[.int .i64 4], by simp only [go_sem, Tryz.f108, hcs, reduceEqDiff, Nat.reduceBEq, reduceAdd, reduceIte, reduceCtorEq, reduceLeDiff], h2⟩
end Go.Av.Fx
end
section
namespace Go.Av.Fx
open Go Go.Av Go.Av.Tb Go.Proofs
open Go.Fw (Sq ent Bd Mat)
def rowsO (off m n : Nat) : List AV := (List.range m).map fun i => .sref (off + i) 0 n n
@[simp] theorem rowsO_len (off m n : Nat) : (rowsO off m n).length = m := by simp [rowsO]
theorem rowsO_get {off m n i : Nat} (h : i < m) : (rowsO off m n)[i]? = some (.sref (off + i) 0 n n) := by
 simp [rowsO, List.getElem?_range h]
theorem rowsO_snoc (off m n : Nat) : rowsO off m n ++ [.sref (off + m) 0 n n] = rowsO off (m + 1) n := by simp [rowsO, List.range_succ]
abbrev gA (off n : Nat) : AV := .slice (rowsO off n n) n .unk
theorem cells_mid {A C : List (Option Blk)} {V : Mat} {n : Nat} (h : Sq n V) {a : Nat} (ha : a < n) {off : Nat} (ho : A.length = off) : cellsAt (A ++ (heapR V ++ C)) (off + a) = some (ints (V.getD a [])) := by
 subst ho
 have hl : a < V.length := by rw [h.1]; exact ha
 unfold cellsAt
 rw [List.getElem?_append_right (by omega), Nat.add_sub_cancel_left, heapR_get hl, List.getD_eq_getElem?_getD, List.getElem?_eq_getElem hl]; rfl
theorem setH_mid {A C : List (Option Blk)} {V : Mat} {n : Nat} (h : Sq n V) {a : Nat} (ha : a < n) {off : Nat} (ho : A.length = off) (b : Nat) (v : Int) :
  setH (A ++ (heapR V ++ C)) (off + a) (.cells ((ints (V.getD a [])).set b (.int .i64 v))) = A ++ (heapR (Fw.put V a b v) ++ C) := by
 subst ho
 have hl : a < V.length := by rw [h.1]; exact ha
 rw [setH_app, ints_set, setH_R hl]; rfl
theorem differ_ac {A C : List (Option Blk)} {V : Mat} {n : Nat} (h : Sq n V) {off : Nat} (ho : A.length = off) {to frm : Nat} (ht : to < n) (hf : frm < n) (lo hi : Int) (hlo : IntKind.i64.wrap (0 - lo) = -lo) (nt : Nat) (toks : List Nat) :
  AC Tryz.prog 137 [gA off n, .int .i64 to, .int .i64 frm, .int .i64 lo, .int .i64 hi] ⟨A ++ (heapR V ++ C), nt, toks⟩ fun e S' => e = .ret (.tuple []) ∧ S' = ⟨A ++ (heapR (Fw.addc (Fw.addc V ⟨frm, to, hi⟩) ⟨to, frm, -lo⟩) ++ C), nt, toks⟩ := by
 refine AC.run (Es_ok _ _) mix Tryz.func137 m137 rfl rfl rfl (Nat.le_of_ble_eq_true rfl) ?_
 have xa : 0 ≤ (frm : Int) ∧ (frm : Int) < (n : Int) := by omega
 have xb : 0 ≤ (to : Int) ∧ (to : Int) < (n : Int) := by omega
 have ra := rowsO_get (off := off) (n := n) hf
 have rb := rowsO_get (off := off) (n := n) ht
 have k1 : to + 1 ≤ n := by omega
 have k2 : frm + 1 ≤ n := by omega
 have c1 := cells_mid (C := C) h hf ho
 have e1 := ints_ent h hf ht
 have l1 := h.getD hf
 have s1 : setH (A ++ (heapR V ++ C)) (off + frm) (.cells ((ints (V.getD frm [])).set to (.int .i64 (if hi < ent V frm to then hi else ent V frm to)))) = A ++ (heapR (Fw.addc V ⟨frm, to, hi⟩) ++ C) := by
  rw [setH_mid h hf ho, show (if hi < ent V frm to then hi else ent V frm to) = min (ent V frm to) hi by omega]; rfl
 have h2 : Sq n (Fw.addc V ⟨frm, to, hi⟩) := h.put _ _ _
 generalize Fw.addc V ⟨frm, to, hi⟩ = V2 at *
 have c2 := cells_mid (C := C) h2 ht ho
 have e2 := ints_ent h2 ht hf
 have l2 := h2.getD ht
 have s2 : setH (A ++ (heapR V2 ++ C)) (off + to) (.cells ((ints (V2.getD to [])).set frm (.int .i64 (if -lo < ent V2 to frm then -lo else ent V2 to frm)))) = A ++ (heapR (Fw.addc V2 ⟨to, frm, -lo⟩) ++ C) := by
  rw [setH_mid h2 ht ho, show (if -lo < ent V2 to frm then -lo else ent V2 to frm) = min (ent V2 to frm) (-lo) by omega]; rfl
 simp only [go_sem, xa, ra, xb, c1, e1, k1, l1, s1, nat_idx, Nat.mul_one, and_self, builtinA, minsA, AV.cells, AV.one, List.all_cons, List.all_nil, Bool.and_self, splice, ints_len, put_eq, reduceEqDiff, Nat.reduceBEq, reduceAdd, reduceIte, reduceCtorEq, reduceLeDiff]
 simp only [go_sem, xa, rb, xb, c2, e2, k2, l2, s2, nat_idx, Nat.mul_one, and_self, builtinA, minsA, AV.cells, AV.one, List.all_cons, List.all_nil, Bool.and_self, splice, ints_len, put_eq, unA, hlo, Tryz.f137, reduceEqDiff, Nat.reduceBEq, reduceAdd, reduceIte, reduceCtorEq, reduceLeDiff]
 exact ⟨rfl, trivial⟩
end Go.Av.Fx
end
section
namespace Go.Av.Fx
open Go Go.Av Go.Av.Tb Go.Proofs
open Go.Fw (Sq ent Bd Mat)
def begE (i k : Nat) : Int := if 0 < i ∧ k = 0 then 0 else if k = i then 0 else 400
def begRow (n i : Nat) : List Int := (List.range n).map (begE i)
def begP (n i j : Nat) : List Int := (List.range n).map fun q => if q < j then begE i q else 0
theorem begP_zero (n i : Nat) : begP n i 0 = List.replicate n 0 := by
 unfold begP
 simp only [Nat.not_lt_zero, if_false]
 rw [List.map_const', List.length_range]
theorem begP_full (n i : Nat) : begP n i n = begRow n i := by
 unfold begP begRow
 refine List.map_congr_left fun q hq => ?_
 rw [if_pos (List.mem_range.1 hq)]
@[simp] theorem begP_len (n i j : Nat) : (begP n i j).length = n := by simp [begP]
theorem begP_get {n i j q : Nat} (h : q < n) : (begP n i j)[q]? = some (if q < j then begE i q else 0) := by
 unfold begP; rw [List.getElem?_map, List.getElem?_range h]; rfl
theorem begP_succ {n i j : Nat} (h : j < n) (x : Int) (hx : x = begE i j) : (begP n i j).set j x = begP n i (j + 1) := by
 subst hx
 apply List.ext_getElem?
 intro q
 rw [List.getElem?_set, begP_len]
 by_cases e : j = q
 ·subst e
  rw [if_pos rfl, if_pos h, begP_get h, if_pos (Nat.lt_succ_self j)]
 ·rw [if_neg e]
  by_cases hq : q < n
  ·rw [begP_get hq, begP_get hq]
   by_cases g : q < j
   ·rw [if_pos g, if_pos (by omega)]
   ·rw [if_neg g, if_neg (by omega)]
  ·rw [List.getElem?_eq_none (by simp; omega), List.getElem?_eq_none (by simp; omega)]
theorem begP_skip {n i j : Nat} (h : j < n) (hx : begE i j = 0) : begP n i (j + 1) = begP n i j := by
 rw [← begP_succ h 0 hx.symm]
 apply List.ext_getElem?
 intro q
 rw [List.getElem?_set, begP_len]
 by_cases e : j = q
 ·subst e
  rw [if_pos rfl, if_pos h, begP_get h, if_neg (Nat.lt_irrefl j)]
 ·rw [if_neg e]
def wO (off n : Nat) : Nat → AV
 | 0 => .nilS
 | m + 1 => .slice (rowsO off (m + 1) n) (m + 1) (.tok m)
@[go_sem] theorem bs114 (i o n c : Nat) : buildSliceA T 114 1 [(0, .sref i o n c)] = some (.slice [.sref i o n c] 1 .exact) := rfl
theorem sr_appO {K : AV → St → Prop} {hK : Hold K} {h : List (Option Blk)} {k n off : Nat} (hk : k ≤ 1000)
  (next : K (wO off n (k + 1)) ⟨h, k + 1, toksN (k + 1)⟩) : sr K hK (appendA T ⟨h, k, toksN k⟩ 114 (wO off n k) (.slice [.sref (off + k) 0 n n] 1 .exact)) ⟨h, k, toksN k⟩ := by
 cases k with
 | zero =>
  have : appendA T ⟨h, 0, toksN 0⟩ 114 (wO off n 0) (.slice [.sref (off + 0) 0 n n] 1 .exact) = some (.tok none (fun j => .slice [.sref (off + 0) 0 n n] 1 (.tok j))) := rfl
  rw [this, sr_tok]; exact next
 | succ k =>
  show sr K hK (appendA T ⟨h, k + 1, toksN (k + 1)⟩ 114 (.slice (rowsO off (k + 1) n) (k + 1) (.tok k)) _) _
  rw [app_gen (e := 22) (ei := ti22) (lx := [.sref (off + (k + 1)) 0 n n]) (nx := 1) rfl rfl (by decide) rfl (by decide) rfl (by show (k + 1 + 1) * 24 ≤ _; omega) (by omega) (by simp [ti22])]
  rw [sr_tok_some]
  refine ⟨List.mem_cons_self, ?_⟩
  have : killTok (toksN (k + 1)) (some k) = [] := by simp [killTok, toksN]
  show K (.slice (rowsO off (k + 1) n ++ [.sref (off + (k + 1)) 0 n n]) (k + 1 + 1) (.tok (k + 1))) ⟨h, k + 1 + 1, (k + 1) :: killTok (toksN (k + 1)) (some k)⟩
  rw [this, rowsO_snoc]; exact next
theorem cells_end {A : List (Option Blk)} {R : Mat} {k : Nat} (hR : R.length = k) (l : List AV) : cellsAt (A ++ (heapR R ++ [some (.cells l)])) (A.length + k) = some l := by
 rw [← List.append_assoc]
 have := cellsAt_end (A ++ heapR R) l
 rw [List.length_append, heapR_len, hR] at this; exact this
theorem setH_fin {A : List (Option Blk)} {R : Mat} {k : Nat} (hR : R.length = k) (x : Option Blk) (B : Blk) : setH (A ++ (heapR R ++ [x])) (A.length + k) B = A ++ (heapR R ++ [some B]) := by
 rw [← List.append_assoc, ← List.append_assoc]
 have := setH_end (A ++ heapR R) x B
 rw [List.length_append, heapR_len, hR] at this; exact this
theorem begin_ac (A : List (Option Blk)) (many : Nat) (hm : many ≤ 100) : AC Tryz.prog 120 [.int .i64 many] ⟨A, 0, []⟩ fun e S' => e = .ret (.slice (rowsO A.length (many + 1) (many + 1)) (many + 1) (.tok many)) ∧ S' = ⟨A ++ heapR (begM (many + 1)), many + 1, [many]⟩ := by
 refine AC.run (Es_ok _ _) mix Tryz.func120 m120 rfl rfl rfl (Nat.le_of_ble_eq_true rfl) ?_
 simp only [go_sem, reduceEqDiff, Nat.reduceBEq, reduceAdd, reduceIte, reduceCtorEq, reduceLeDiff]
 refine wc_for (many + 1) (fun k => [(0, .int .i64 many), (3, wO A.length (many + 1) k), (4, .int .i64 k)]) (fun k => ⟨A ++ heapR ((List.range k).map (begRow (many + 1))), k, toksN k⟩) rfl (by simp [heapR, toksN]) ?_
 intro k hk I hI
 by_cases h : k < many + 1
 ·have h' : (k : Int) ≤ many := by omega
  have w1 : IntKind.i64.wrap ((many : Int) + 1) = (many + 1 : Nat) := wrap64 (by omega)
  have w2 : IntKind.i64.wrap ((k : Int) + 1) = (k + 1 : Nat) := wrap64 (by omega)
  have hms := mk22 (k := .i64) (k' := .i64) (n := many + 1) (by omega)
  have hRl : ((List.range k).map (begRow (many + 1))).length = k := by simp
  have hl : (A ++ heapR ((List.range k).map (begRow (many + 1)))).length = A.length + k := by rw [List.length_append, heapR_len, hRl]
  rw [← begP_zero (many + 1) k] at hms
  simp only [go_sem, l120_0, h', decide_true, w1, hms, hl, reduceEqDiff, Nat.reduceBEq, reduceAdd, reduceIte, reduceCtorEq, reduceLeDiff]
  refine wc_for (many + 1) (fun j => [(0, .int .i64 many), (3, wO A.length (many + 1) k), (4, .int .i64 k), (5, .sref (A.length + k) 0 (many + 1) (many + 1)), (6, .int .i64 j)]) (fun j => ⟨A ++ (heapR ((List.range k).map (begRow (many + 1))) ++ [some (.cells (ints (begP (many + 1) k j)))]), k, toksN k⟩) rfl rfl ?_
  intro j hj I2 hI2
  have c1 := fun l => cells_end (A := A) hRl l
  have c2 := fun x B => setH_fin (A := A) hRl x B
  by_cases hjn : j < many + 1
  ·have hj' : (j : Int) ≤ many := by omega
   have w3 : IntKind.i64.wrap ((j : Int) + 1) = (j + 1 : Nat) := wrap64 (by omega)
   have x1 : 0 ≤ (j : Int) ∧ (j : Int) < (many + 1 : Nat) := by omega
   have k1 : j + 1 ≤ many + 1 := by omega
   have hn := hI2 hjn
   by_cases hjk : j = k
   ·have e1 : ¬ ((j : Int) ≠ k) := by omega
    have hz : begE k j = 0 := by unfold begE; rw [if_pos hjk]; split <;> rfl
    rw [begP_skip hjn hz] at hn
    by_cases hk0 : (k : Int) > 0
    ·have e2 : ¬ ((j : Int) = 0) := by omega
     simp only [go_sem, l120_1, hj', decide_true, decide_false, e1, hk0, e2, w3, reduceEqDiff, Nat.reduceBEq, reduceAdd, reduceIte, reduceCtorEq, reduceLeDiff]
     exact hn
    ·simp only [go_sem, l120_1, hj', decide_true, decide_false, e1, hk0, w3, reduceEqDiff, Nat.reduceBEq, reduceAdd, reduceIte, reduceCtorEq, reduceLeDiff]
     exact hn
   ·have e1 : ((j : Int) ≠ k) := by omega
    have d1 : decide ((j : Int) ≠ k) = true := decide_eq_true e1
    by_cases hk0 : (k : Int) > 0
    ·by_cases e2 : ((j : Int) = 0)
     ·have hv : begE k j = 0 := by unfold begE; rw [if_pos ⟨by omega, by omega⟩]
      rw [← begP_succ hjn 0 hv.symm] at hn
      simp only [go_sem, l120_1, hj', decide_true, d1, hk0, x1, nat_idx, Nat.mul_one, and_self, c1, k1, ints_len, begP_len, put_eq, AV.cells, AV.one, List.all_cons, List.all_nil, Bool.and_self, splice, ints_set, c2, reduceEqDiff, Nat.reduceBEq, reduceAdd, reduceIte, reduceCtorEq, reduceLeDiff]
      have d2 : decide ((j : Int) = 0) = true := decide_eq_true e2
      simp only [go_sem, d2, decide_true, x1, nat_idx, Nat.mul_one, and_self, c1, k1, ints_len, begP_len, List.length_set, put_eq, AV.cells, AV.one, List.all_cons, List.all_nil, Bool.and_self, splice, ints_set, c2, w3, List.set_set, reduceEqDiff, Nat.reduceBEq, reduceAdd, reduceIte, reduceCtorEq, reduceLeDiff]
      exact hn
     ·have hv : begE k j = 400 := by unfold begE; rw [if_neg (by omega), if_neg hjk]
      rw [← begP_succ hjn 400 hv.symm] at hn
      have d2 : decide ((j : Int) = 0) = false := decide_eq_false e2
      simp only [go_sem, l120_1, hj', decide_true, d1, hk0, x1, nat_idx, Nat.mul_one, and_self, c1, k1, ints_len, begP_len, put_eq, AV.cells, AV.one, List.all_cons, List.all_nil, Bool.and_self, splice, ints_set, c2, d2, w3, reduceEqDiff, Nat.reduceBEq, reduceAdd, reduceIte, reduceCtorEq, reduceLeDiff]
      exact hn
    ·have hv : begE k j = 400 := by unfold begE; rw [if_neg (by omega), if_neg hjk]
     rw [← begP_succ hjn 400 hv.symm] at hn
     simp only [go_sem, l120_1, hj', decide_true, decide_false, d1, hk0, x1, nat_idx, Nat.mul_one, and_self, c1, k1, ints_len, begP_len, put_eq, AV.cells, AV.one, List.all_cons, List.all_nil, Bool.and_self, splice, ints_set, c2, w3, reduceEqDiff, Nat.reduceBEq, reduceAdd, reduceIte, reduceCtorEq, reduceLeDiff]
     exact hn
  ·have hj' : ¬ (j : Int) ≤ many := by omega
   have ej : j = many + 1 := by omega
   subst ej
   rw [begP_full]
   simp only [go_sem, l120_1, hj', decide_false, builtinA, reduceEqDiff, Nat.reduceBEq, reduceAdd, reduceIte, reduceCtorEq, reduceLeDiff]
   refine sr_appO (by omega) ?_
   simp only [go_sem, w2, reduceEqDiff, Nat.reduceBEq, reduceAdd, reduceIte, reduceCtorEq, reduceLeDiff]
   have := hI h
   rw [List.range_succ, List.map_append, List.map_cons, List.map_nil, ← heapR_snoc] at this
   exact this
 ·have h' : ¬ (k : Int) ≤ many := by omega
  have ek : k = many + 1 := by omega
  subst ek
  have hw : wO A.length (many + 1) (many + 1) = .slice (rowsO A.length (many + 1) (many + 1)) (many + 1) (.tok many) := rfl
  simp only [go_sem, l120_0, h', decide_false, hw, Tryz.f120, reduceEqDiff, Nat.reduceBEq, reduceAdd, reduceIte, reduceCtorEq, reduceLeDiff]
  rw [← List.range_succ]
  rfl
end Go.Av.Fx
end
section
namespace Go.Av.Fx
open Go Go.Av Go.Av.Tb Go.Proofs
open Go.Fw (Sq ent Bd Mat upd row stage upto)
theorem AC.args {P : Program} {f : FuncId} {args args' : List AV} {S : St} {R : AEnd → St → Prop} (h : AC P f args' S R) (hs : SubL args args') : AC P f args S R :=
 fun c w vs h1 h2 => h c w vs h1 (hs c vs h2)
theorem fold_sq {n : Nat} : ∀ (cs : List Bd) {W : Mat}, Sq n W → Sq n (cs.foldl Fw.addc W)
 | [], _, h => h
 | c :: cs, _, h => fold_sq cs (h.put _ _ _)
theorem cells_tail {A C : List (Option Blk)} {V : Mat} {n : Nat} (h : Sq n V) (l : List AV) (X : List (Option Blk)) : cellsAt (A ++ (heapR V ++ (C ++ some (.cells l) :: X))) (A.length + (n + C.length)) = some l := by
 unfold cellsAt
 rw [List.getElem?_append_right (by omega), Nat.add_sub_cancel_left, List.getElem?_append_right (by rw [heapR_len, h.1]; omega), heapR_len, h.1, Nat.add_sub_cancel_left, List.getElem?_append_right (Nat.le_refl _), Nat.sub_self]; rfl
def gvB (l : LLine) (s : List Int) (b i : Nat) : List Bd := [⟨b + i, b + i + 1, -lowL l s i⟩, ⟨b + i + 1, b + i, highL l s i⟩]
def ctB (b : Nat) (c : Cnt) : List Bd := [⟨0, b + c.point.toNat, c.high⟩, ⟨b + c.point.toNat, 0, -c.low⟩]
theorem rlineB_eq (l : LLine) (s : List Int) (b : Nat) : rlineB l s b = (List.range l.gives.length).flatMap (gvB l s b) ++ l.counts.flatMap (ctB b) := rfl
theorem gline_ac {l : LLine} (h : Lw l) {A C : List (Option Blk)} {V : Mat} {n : Nat} (hV : Sq n V) {off : Nat} (ho : A.length = off) (s : List Int) (hs : s.length ≤ 1000) {b : Nat} (hb : 0 < b) (hbn : b + l.gives.length < n) (hn : n ≤ 1000) (nt : Nat) (toks : List Nat) :
  AC Tryz.prog 121 [gA off n, lineA l, sl s, .int .i64 b] ⟨A ++ (heapR V ++ C), nt, toks⟩ fun e S' => e = .ret (.tuple []) ∧ ∃ C', S' = ⟨A ++ (heapR ((rlineB l s b).foldl Fw.addc V) ++ C'), nt, toks⟩ := by
 have hp := h.pts
 refine AC.run (Es_ok _ _) mix Tryz.func121 m121 rfl rfl rfl (Nat.le_of_ble_eq_true rfl) ?_
 have hL0 : (A ++ (heapR V ++ C)).length = A.length + (n + C.length) := by rw [List.length_append, List.length_append, heapR_len, hV.1]
 simp only [go_sem, boxA, hL0, reduceEqDiff, Nat.reduceBEq, reduceAdd, reduceIte, reduceCtorEq, reduceLeDiff]
 refine wc_for l.gives.length (fun k => [(0, gA off n), (2, sl s), (3, .int .i64 b), (5, .ref (A.length + (n + C.length)) 0), (8, .int .i64 k)]) (fun k => ⟨A ++ (heapR (((List.range k).flatMap (gvB l s b)).foldl Fw.addc V) ++ (C ++ [some (.cells (lineC l))])), nt, toks⟩) rfl rfl ?_
 intro k hk I hI
 have hVk := fold_sq ((List.range k).flatMap (gvB l s b)) hV
 have hbox := cells_tail (A := A) (C := C) hVk (lineC l) []
 by_cases h' : k < l.gives.length
 ·have h1 : (k : Int) < l.gives.length := by omega
  have h2 : 0 ≤ (k : Int) ∧ (k : Int) < l.gives.length := by omega
  have h3 : l.gives[k]? = some (l.gives.getD k 0) := by rw [List.getD_eq_getElem?_getD, List.getElem?_eq_getElem h']; rfl
  have h4 : IntKind.i64.wrap ((k : Int) + 1) = (k + 1 : Nat) := wrap64 (by omega)
  have hg := h.give k
  have hle := h.least; have hmo := h.most
  have w1 : IntKind.i64.wrap (0 - l.gives.getD k 0) = -l.gives.getD k 0 := by rw [wrap64 (by omega)]; omega
  have w2 : IntKind.i64.wrap ((b : Int) + k) = (b + k : Nat) := by rw [wrap64 (by omega)]; omega
  have w3 : IntKind.i64.wrap (((b + k : Nat) : Int) + 1) = (b + k + 1 : Nat) := by rw [wrap64 (by omega)]; omega
  have hn' := hI h'
  rw [List.range_succ, List.flatMap_append, List.foldl_append] at hn'
  have e5 : [k].flatMap (gvB l s b) = gvB l s b k := by simp
  rw [e5] at hn'
  generalize ((List.range k).flatMap (gvB l s b)).foldl Fw.addc V = Vk at *
  unfold gvB at hn'
  simp only [go_sem, l121_0, builtinA, hbox, h1, decide_true, h2, ints_get, h3, unA, w1, reduceEqDiff, Nat.reduceBEq, reduceAdd, reduceIte, reduceCtorEq, reduceLeDiff]
  refine call_pure (E := Es _ _) n77 (has_pc s (by show _ < _; omega) k) (SubL.refl _) ?_
  cases hc : s.contains (k : Int)
  ·have e1 : lowL l s k = l.gives.getD k 0 := by unfold lowL; rw [hc]; rfl
   have e2 : highL l s k = l.gives.getD k 0 := by unfold highL; rw [hc]; rfl
   simp only [go_sem, w2, w3, reduceEqDiff, Nat.reduceBEq, reduceAdd, reduceIte, reduceCtorEq, reduceLeDiff]
   refine call_ac (E := Es _ _) n137 (differ_ac hVk ho (to := b + k + 1) (frm := b + k) (by omega) (by omega) _ _ (by rw [wrap64 (by omega)]; omega) nt toks) (fun v S' hR => ?_) (fun v S' hR => ?_)
   ·obtain ⟨e, rfl⟩ := hR
    cases e
    simp only [go_sem, h4, reduceEqDiff, Nat.reduceBEq, reduceAdd, reduceIte, reduceCtorEq, reduceLeDiff]
    rw [Int.neg_neg, ← e1]
    rw [e2, ← e1] at hn'
    exact hn'
   ·obtain ⟨e, _⟩ := hR
    cases e
  ·have w4 : IntKind.i64.wrap (-l.gives.getD k 0 - l.most) = -highL l s k := by
    unfold highL; rw [hc, if_pos rfl, wrap64 (by omega)]; omega
   have w5 : IntKind.i64.wrap (-l.gives.getD k 0 - l.least) = -lowL l s k := by
    unfold lowL; rw [hc, if_pos rfl, wrap64 (by omega)]; omega
   have hlow := h.low s k
   simp only [go_sem, w2, w3, w4, w5, hbox, reduceEqDiff, Nat.reduceBEq, reduceAdd, reduceIte, reduceCtorEq, reduceLeDiff]
   refine call_ac (E := Es _ _) n137 (differ_ac hVk ho (to := b + k + 1) (frm := b + k) (by omega) (by omega) _ _ (by rw [wrap64 (by omega)]; omega) nt toks) (fun v S' hR => ?_) (fun v S' hR => ?_)
   ·obtain ⟨e, rfl⟩ := hR
    cases e
    simp only [go_sem, h4, reduceEqDiff, Nat.reduceBEq, reduceAdd, reduceIte, reduceCtorEq, reduceLeDiff]
    rw [Int.neg_neg]
    exact hn'
   ·obtain ⟨e, _⟩ := hR
    cases e
 have h1 : ¬ (k : Int) < l.gives.length := by omega
 have e : k = l.gives.length := by omega
 subst e
 clear hI hk h'
 rw [rlineB_eq, List.foldl_append]
 simp only [go_sem, l121_0, builtinA, hbox, h1, decide_false, reduceEqDiff, Nat.reduceBEq, reduceAdd, reduceIte, reduceCtorEq, reduceLeDiff]
 generalize ((List.range l.gives.length).flatMap (gvB l s b)).foldl Fw.addc V = V2 at *
 clear hV hL0 hbox
 have hcts := h.cts
 refine wc_loop (fun m ts' S' => ∃ k X, k ≤ l.counts.length ∧ m = l.counts.length - k ∧ ts' = [(0, gA off n), (3, .int .i64 b), (5, .ref (A.length + (n + C.length)) 0), (11, .int .i64 k)] ∧ S' = ⟨A ++ (heapR (((l.counts.take k).flatMap (ctB b)).foldl Fw.addc V2) ++ (C ++ some (.cells (lineC l)) :: X)), nt, toks⟩) l.counts.length ⟨0, [], Nat.zero_le _, rfl, rfl, rfl⟩ ?_
 rintro m ts' S' ⟨k, X, hk, rfl, rfl, rfl⟩
 have hV3 := fold_sq ((l.counts.take k).flatMap (ctB b)) hVk
 have hbox := cells_tail (A := A) (C := C) hV3 (lineC l) X
 by_cases h' : k < l.counts.length
 ·have h1 : (k : Int) < l.counts.length := by omega
  have h2 : 0 ≤ (k : Int) ∧ (k : Int) < l.counts.length := by omega
  have h3 : k * 3 + 3 ≤ (cnts l.counts).length := by rw [cnts_len]; omega
  have h5 := cnts_at l.counts k h'
  have h4 : IntKind.i64.wrap ((k : Int) + 1) = (k + 1 : Nat) := wrap64 (by omega)
  have hn' : ((l.counts.take (k + 1)).flatMap (ctB b)).foldl Fw.addc V2 = (ctB b l.counts[k]).foldl Fw.addc (((l.counts.take k).flatMap (ctB b)).foldl Fw.addc V2) := by
   rw [List.take_succ_eq_append_getElem h', List.flatMap_append, List.foldl_append]; simp
  have hcb := h.counts _ (List.getElem_mem h')
  generalize ((l.counts.take k).flatMap (ctB b)).foldl Fw.addc V2 = V3 at *
  generalize l.counts[k] = c at *
  have w2 : IntKind.i64.wrap ((b : Int) + c.point) = (b + c.point.toNat : Nat) := by rw [wrap64 (by omega)]; omega
  have hd := differ_ac (A := A) (C := C ++ some (.cells (lineC l)) :: (X ++ [some (.cells (cntC c))])) hV3 ho (to := b + c.point.toNat) (frm := 0) (by omega) (by omega) c.low c.high (by rw [wrap64 (by omega)]; omega) nt toks
  have hH : ∀ y, A ++ (heapR V3 ++ (C ++ some (.cells (lineC l)) :: (X ++ [y]))) = (A ++ (heapR V3 ++ (C ++ some (.cells (lineC l)) :: X))) ++ [y] := fun y => by simp
  rw [hH] at hd
  generalize A ++ (heapR V3 ++ (C ++ some (.cells (lineC l)) :: X)) = H at hbox hd ⊢
  have c1 := cellsAt_end H
  have c2 := fun x B => setH_end H x B
  simp only [go_sem, l121_1, builtinA, hbox, h1, decide_true, h2, h3, h5, c1, c2, put_eq, w2, reduceEqDiff, Nat.reduceBEq, reduceAdd, reduceIte, reduceCtorEq, reduceLeDiff]
  refine call_ac (E := Es _ _) n137 hd (fun v S' hR => ?_) (fun v S' hR => ?_)
  ·obtain ⟨e, rfl⟩ := hR
   cases e
   simp only [go_sem, h4, reduceEqDiff, Nat.reduceBEq, reduceAdd, reduceIte, reduceCtorEq, reduceLeDiff]
   exact again_here (l.counts.length - (k + 1)) (by omega) ⟨k + 1, X ++ [some (.cells (cntC c))], h', rfl, rfl, by rw [hn']; rfl⟩
  ·obtain ⟨e, _⟩ := hR
   cases e
 ·have h1 : ¬ (k : Int) < l.counts.length := by omega
  have e : k = l.counts.length := by omega
  subst e
  rw [List.take_length] at *
  simp only [go_sem, l121_1, builtinA, hbox, h1, decide_false, Tryz.f121, reduceEqDiff, Nat.reduceBEq, reduceAdd, reduceIte, reduceCtorEq, reduceLeDiff]
  exact ⟨rfl, _, rfl⟩
end Go.Av.Fx
end
section
namespace Go.Av.Fx
open Go Go.Av Go.Av.Tb Go.Proofs
open Go.Fw (Sq ent Bd Mat upd row stage upto)
theorem gclosed_ac {A C : List (Option Blk)} {R : Mat} {n : Nat} (hR : Sq n R) (hn0 : 0 < n) (hn : n ≤ 13) (mlow : ∀ i j, i < n → j < n → -1000000 ≤ ent R i j) (mhigh : ∀ i j, i < n → j < n → ent R i j ≤ 400) {off : Nat} (ho : A.length = off) (nt : Nat) (toks : List Nat) :
  AC Tryz.prog 122 [gA off n] ⟨A ++ (heapR R ++ C), nt, toks⟩ fun e S' => e = .ret (.bool (diagB n (upto far n n R))) ∧ S' = ⟨A ++ (heapR (upto far n n R) ++ C), nt, toks⟩ := by
 refine AC.run (Es_ok _ _) mix Tryz.func122 m122 rfl rfl rfl (Nat.le_of_ble_eq_true rfl) ?_
 have h7 : (7 : Int) ^ n ≤ 7 ^ 13 := Fw.pow_le (by decide) _ hn
 simp only [go_sem, reduceEqDiff, Nat.reduceBEq, reduceAdd, reduceIte, reduceCtorEq, reduceLeDiff]
 refine wc_for n (fun k => [(0, gA off n), (3, .int .i64 k)]) (fun k => ⟨A ++ (heapR (upto far n k R) ++ C), nt, toks⟩) rfl rfl ?_
 intro c hc I hI
 by_cases h : c < n
 ·have h' : (c : Int) < (n : Nat) := by omega
  have h6 : IntKind.i64.wrap ((c : Int) + 1) = (c + 1 : Nat) := wrap64 (by omega)
  have sqc : Sq n (upto far n c R) := hR.upto far n c
  simp only [go_sem, l122_0, builtinA, h', decide_true, reduceEqDiff, Nat.reduceBEq, reduceAdd, reduceIte, reduceCtorEq, reduceLeDiff]
  refine wc_for n (fun k => [(0, gA off n), (3, .int .i64 c), (4, .int .i64 k)]) (fun k => ⟨A ++ (heapR ((List.range k).foldl (row far n c) (upto far n c R)) ++ C), nt, toks⟩) rfl rfl ?_
  intro a ha I2 hI2
  by_cases hA : a < n
  ·have hA' : (a : Int) < (n : Nat) := by omega
   have hA6 : IntKind.i64.wrap ((a : Int) + 1) = (a + 1 : Nat) := wrap64 (by omega)
   have sqa : Sq n ((List.range a).foldl (row far n c) (upto far n c R)) := Fw.fold_ind (fun _ w => Sq n w) _ _ _ sqc fun _ _ _ hw => hw.row _ _ _ _
   simp only [go_sem, l122_1, builtinA, hA', decide_true, reduceEqDiff, Nat.reduceBEq, reduceAdd, reduceIte, reduceCtorEq, reduceLeDiff]
   refine wc_for n (fun k => [(0, gA off n), (3, .int .i64 c), (4, .int .i64 a), (5, .int .i64 k)]) (fun k => ⟨A ++ (heapR ((List.range k).foldl (upd far c a) ((List.range a).foldl (row far n c) (upto far n c R))) ++ C), nt, toks⟩) rfl rfl ?_
   intro b hb3 I3 hI3
   by_cases hB : b < n
   ·have hB' : (b : Int) < (n : Nat) := by omega
    have hB6 : IntKind.i64.wrap ((b : Int) + 1) = (b + 1 : Nat) := wrap64 (by omega)
    have sqb : Sq n ((List.range b).foldl (upd far c a) ((List.range a).foldl (row far n c) (upto far n c R))) := Fw.fold_ind (fun _ w => Sq n w) _ _ _ sqa fun _ _ _ hw => hw.upd _ _ _ _
    have hnext := hI3 hB
    rw [Fw.fold_succ] at hnext
    have low := Fw.low_in (n := n) (X := 1000000) (W := R) (by decide) hR far mlow (c := c) (a := a) (b := b) h hA (by omega)
    have high : ∀ i j, i < n → j < n → ent ((List.range b).foldl (upd far c a) ((List.range a).foldl (row far n c) (upto far n c R))) i j ≤ 400 := fun i j hi hj =>
     Int.le_trans (Fw.high_in (n := n) (W := R) hR far (c := c) (a := a) (b := b) (by omega) (by omega) i j (.inr hA)) (mhigh i j hi hj)
    generalize (List.range b).foldl (upd far c a) ((List.range a).foldl (row far n c) (upto far n c R)) = V at *
    have xa : 0 ≤ (a : Int) ∧ (a : Int) < (n : Nat) := by omega
    have xb : 0 ≤ (b : Int) ∧ (b : Int) < (n : Nat) := by omega
    have xc : 0 ≤ (c : Int) ∧ (c : Int) < (n : Nat) := by omega
    have ra := rowsO_get (off := off) (n := n) hA
    have rc := rowsO_get (off := off) (n := n) h
    have ca := cells_mid (C := C) sqb hA ho
    have cc := cells_mid (C := C) sqb h ho
    have eac := ints_ent sqb hA h
    have ecb := ints_ent sqb h hB
    have eab := ints_ent sqb hA hB
    have k1 : b + 1 ≤ n := by omega
    have lenA := sqb.getD hA
    have sset := setH_mid (C := C) sqb hA ho b
    have w1 := low a c hA h
    have w2 := low c b h hB
    have w3 := high a c hA h
    have w4 := high c b h hB
    have hwrap : IntKind.i64.wrap (ent V a c + ent V c b) = ent V a c + ent V c b := wrap64 (by
     have e7 : (7 : Int) ^ 13 = 96889010407 := by decide
     omega)
    have ef : far = 1099511627776 := rfl
    have hu : upd far c a V b = Fw.put V a b (if ent V a c + ent V c b < ent V a b then ent V a c + ent V c b else ent V a b) := by
     unfold upd
     rw [if_pos ⟨by omega, by omega⟩]
     congr 1
     omega
    rw [hu] at hnext
    simp only [go_sem, l122_2, builtinA, hB', decide_true, reduceEqDiff, Nat.reduceBEq, reduceAdd, reduceIte, reduceCtorEq, reduceLeDiff]
    simp only [go_sem, xa, xb, xc, ra, rc, ca, cc, eac, ecb, eab, nat_idx, Nat.mul_one, and_self, hwrap, builtinA, minsA, AV.cells, AV.one, List.all_cons, List.all_nil, Bool.and_self, splice, ints_len, lenA, k1, sset, hB6, put_eq, reduceEqDiff, Nat.reduceBEq, reduceAdd, reduceIte, reduceCtorEq, reduceLeDiff]
    exact hnext
   ·have hB' : ¬ (b : Int) < (n : Nat) := by omega
    simp only [go_sem, l122_2, builtinA, hB', decide_false, hA6, reduceEqDiff, Nat.reduceBEq, reduceAdd, reduceIte, reduceCtorEq, reduceLeDiff]
    have := hI2 hA
    rw [Fw.fold_succ] at this
    rw [show b = n by omega]
    exact this
  ·have hA' : ¬ (a : Int) < (n : Nat) := by omega
   simp only [go_sem, l122_1, builtinA, hA', decide_false, h6, reduceEqDiff, Nat.reduceBEq, reduceAdd, reduceIte, reduceCtorEq, reduceLeDiff]
   have := hI h
   rw [show upto far n (c + 1) R = stage far n (upto far n c R) c from Fw.fold_succ _ _ _] at this
   rw [show a = n by omega]
   exact this
 ·have h' : ¬ (c : Int) < (n : Nat) := by omega
  have hcm : c = n := by omega
  subst hcm
  simp only [go_sem, l122_0, builtinA, h', decide_false, reduceEqDiff, Nat.reduceBEq, reduceAdd, reduceIte, reduceCtorEq, reduceLeDiff]
  clear hI hc h h' I
  have sqV : Sq c (upto far c c R) := hR.upto far c c
  generalize upto far c c R = V at *
  refine wc_forP c (fun k => ∀ i, i < k → 0 ≤ ent V i i) (fun k => [(0, gA off c), (6, .int .i64 k)]) (fun k => ⟨A ++ (heapR V ++ C), nt, toks⟩) (fun i hi => absurd hi (Nat.not_lt_zero _)) rfl rfl ?_
  intro a ha hP I hI
  by_cases h : a < c
  ·have h' : (a : Int) < (c : Nat) := by omega
   have h6 : IntKind.i64.wrap ((a : Int) + 1) = (a + 1 : Nat) := wrap64 (by omega)
   have xa : 0 ≤ (a : Int) ∧ (a : Int) < (c : Nat) := by omega
   have ra := rowsO_get (off := off) (n := c) h
   have ca := cells_mid (C := C) sqV h ho
   have eaa := ints_ent sqV h h
   simp only [go_sem, l122_3, builtinA, h', decide_true, xa, ra, ca, eaa, nat_idx, Nat.mul_one, and_self, reduceEqDiff, Nat.reduceBEq, reduceAdd, reduceIte, reduceCtorEq, reduceLeDiff]
   by_cases g : ent V a a < 0
   ·simp only [go_sem, g, decide_true, Tryz.f122, reduceEqDiff, Nat.reduceBEq, reduceAdd, reduceIte, reduceCtorEq, reduceLeDiff]
    refine ⟨?_, trivial⟩
    have : diagB c V = false := by
     unfold diagB
     rw [List.all_eq_false]
     exact ⟨a, List.mem_range.2 h, by rw [decide_eq_true_iff]; omega⟩
    rw [this]
   ·simp only [go_sem, g, decide_false, h6, reduceEqDiff, Nat.reduceBEq, reduceAdd, reduceIte, reduceCtorEq, reduceLeDiff]
    refine hI h fun i hi => ?_
    by_cases e : i = a
    ·subst e; omega
    ·exact hP i (by omega)
  ·have h' : ¬ (a : Int) < (c : Nat) := by omega
   simp only [go_sem, l122_3, builtinA, h', decide_false, Tryz.f122, reduceEqDiff, Nat.reduceBEq, reduceAdd, reduceIte, reduceCtorEq, reduceLeDiff]
   refine ⟨?_, trivial⟩
   have : diagB c V = true := by
    unfold diagB
    rw [List.all_eq_true]
    intro i hi
    rw [decide_eq_true_iff]
    exact hP i (by have := List.mem_range.1 hi; omega)
   rw [this]
theorem beg_sq (n : Nat) : Sq n (begM n) := (beg_good n).sq
theorem rl_low {n : Nat} {cs : List Bd} (hcs : ∀ c ∈ cs, c.Ok 400 400 n) {i j : Nat} (hi : i < n) (hj : j < n) : -1000000 ≤ ent (cs.foldl Fw.addc (begM n)) i j := by
 have := ((beg_good n).fold hcs).low i j hi hj; omega
theorem rl_high {n : Nat} {cs : List Bd} (hcs : ∀ c ∈ cs, c.Ok 400 400 n) {i j : Nat} (hi : i < n) (hj : j < n) : ent (cs.foldl Fw.addc (begM n)) i j ≤ 400 := by
 refine Int.le_trans (Fw.fold_le (beg_good n).sq (fun c hc => ⟨(hcs c hc).a, (hcs c hc).b⟩) i j) ?_
 refine (beg_good n).small i j hi hj ?_
 rw [ent_beg hi hj]
 split
 ·decide
 ·split <;> decide
theorem grid_frz {A C : List (Option Blk)} {n off : Nat} {V : Mat} (h : Sq n V) (ho : A.length = off) (t : Tail) : Frz (A ++ (heapR V ++ C)) (.slice (rowsO off n n) n t) (wS V) := by
 subst ho
 show Frz _ _ (.slice (V.map sl) V.length .unk)
 rw [h.1]
 refine .slice _ _ _ _ (by simp [h.1]) fun j x y hx hy => ?_
 have hj : j < n := by
  rcases Nat.lt_or_ge j n with h' | h'
  ·exact h'
  ·rw [List.getElem?_eq_none (by simpa using h')] at hx; cases hx
 have hl : j < V.length := by rw [h.1]; exact hj
 rw [rowsO_get hj] at hx
 simp only [Option.some.injEq] at hx
 subst hx
 rw [List.getElem?_map, List.getElem?_eq_getElem hl] at hy
 simp only [Option.map_some, Option.some.injEq] at hy
 subst hy
 have hlen : V[j].length = n := h.2 j _ (List.getElem?_eq_getElem hl)
 have hc : (A ++ (heapR V ++ C))[A.length + j]? = some (some (.cells (ints V[j]))) := by
  rw [List.getElem?_append_right (by omega), Nat.add_sub_cancel_left, heapR_get hl]
 have := Frz.row (h := A ++ (heapR V ++ C)) (A.length + j) 0 n n 1 (ints V[j]) hc (by simp [hlen]) (Nat.le_refl _)
 rw [List.drop_zero, List.take_of_length_le (by simp [hlen])] at this
 show Frz _ _ (.slice (ints V[j]) V[j].length .unk)
 rw [hlen]; exact this
def withA (l : LLine) (s : List Int) : AV := .tuple [wS (withV l s), .bool (withB l s)]
theorem withA_bnd (l : LLine) (s : List Int) : (withA l s).bnd 0 0 = true := by simp [withA, bndL, AV.bnd]
theorem with_pc (l : LLine) (h : Lw l) (s : List Int) (hs : s.length ≤ 1000) : PC Tryz.prog 79 [lineA l, sl s] (.pure (withA l s)) := by
 have hp := h.pts
 refine PC.of_frz (AC.run (E_ok _) mix Tryz.func79 m79 rfl rfl rfl (Nat.le_of_ble_eq_true rfl) ?_) (by simp [bndL, AV.bnd]) (withA_bnd l s)
 have w1 : IntKind.i64.wrap ((l.gives.length : Int) + 1) = (l.gives.length + 1 : Nat) := wrap64 (by omega)
 simp only [go_sem, boxA, builtinA, w1, reduceEqDiff, Nat.reduceBEq, reduceAdd, reduceIte, reduceCtorEq, reduceLeDiff]
 refine cac n120 (begin_ac [some (.cells (lineC l))] (l.gives.length + 1) (by omega)) (fun v S' hR => ?_) (fun v S' hR => ?_)
 rotate_left
 ·obtain ⟨e, _⟩ := hR
  cases e
 obtain ⟨e, rfl⟩ := hR
 cases e
 simp only [go_sem, reduceEqDiff, Nat.reduceBEq, reduceAdd, reduceIte, reduceCtorEq, reduceLeDiff]
 have hA := AC.args (args := [.slice (rowsO 1 (l.gives.length + 2) (l.gives.length + 2)) (l.gives.length + 2) (.tok (l.gives.length + 1)), lineA l, sl s, .int .i64 1]) (gline_ac (C := []) h (A := [some (.cells (lineC l))]) (beg_sq (l.gives.length + 2)) rfl s hs (b := 1) (by omega) (by omega) (by omega) (l.gives.length + 2) [l.gives.length + 1]) (SubL.cons (Sub.unk _ _ _) (SubL.refl _))
 rw [List.append_nil] at hA
 refine cac n121 hA (fun v S' hR => ?_) (fun v S' hR => ?_)
 rotate_left
 ·obtain ⟨e, _⟩ := hR
  cases e
 obtain ⟨e, C', rfl⟩ := hR
 cases e
 clear hA
 have hok := rlineB_okw h s (b := 1) (n := l.gives.length + 2) (by omega) (by omega)
 have hcl := gclosed_ac (A := [some (.cells (lineC l))]) (C := C') (off := 1) (fold_sq (rlineB l s 1) (beg_sq (l.gives.length + 2))) (by omega) (by omega) (fun i j hi hj => rl_low hok hi hj) (fun i j hi hj => rl_high hok hi hj) rfl (l.gives.length + 2) [l.gives.length + 1]
 have hV : upto far (l.gives.length + 2) (l.gives.length + 2) ((rlineB l s 1).foldl Fw.addc (begM (l.gives.length + 2))) = withV l s := rfl
 rw [hV] at hcl
 have hsq := withV_sq h s
 have hw : withA l s = .tuple [wS (withV l s), .bool (diagB (l.gives.length + 2) (withV l s) && decide ((s.length : Int) ≤ l.taps))] := rfl
 rw [hw]
 clear hw hV
 generalize withV l s = V at *
 have hcl := AC.args (args := [.slice (rowsO 1 (l.gives.length + 2) (l.gives.length + 2)) (l.gives.length + 2) (.tok (l.gives.length + 1))]) hcl (SubL.cons (Sub.unk _ _ _) (SubL.refl _))
 simp only [go_sem, reduceEqDiff, Nat.reduceBEq, reduceAdd, reduceIte, reduceCtorEq, reduceLeDiff]
 refine cac n122 hcl (fun v S' hR => ?_) (fun v S' hR => ?_)
 rotate_left
 ·obtain ⟨e, _⟩ := hR
  cases e
 obtain ⟨e, rfl⟩ := hR
 cases e
 have hfz := grid_frz (A := [some (.cells (lineC l))]) (C := C') hsq rfl (.tok (l.gives.length + 1))
 have hc0 : cellsAt (some (.cells (lineC l)) :: (heapR V ++ C')) 0 = some (lineC l) := rfl
 cases hd : diagB (l.gives.length + 2) V
 ·simp only [go_sem, Tryz.f79, Bool.false_and, reduceEqDiff, Nat.reduceBEq, reduceAdd, reduceIte, reduceCtorEq, reduceLeDiff]
  exact ⟨_, rfl, Frz.two hfz (.same _)⟩
 ·simp only [go_sem, builtinA, hc0, List.cons_append, List.nil_append, Tryz.f79, Bool.true_and, reduceEqDiff, Nat.reduceBEq, reduceAdd, reduceIte, reduceCtorEq, reduceLeDiff]
  exact ⟨_, rfl, Frz.two hfz (.same _)⟩
end Go.Av.Fx
end

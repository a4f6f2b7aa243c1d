/- Part 14 of the proof. -/
import Derived.Test.YtlagjjpbknpdkaaGreatDoorVp13
import Derived.Laws.Bits64
set_option linter.all false
set_option linter.unusedVariables false
set_option linter.unusedSimpArgs false
set_option linter.unusedSectionVars false
open Nat (reduceEqDiff reduceAdd reduceLeDiff)
section
namespace Go.Av.Fx
open Go Go.Av Go.Av.Tb Go.Proofs
noncomputable def E (n : Nat) : Env := { P := Tryz.prog, T := T, M := fun _ _ => none, N := n, base := 0, bt := 0 }
theorem E_ok (n : Nat) : (E n).Ok := ⟨T_ok, fun t name f h => (by cases h), fun _ _ _ _ => trivial, fun _ _ _ _ _ _ _ h => False.elim h⟩
theorem mix : Tryz.prog.follows .mixedOrders = true := by kernel_rfl
@[go_sem] theorem E_T (n : Nat) : (E n).T = T := rfl
@[go_sem] theorem E_P (n : Nat) : (E n).P = Tryz.prog := rfl
section
variable {n : Nat} {f : FuncId} {args args' : List AV} {S : St} {K Kp : AV → St → Prop} {h1 : Hold K} {h2 : Hold Kp}
theorem cac {R : AEnd → St → Prop} (hf : Callable Tryz.prog f) (h : AC Tryz.prog f args S R) (k : ∀ v S', R (.ret v) S' → K v S') (kp : ∀ v S', R (.panic v) S' → Kp v S') : sc (E n) K Kp h1 h2 (some (f, args)) S := call_ac (E := E n) hf h k kp
theorem cp {v : AV} (hf : Callable Tryz.prog f) (h : PC Tryz.prog f args' (.pure v)) (hs : SubL args args') (k : K v S) : sc (E n) K Kp h1 h2 (some (f, args)) S := call_pure (E := E n) hf h hs k
theorem ct {mk : Nat → AV} (hf : Callable Tryz.prog f) (h : PC Tryz.prog f args' (.tok none mk)) (hs : SubL args args') (k : K (mk S.nt) { S with toks := S.nt :: S.toks, nt := S.nt + 1 }) : sc (E n) K Kp h1 h2 (some (f, args)) S := call_tok (E := E n) hf h hs k
theorem ca {B : Blk} {mk : Nat → AV} (hf : Callable Tryz.prog f) (h : PC Tryz.prog f args' (.alloc B mk)) (hs : SubL args args') (k : K (mk S.heap.length) { S with heap := S.heap ++ [some B] }) : sc (E n) K Kp h1 h2 (some (f, args)) S := call_alloc (E := E n) hf h hs k
theorem cl {v : AV} (hf : Callable Tryz.prog f) (h : PC Tryz.prog f args' (.pure v)) (hl : LntL S.heap args args') (hv : v.flat = true) (k : K v S) : sc (E n) K Kp h1 h2 (some (f, args)) S := call_lend (E := E n) hf h hl hv k
theorem qp {v : AV} (hf : Callable Tryz.prog f) (h : PC Tryz.prog f args' (.pure v)) (hs : SubL args args') (k : K v S) : sqc (E n) K h1 (some (f, args)) S := callq_pure (E := E n) hf h hs k
theorem qt {mk : Nat → AV} (hf : Callable Tryz.prog f) (h : PC Tryz.prog f args' (.tok none mk)) (hs : SubL args args') (k : K (mk S.nt) { S with toks := S.nt :: S.toks, nt := S.nt + 1 }) : sqc (E n) K h1 (some (f, args)) S := callq_tok (E := E n) hf h hs k
end
section
variable {ts : TS}
@[go_sem] theorem e_slice : aeval ts (.const (.slice none 0 0)) = some .nilS := rfl
@[go_sem] theorem e_str (s : ByteArray) : aeval ts (.const (.string s)) = some (.str s) := rfl
@[go_sem] theorem e_nilp : aeval ts (.const (.pointer none)) = some .nilp := rfl
@[go_sem] theorem e_nilf : aeval ts (.const .nilFunc) = some .nilFunc := rfl
@[go_sem] theorem e_nili : aeval ts (.const .nilIface) = some .nilIface := rfl
@[go_sem] theorem e_nilm : aeval ts (.const (.map none)) = some .nilMap := rfl
end
def ints (l : List Int) : List AV := l.map (.int .i64)
abbrev sl (l : List Int) : AV := .slice (ints l) l.length .unk
@[simp] theorem ints_get (l : List Int) (i : Nat) : (ints l)[i]? = (l[i]?).map (.int .i64) := by simp [ints]
@[simp] theorem ints_len (l : List Int) : (ints l).length = l.length := by simp [ints]
@[simp] theorem ints_bnd (n k : Nat) (l : List Int) : bndL n k (ints l) = true := bndL_map _ (fun _ => rfl) l
structure Cnt where
 point : Int
 low : Int
 high : Int
 deriving DecidableEq
structure LLine where
 gives : List Int
 least : Int
 most : Int
 taps : Int
 counts : List Cnt
 deriving DecidableEq
abbrev cntC (c : Cnt) : List AV := [.int .i64 c.point, .int .i64 c.low, .int .i64 c.high]
def cnts (l : List Cnt) : List AV := l.flatMap cntC
@[simp] theorem cnts_len (l : List Cnt) : (cnts l).length = 3 * l.length := by
 induction l with
 | nil => rfl
 | cons c l ih => simp only [cnts, List.flatMap_cons, List.length_append] at ih ⊢; rw [ih]; simp [cntC]; omega
@[simp] theorem cnts_bnd (n k : Nat) (l : List Cnt) : bndL n k (cnts l) = true := bndL_flatMap _ (fun _ => rfl) l
abbrev lineC (l : LLine) : List AV := [sl l.gives, .int .i64 l.least, .int .i64 l.most, .int .i64 l.taps, .slice (cnts l.counts) l.counts.length .unk]
abbrev lineA (l : LLine) : AV := .agg (lineC l)
attribute [go_sem] lineC cntC
theorem cnts_at : ∀ (l : List Cnt) (k : Nat) (h : k < l.length), ((cnts l).drop (k * 3)).take 3 = cntC l[k]
 | c :: l, 0, h => by simp [cnts, cntC]
 | c :: l, k + 1, h => by
  have := cnts_at l k (by simpa using h)
  rw [show (k + 1) * 3 = 3 + k * 3 by omega, ← List.drop_drop]
  simpa [cnts, cntC] using this
@[go_sem] theorem add_zero_int (a : Int) : a + 0 = a := Int.add_zero a
theorem nat_idx (n : Nat) : ((n : Int)).toNat = n := Int.toNat_natCast n
theorem foldl_take {α β : Type} (f : α → β → α) (z : α) (l : List β) (k : Nat) (h : k < l.length) : (l.take (k + 1)).foldl f z = f ((l.take k).foldl f z) l[k] := by
 rw [List.take_succ_eq_append_getElem h, List.foldl_append]; rfl
abbrev okL (n : Nat) : Prop := n < 9223372036854775807
theorem in_pc (x lo hi : Int) : PC Tryz.prog 83 [.int .i64 x, .int .i64 lo, .int .i64 hi] (.pure (.bool (decide (x ≥ lo) && decide (x ≤ hi)))) := by
 refine PC.of_empty (AC.run (E_ok 15) mix Tryz.func83 m83 rfl rfl rfl (Nat.le_of_ble_eq_true rfl) ?_) rfl rfl
 simp only [go_sem, reduceEqDiff, Nat.reduceBEq, reduceAdd, reduceIte, reduceCtorEq, reduceLeDiff]
 refine sg_dec (fun h => ?_) (fun h => ?_)
 ·simp only [go_sem, h, decide_true, Tryz.f83, Bool.true_and, reduceEqDiff, Nat.reduceBEq, reduceAdd, reduceIte, reduceCtorEq, reduceLeDiff]
 ·simp only [go_sem, h, decide_false, Tryz.f83, Bool.false_and, reduceEqDiff, Nat.reduceBEq, reduceAdd, reduceIte, reduceCtorEq, reduceLeDiff]
theorem sum_pc (l : List Int) (hl : okL l.length) : PC Tryz.prog 130 [sl l] (.pure (.int .i64 (l.foldl (fun a b => IntKind.i64.wrap (a + b)) 0))) := by
 refine PC.of_empty (AC.run (E_ok 17) mix Tryz.func130 m130 rfl rfl rfl (Nat.le_of_ble_eq_true rfl) ?_) (by simp [bndL, AV.bnd]) rfl
 simp only [go_sem, builtinA, reduceEqDiff, Nat.reduceBEq, reduceAdd, reduceIte, reduceCtorEq, reduceLeDiff]
 refine wc_for l.length (fun k => [(3, .int .i64 ((l.take k).foldl (fun a b => IntKind.i64.wrap (a + b)) 0)), (6, sl l), (7, .int .i64 l.length), (8, .int .i64 k)]) (fun _ => St.empty) rfl rfl ?_
 intro k hk I hI
 by_cases h : k < l.length
 ·have h' : (k : Int) < l.length := by omega
  simp only [go_sem, l130_0, h', decide_true, reduceEqDiff, Nat.reduceBEq, reduceAdd, reduceIte, reduceCtorEq, reduceLeDiff]
  have h2 : 0 ≤ (k : Int) ∧ (k : Int) < l.length := by omega
  have h3 : l[k]? = some l[k] := List.getElem?_eq_getElem h
  have h4 : IntKind.i64.wrap ((k : Int) + 1) = (k + 1 : Nat) := wrap64 (by omega)
  simp only [go_sem, h2, nat_idx, Nat.mul_one, and_self, ints_get, h3, h4, reduceEqDiff, Nat.reduceBEq, reduceAdd, reduceIte, reduceCtorEq, reduceLeDiff]
  have := hI h
  rw [foldl_take _ _ _ _ h] at this
  exact this
 ·have h' : ¬ (k : Int) < l.length := by omega
  simp only [go_sem, l130_0, h', decide_false, Tryz.f130, reduceEqDiff, Nat.reduceBEq, reduceAdd, reduceIte, reduceCtorEq, reduceLeDiff]
  rw [List.take_of_length_le (by omega)]
theorem isCups_pc (n : Int) : PC Tryz.prog 127 [.int .i64 n] (.pure (.bool (decide (n ≥ 0) && decide (n ≤ 400)))) := by
 refine PC.of_empty (AC.run (E_ok 5) mix Tryz.func127 m127 rfl rfl rfl (Nat.le_of_ble_eq_true rfl) ?_) rfl rfl
 simp only [go_sem, reduceEqDiff, Nat.reduceBEq, reduceAdd, reduceIte, reduceCtorEq, reduceLeDiff]
 refine cp n83 (in_pc _ _ _) (SubL.refl _) ?_
 simp only [go_sem, Tryz.f127, reduceEqDiff, Nat.reduceBEq, reduceAdd, reduceIte, reduceCtorEq, reduceLeDiff]
theorem isPoint_pc (l : LLine) (n : Int) : PC Tryz.prog 86 [lineA l, .int .i64 n] (.pure (.bool (decide (n ≥ 0) && decide (n ≤ l.gives.length)))) := by
 refine PC.of_empty (AC.run (E_ok 10) mix Tryz.func86 m86 rfl rfl rfl (Nat.le_of_ble_eq_true rfl) ?_) (by simp [bndL, AV.bnd]) rfl
 simp only [go_sem, boxA, AV.cells, builtinA, reduceEqDiff, Nat.reduceBEq, reduceAdd, reduceIte, reduceCtorEq, reduceLeDiff]
 refine cp n83 (in_pc _ _ _) (SubL.refl _) ?_
 simp only [go_sem, Tryz.f86, reduceEqDiff, Nat.reduceBEq, reduceAdd, reduceIte, reduceCtorEq, reduceLeDiff]
theorem isOff_pc (n : Int) : PC Tryz.prog 95 [.int .i64 n] (.pure (.bool (decide (n ≥ 0) && decide (n ≤ 20)))) := by
 refine PC.of_empty (AC.run (E_ok _) mix Tryz.func95 m95 rfl rfl rfl (Nat.le_of_ble_eq_true rfl) ?_) rfl rfl
 simp only [go_sem, reduceEqDiff, Nat.reduceBEq, reduceAdd, reduceIte, reduceCtorEq, reduceLeDiff]
 refine cp n83 (in_pc _ _ _) (SubL.refl _) ?_
 simp only [go_sem, Tryz.f95, reduceEqDiff, Nat.reduceBEq, reduceAdd, reduceIte, reduceCtorEq, reduceLeDiff]
theorem isLine1_pc (n : Int) : PC Tryz.prog 124 [.int .i64 n] (.pure (.bool (!(decide (n ≥ 0) && decide (n ≤ 60))))) := by
 refine PC.of_empty (AC.run (E_ok _) mix Tryz.func124 m124 rfl rfl rfl (Nat.le_of_ble_eq_true rfl) ?_) rfl rfl
 simp only [go_sem, reduceEqDiff, Nat.reduceBEq, reduceAdd, reduceIte, reduceCtorEq, reduceLeDiff]
 refine cp n83 (in_pc _ _ _) (SubL.refl _) ?_
 simp only [go_sem, Tryz.f124, reduceEqDiff, Nat.reduceBEq, reduceAdd, reduceIte, reduceCtorEq, reduceLeDiff]
def idx {α : Type} (p : α → Bool) (l : List α) : Int := match l.findIdx? p with
 | some i => i
 | none => -1
theorem idx_at {α : Type} {p : α → Bool} {l : List α} {k : Nat} (h : k < l.length) (hp : p l[k] = true) (hn : ∀ i (hi : i < k), p (l[i]'(by omega)) = false) : idx p l = k := by
 have : l.findIdx? p = some k := by
  rw [List.findIdx?_eq_some_iff_getElem]
  exact ⟨h, hp, fun j hj => by simp [hn j hj]⟩
 unfold idx; rw [this]
theorem idx_none {α : Type} {p : α → Bool} {l : List α} (hn : ∀ i (hi : i < l.length), p l[i] = false) : idx p l = -1 := by
 have : l.findIdx? p = none := by
  rw [List.findIdx?_eq_none_iff]
  intro x hx
  obtain ⟨i, hi, rfl⟩ := List.mem_iff_getElem.1 hx
  exact hn i hi
 unfold idx; rw [this]
theorem idx_nonneg {α : Type} (p : α → Bool) (l : List α) : decide (idx p l ≥ 0) = l.any p := by
 unfold idx
 cases h : l.findIdx? p with
 | none =>
  rw [List.findIdx?_eq_none_iff] at h
  have : l.any p = false := by simpa using h
  rw [this]; rfl
 | some i =>
  rw [List.findIdx?_eq_some_iff_getElem] at h
  obtain ⟨hi, hp, _⟩ := h
  have : l.any p = true := List.any_eq_true.2 ⟨l[i], List.getElem_mem hi, hp⟩
  rw [this]; simp
theorem indexFunc_pc (l : List Int) (hl : okL l.length) (g : FuncId) (ng : Callable Tryz.prog g) (caps : List AV) (hc : bndL 0 0 caps = true) (p : Int → Bool) (hg : ∀ x ∈ l, PC Tryz.prog g (.int .i64 x :: caps) (.pure (.bool (p x)))) :
  PC Tryz.prog 152 [sl l, .func (.func g) [] caps] (.pure (.int .i64 (idx p l))) := by
 refine PC.of_empty (AC.run (E_ok _) mix Tryz.func152 m152 rfl rfl rfl (Nat.le_of_ble_eq_true rfl) ?_) (by simp [bndL, AV.bnd, hc]) rfl
 simp only [go_sem, builtinA, reduceEqDiff, Nat.reduceBEq, reduceAdd, reduceIte, reduceCtorEq, reduceLeDiff]
 refine wc_forP l.length (fun k => ∀ i (hi : i < k) (hil : i < l.length), p l[i] = false) (fun k => [(0, sl l), (1, .func (.func g) [] caps), (7, .int .i64 l.length), (8, .int .i64 k)]) (fun _ => St.empty) (fun i hi => absurd hi (Nat.not_lt_zero _)) rfl rfl ?_
 intro k hk hP I hI
 by_cases h : k < l.length
 ·have h' : (k : Int) < l.length := by omega
  have h2 : 0 ≤ (k : Int) ∧ (k : Int) < l.length := by omega
  have h3 : l[k]? = some l[k] := List.getElem?_eq_getElem h
  have h4 : IntKind.i64.wrap ((k : Int) + 1) = (k + 1 : Nat) := wrap64 (by omega)
  simp only [go_sem, l152_0, h', decide_true, reduceEqDiff, Nat.reduceBEq, reduceAdd, reduceIte, reduceCtorEq, reduceLeDiff]
  simp only [go_sem, h2, nat_idx, Nat.mul_one, and_self, ints_get, h3, h4, reduceEqDiff, Nat.reduceBEq, reduceAdd, reduceIte, reduceCtorEq, reduceLeDiff]
  refine cp ng (hg _ (List.getElem_mem h)) (SubL.refl _) ?_
  simp only [go_sem, reduceEqDiff, Nat.reduceBEq, reduceAdd, reduceIte, reduceCtorEq, reduceLeDiff]
  refine sb_bool (fun hb => ?_) (fun hb => ?_)
  ·simp only [go_sem, Tryz.f152, reduceEqDiff, Nat.reduceBEq, reduceAdd, reduceIte, reduceCtorEq, reduceLeDiff]
   rw [idx_at h hb (fun i hi => hP i hi (by omega))]
  ·simp only [go_sem, h4, reduceEqDiff, Nat.reduceBEq, reduceAdd, reduceIte, reduceCtorEq, reduceLeDiff]
   refine hI h fun i hi hil => ?_
   by_cases e : i = k
   ·subst e; exact hb
   ·exact hP i (by omega) hil
 ·have h' : ¬ (k : Int) < l.length := by omega
  simp only [go_sem, l152_0, h', decide_false, Tryz.f152, reduceEqDiff, Nat.reduceBEq, reduceAdd, reduceIte, reduceCtorEq, reduceLeDiff]
  rw [idx_none fun i hi => hP i (by omega) hi]
theorem containsFunc_pc (l : List Int) (hl : okL l.length) (g : FuncId) (ng : Callable Tryz.prog g) (caps : List AV) (hc : bndL 0 0 caps = true) (p : Int → Bool) (hg : ∀ x ∈ l, PC Tryz.prog g (.int .i64 x :: caps) (.pure (.bool (p x)))) :
  PC Tryz.prog 123 [sl l, .func (.func g) [] caps] (.pure (.bool (l.any p))) := by
 refine PC.of_empty (AC.run (E_ok _) mix Tryz.func123 m123 rfl rfl rfl (Nat.le_of_ble_eq_true rfl) ?_) (by simp [bndL, AV.bnd, hc]) rfl
 simp only [go_sem, reduceEqDiff, Nat.reduceBEq, reduceAdd, reduceIte, reduceCtorEq, reduceLeDiff]
 refine cp n152 (indexFunc_pc l hl g ng caps hc p hg) (SubL.refl _) ?_
 simp only [go_sem, Tryz.f123, idx_nonneg, reduceEqDiff, Nat.reduceBEq, reduceAdd, reduceIte, reduceCtorEq, reduceLeDiff]
end Go.Av.Fx
end
section
namespace Go.Av.Fx
open Go Go.Av Go.Av.Tb Go.Proofs
attribute [go_sem] List.drop_zero List.take_succ_cons List.take_zero List.take_nil List.drop_succ_cons
theorem indexFuncC_pc (l : List Cnt) (hl : okL l.length) (g : FuncId) (ng : Callable Tryz.prog g) (caps : List AV) (hc : bndL 0 0 caps = true) (p : Cnt → Bool) (hg : ∀ x ∈ l, PC Tryz.prog g (.agg (cntC x) :: caps) (.pure (.bool (p x)))) :
  PC Tryz.prog 153 [.slice (cnts l) l.length .unk, .func (.func g) [] caps] (.pure (.int .i64 (idx p l))) := by
 refine PC.of_empty (AC.run (E_ok _) mix Tryz.func153 m153 rfl rfl rfl (Nat.le_of_ble_eq_true rfl) ?_) (by simp [bndL, AV.bnd, hc]) rfl
 simp only [go_sem, builtinA, reduceEqDiff, Nat.reduceBEq, reduceAdd, reduceIte, reduceCtorEq, reduceLeDiff]
 refine wc_forP l.length (fun k => ∀ i (hi : i < k) (hil : i < l.length), p l[i] = false) (fun k => [(0, .slice (cnts l) l.length .unk), (1, .func (.func g) [] caps), (7, .int .i64 l.length), (8, .int .i64 k)]) (fun _ => St.empty) (fun i hi => absurd hi (Nat.not_lt_zero _)) rfl rfl ?_
 intro k hk hP I hI
 by_cases h : k < l.length
 ·have h' : (k : Int) < l.length := by omega
  have h2 : 0 ≤ (k : Int) ∧ (k : Int) < l.length := by omega
  have h3 : k * 3 + 3 ≤ (cnts l).length := by rw [cnts_len]; omega
  have h4 : IntKind.i64.wrap ((k : Int) + 1) = (k + 1 : Nat) := wrap64 (by omega)
  have h5 := cnts_at l k h
  simp only [go_sem, l153_0, h', decide_true, reduceEqDiff, Nat.reduceBEq, reduceAdd, reduceIte, reduceCtorEq, reduceLeDiff]
  simp only [go_sem, h2, nat_idx, and_self, h3, h5, reduceEqDiff, Nat.reduceBEq, reduceAdd, reduceIte, reduceCtorEq, reduceLeDiff]
  refine cp ng (hg _ (List.getElem_mem h)) (SubL.refl _) ?_
  simp only [go_sem, reduceEqDiff, Nat.reduceBEq, reduceAdd, reduceIte, reduceCtorEq, reduceLeDiff]
  refine sb_bool (fun hb => ?_) (fun hb => ?_)
  ·simp only [go_sem, Tryz.f153, reduceEqDiff, Nat.reduceBEq, reduceAdd, reduceIte, reduceCtorEq, reduceLeDiff]
   rw [idx_at h hb (fun i hi => hP i hi (by omega))]
  ·simp only [go_sem, h4, reduceEqDiff, Nat.reduceBEq, reduceAdd, reduceIte, reduceCtorEq, reduceLeDiff]
   refine hI h fun i hi hil => ?_
   by_cases e : i = k
   ·subst e; exact hb
   ·exact hP i (by omega) hil
 ·have h' : ¬ (k : Int) < l.length := by omega
  simp only [go_sem, l153_0, h', decide_false, Tryz.f153, reduceEqDiff, Nat.reduceBEq, reduceAdd, reduceIte, reduceCtorEq, reduceLeDiff]
  rw [idx_none fun i hi => hP i (by omega) hi]
theorem containsFuncC_pc (l : List Cnt) (hl : okL l.length) (g : FuncId) (ng : Callable Tryz.prog g) (caps : List AV) (hc : bndL 0 0 caps = true) (p : Cnt → Bool) (hg : ∀ x ∈ l, PC Tryz.prog g (.agg (cntC x) :: caps) (.pure (.bool (p x)))) :
  PC Tryz.prog 125 [.slice (cnts l) l.length .unk, .func (.func g) [] caps] (.pure (.bool (l.any p))) := by
 refine PC.of_empty (AC.run (E_ok _) mix Tryz.func125 m125 rfl rfl rfl (Nat.le_of_ble_eq_true rfl) ?_) (by simp [bndL, AV.bnd, hc]) rfl
 simp only [go_sem, reduceEqDiff, Nat.reduceBEq, reduceAdd, reduceIte, reduceCtorEq, reduceLeDiff]
 refine cp n153 (indexFuncC_pc l hl g ng caps hc p hg) (SubL.refl _) ?_
 simp only [go_sem, Tryz.f125, idx_nonneg, reduceEqDiff, Nat.reduceBEq, reduceAdd, reduceIte, reduceCtorEq, reduceLeDiff]
def inB (n lo hi : Int) : Bool := decide (n ≥ lo) && decide (n ≤ hi)
def badCnt (l : LLine) (c : Cnt) : Bool := !inB c.point 0 l.gives.length || !inB c.low 0 400 || !inB c.high 0 400 || decide (c.low > c.high)
theorem isLine2_pc (l : LLine) (c : Cnt) : PC Tryz.prog 126 [.agg (cntC c), .eptr (lineC l) 0] (.pure (.bool (badCnt l c))) := by
 refine PC.of_empty (AC.run (E_ok _) mix Tryz.func126 m126 rfl rfl rfl (Nat.le_of_ble_eq_true rfl) ?_) (by simp [bndL, AV.bnd]) rfl
 simp only [go_sem, boxA, AV.cells, reduceEqDiff, Nat.reduceBEq, reduceAdd, reduceIte, reduceCtorEq, reduceLeDiff]
 refine cp n86 (isPoint_pc l c.point) (SubL.refl _) ?_
 by_cases h1 : inB c.point 0 l.gives.length = true
 ·have h1' := h1
  unfold inB at h1'
  simp only [go_sem, h1', un_not, Bool.not_true, reduceEqDiff, Nat.reduceBEq, reduceAdd, reduceIte, reduceCtorEq, reduceLeDiff]
  refine cp n127 (isCups_pc c.low) (SubL.refl _) ?_
  by_cases h2 : inB c.low 0 400 = true
  ·have h2' := h2
   unfold inB at h2'
   simp only [go_sem, h2', un_not, Bool.not_true, reduceEqDiff, Nat.reduceBEq, reduceAdd, reduceIte, reduceCtorEq, reduceLeDiff]
   refine cp n127 (isCups_pc c.high) (SubL.refl _) ?_
   by_cases h3 : inB c.high 0 400 = true
   ·have h3' := h3
    unfold inB at h3'
    simp only [go_sem, h3', un_not, Bool.not_true, Tryz.f126, badCnt, h1, h2, h3, reduceEqDiff, Nat.reduceBEq, reduceAdd, reduceIte, reduceCtorEq, reduceLeDiff]
   ·have h3' : (decide (c.high ≥ 0) && decide (c.high ≤ 400)) = false := by simpa [inB] using h3
    simp only [go_sem, h3', un_not, Bool.not_false, Tryz.f126, badCnt, h1, h2, h3, reduceEqDiff, Nat.reduceBEq, reduceAdd, reduceIte, reduceCtorEq, reduceLeDiff]
  ·have h2' : (decide (c.low ≥ 0) && decide (c.low ≤ 400)) = false := by simpa [inB] using h2
   simp only [go_sem, h2', un_not, Bool.not_false, Tryz.f126, badCnt, h1, h2, reduceEqDiff, Nat.reduceBEq, reduceAdd, reduceIte, reduceCtorEq, reduceLeDiff]
 ·have h1' : (decide (c.point ≥ 0) && decide (c.point ≤ (l.gives.length : Int))) = false := by simpa [inB] using h1
  simp only [go_sem, h1', un_not, Bool.not_false, Tryz.f126, badCnt, h1, reduceEqDiff, Nat.reduceBEq, reduceAdd, reduceIte, reduceCtorEq, reduceLeDiff]
def isLineB (l : LLine) : Bool := inB l.gives.length 1 5 && decide ((l.counts.length : Int) ≤ 8) && inB l.least 1 l.most && decide (l.most ≤ 60) && inB l.taps 0 2 && !l.gives.any (fun n => !inB n 0 60) && !l.counts.any (badCnt l)
theorem Lnt.func1 {h : List (Option Blk)} {fn : Fn} {c c' : AV} (hc : Lnt h c c') : Lnt h (.func fn [] [c]) (.func fn [] [c']) :=
 .func fn [] [c] [] [c'] rfl (fun j x y e => by simp at e) rfl (fun j x y e e' => by
  cases j with
  | zero => simp at e e'; subst e; subst e'; exact hc
  | succ j => simp at e)
abbrev okLine (l : LLine) : Prop := okL l.gives.length ∧ okL l.counts.length
theorem isLine_pc (l : LLine) (ok : okLine l) : PC Tryz.prog 82 [lineA l] (.pure (.bool (isLineB l))) := by
 refine PC.of_empty (AC.run (E_ok _) mix Tryz.func82 m82 rfl rfl rfl (Nat.le_of_ble_eq_true rfl) ?_) (by simp [bndL, AV.bnd]) rfl
 simp only [go_sem, boxA, AV.cells, builtinA, reduceEqDiff, Nat.reduceBEq, reduceAdd, reduceIte, reduceCtorEq, reduceLeDiff]
 refine cp n83 (in_pc _ _ _) (SubL.refl _) ?_
 by_cases h1 : inB l.gives.length 1 5 = true
 case neg =>
  have h1' : (decide ((l.gives.length : Int) ≥ 1) && decide ((l.gives.length : Int) ≤ 5)) = false := by simpa [inB] using h1
  simp only [go_sem, h1', Tryz.f82, isLineB, h1, Bool.false_and, reduceEqDiff, Nat.reduceBEq, reduceAdd, reduceIte, reduceCtorEq, reduceLeDiff]
 have h1' := h1
 unfold inB at h1'
 by_cases h2 : (l.counts.length : Int) ≤ 8
 case neg =>
  simp only [go_sem, builtinA, h1', h2, decide_false, Tryz.f82, isLineB, h1, Bool.false_and, Bool.and_false, reduceEqDiff, Nat.reduceBEq, reduceAdd, reduceIte, reduceCtorEq, reduceLeDiff]
 simp only [go_sem, builtinA, h1', h2, decide_true, reduceEqDiff, Nat.reduceBEq, reduceAdd, reduceIte, reduceCtorEq, reduceLeDiff]
 refine cp n83 (in_pc _ _ _) (SubL.refl _) ?_
 by_cases h3 : inB l.least 1 l.most = true
 case neg =>
  have h3' : (decide (l.least ≥ 1) && decide (l.least ≤ l.most)) = false := by simpa [inB] using h3
  simp only [go_sem, h3', Tryz.f82, isLineB, h3, Bool.false_and, Bool.and_false, reduceEqDiff, Nat.reduceBEq, reduceAdd, reduceIte, reduceCtorEq, reduceLeDiff]
 have h3' := h3
 unfold inB at h3'
 by_cases h4 : l.most ≤ 60
 case neg =>
  simp only [go_sem, builtinA, h3', h4, decide_false, Tryz.f82, isLineB, Bool.false_and, Bool.and_false, reduceEqDiff, Nat.reduceBEq, reduceAdd, reduceIte, reduceCtorEq, reduceLeDiff]
 simp only [go_sem, builtinA, h3', h4, decide_true, reduceEqDiff, Nat.reduceBEq, reduceAdd, reduceIte, reduceCtorEq, reduceLeDiff]
 refine cp n83 (in_pc _ _ _) (SubL.refl _) ?_
 by_cases h5 : inB l.taps 0 2 = true
 case neg =>
  have h5' : (decide (l.taps ≥ 0) && decide (l.taps ≤ 2)) = false := by simpa [inB] using h5
  simp only [go_sem, h5', Tryz.f82, isLineB, h5, Bool.false_and, Bool.and_false, reduceEqDiff, Nat.reduceBEq, reduceAdd, reduceIte, reduceCtorEq, reduceLeDiff]
 have h5' := h5
 unfold inB at h5'
 simp only [go_sem, h5', reduceEqDiff, Nat.reduceBEq, reduceAdd, reduceIte, reduceCtorEq, reduceLeDiff]
 refine cp n123 (containsFunc_pc l.gives ok.1 124 n124 [] rfl (fun n => !inB n 0 60) (fun x _ => isLine1_pc x)) (SubL.refl _) ?_
 by_cases h6 : l.gives.any (fun n => !inB n 0 60) = true
 ·simp only [go_sem, h6, un_not, Bool.not_true, Tryz.f82, isLineB, Bool.false_and, Bool.and_false, reduceEqDiff, Nat.reduceBEq, reduceAdd, reduceIte, reduceCtorEq, reduceLeDiff]
 ·have h6' : l.gives.any (fun n => !inB n 0 60) = false := by simpa using h6
  simp only [go_sem, h6', un_not, Bool.not_false, reduceEqDiff, Nat.reduceBEq, reduceAdd, reduceIte, reduceCtorEq, reduceLeDiff]
  refine cl n125 (containsFuncC_pc l.counts ok.2 126 n126 [.eptr (lineC l) 0] (by simp [bndL, AV.bnd]) (badCnt l) (fun c _ => isLine2_pc l c)) (LntL.cons (.same _ (by simp [AV.bnd])) (LntL.cons (Lnt.func1 (.ptr 0 0 _ rfl (by simp [bndL, AV.bnd]))) (LntL.nil _))) rfl ?_
  simp only [go_sem, un_not, Tryz.f82, isLineB, h1, h2, h3, h4, h5, h6', decide_true, Bool.not_false, Bool.true_and, reduceEqDiff, Nat.reduceBEq, reduceAdd, reduceIte, reduceCtorEq, reduceLeDiff]
end Go.Av.Fx
end
section
namespace Go.Av.Fx
open Go Go.Av Go.Av.Tb Go.Proofs
theorem and_mask {n : Int} (h : 0 ≤ n) (h' : n < 4294967296) : intOp .and .u64 n 4294967295 = some (.int .u64 n) := by
 have hb : IntKind.u64.bits = 64 := rfl
 have h1 : (BitVec.ofInt 64 n &&& BitVec.ofInt 64 4294967295).toNat = n.toNat := by
  rw [BitVec.toNat_and]
  have a1 : (BitVec.ofInt 64 n).toNat = n.toNat := by
   rw [BitVec.toNat_ofInt]; omega
  have a2 : (BitVec.ofInt 64 4294967295).toNat = 2 ^ 32 - 1 := by decide
  rw [a1, a2, Nat.and_two_pow_sub_one_eq_mod]
  omega
 have h2 : IntKind.u64.wrap ((BitVec.ofInt 64 n &&& BitVec.ofInt 64 4294967295).toNat : Int) = n := by
  rw [h1, IntKind.wrap_u64]; omega
 show some (AV.int .u64 (IntKind.u64.wrap ((BitVec.ofInt 64 n &&& BitVec.ofInt 64 4294967295).toNat : Int))) = _
 rw [h2]
theorem shr_small {n : Int} (h : 0 ≤ n) (h' : n < 4294967296) : intOp .shr .u64 n 32 = some (.int .u64 0) := by
 have : n.fdiv (2 ^ (min (32 : Int).toNat IntKind.u64.bits)) = 0 := by
  have e : (min (32 : Int).toNat IntKind.u64.bits) = 32 := rfl
  rw [e, Int.fdiv_eq_ediv_of_nonneg _ (by decide)]
  omega
 show (if (32 : Int) < 0 then none else some (AV.int .u64 (n.fdiv (2 ^ (min (32 : Int).toNat IntKind.u64.bits))))) = _
 rw [this]; rfl
theorem wrapu {n : Int} (h : 0 ≤ n) (h' : n < 18446744073709551616) : IntKind.u64.wrap n = n := by rw [IntKind.wrap_u64]; omega
theorem mul64_pc (n : Int) (h : 0 ≤ n) (h' : n < 4294967296) : PC Tryz.prog 170 [.int .u64 1, .int .u64 n] (.pure (.tuple [.int .u64 0, .int .u64 n])) := by
 refine PC.of_empty (AC.run (E_ok _) mix Tryz.func170 m170 rfl rfl rfl (Nat.le_of_ble_eq_true rfl) ?_) rfl rfl
 have a1 := and_mask (n := 1) (by decide) (by decide)
 have a2 := and_mask h h'
 have a3 := and_mask (n := 0) (by decide) (by decide)
 have s1 := shr_small (n := 1) (by decide) (by decide)
 have s2 := shr_small h h'
 have s3 := shr_small (n := 0) (by decide) (by decide)
 have w1 : IntKind.u64.wrap n = n := wrapu h (by omega)
 have w2 : IntKind.u64.wrap 0 = 0 := rfl
 have w3 : IntKind.u64.wrap 1 = 1 := rfl
 simp only [go_sem, a1, a2, a3, s1, s2, s3, w1, w2, w3, Int.one_mul, Int.zero_mul, Int.mul_zero, Int.add_zero, Int.zero_add, Tryz.f170, reduceEqDiff, Nat.reduceBEq, reduceAdd, reduceIte, reduceCtorEq, reduceLeDiff]
theorem mul_pc (n : Int) (h : 0 ≤ n) (h' : n < 4294967296) : PC Tryz.prog 162 [.int .u64 1, .int .u64 n] (.pure (.tuple [.int .u64 0, .int .u64 n])) := by
 refine PC.of_empty (AC.run (E_ok _) mix Tryz.func162 m162 rfl rfl rfl (Nat.le_of_ble_eq_true rfl) ?_) rfl rfl
 simp only [go_sem, reduceEqDiff, Nat.reduceBEq, reduceAdd, reduceIte, reduceCtorEq, reduceLeDiff]
 refine cp n170 (mul64_pc n h h') (SubL.refl _) ?_
 simp only [go_sem, extractA, Tryz.f162, reduceEqDiff, Nat.reduceBEq, reduceAdd, reduceIte, reduceCtorEq, reduceLeDiff]
end Go.Av.Fx
end
section
namespace Go.Av.Fx
open Go Go.Av Go.Av.Tb Go.Proofs
@[go_sem] theorem z_copy {E : Env} {K : TS → St → Prop} {n : Nat} {rest : List MO} {hs : List Bool} {b : St} {ts : TS} {S : St} (d : Option Nat) (args : Array Operand) (tys : Array TypeId) :
  preM E K (n + 1) (⟨none, d, .call { callee := .builtin .copy, args := args, argTypes := tys }⟩ :: rest) (false :: hs) b ts S = sr (fun v S' => preM E K n rest hs S' (setT ts d v) S') ⟨⟩ (astepO E.T S ts (.call { callee := .builtin .copy, args := args, argTypes := tys })) S := by
 simp only [preM, guardM, QOp, List.headD_cons, List.tail_cons, Bool.false_eq_true, if_false, isW, if_true, sr]
 cases h2 : astepO E.T S ts (.call { callee := .builtin .copy, args := args, argTypes := tys }) <;> rfl
theorem splice_eq (l vs : List AV) (o : Nat) (h : o + vs.length ≤ l.length) : splice l o vs = l.take o ++ vs ++ l.drop (o + vs.length) := by
 apply List.ext_getElem?
 intro j
 rw [get_splice vs l o h j]
 by_cases h1 : j < o
 ·rw [if_neg (by omega), List.append_assoc, List.getElem?_append_left (by simp; omega), List.getElem?_take, if_pos h1]
 ·by_cases h2 : j < o + vs.length
  ·rw [if_pos (by omega), List.append_assoc, List.getElem?_append_right (by simp; omega), List.getElem?_append_left (by simp; omega)]
   congr 1
   simp; omega
  ·rw [if_neg (by omega), List.getElem?_append_right (by simp; omega), List.getElem?_drop]
   congr 1
   simp; omega
theorem mk22 {k k' : IntKind} {n : Nat} (h : n ≤ 100000000) : makeSliceA T 22 (.int k n) (.int k' n) = some (.alloc (.cells (ints (List.replicate n 0))) fun i => .sref i 0 n n) := by
 have h1 : 0 ≤ (n : Int) ∧ (n : Int) ≤ n ∧ (n : Int) ≤ 1099511627776 ∧ (n : Int) * 8 ≤ 1099511627776 ∧ (1 : Nat) ≠ 0 := by omega
 have h2 : (List.range (n * 1)).map (fun j => ([.int .i64 0] : List AV).getD (j % 1) .undef) = ints (List.replicate n 0) := by
  apply List.ext_getElem?
  intro j
  simp only [Nat.mul_one, List.getElem?_map, ints, List.getElem?_replicate]
  by_cases hj : j < n
  ·rw [List.getElem?_range hj, if_pos hj]; simp [Nat.mod_one]
  ·rw [List.getElem?_eq_none (by simpa using hj), if_neg hj]; rfl
 show (if 0 ≤ (n : Int) ∧ (n : Int) ≤ n ∧ (n : Int) ≤ 1099511627776 ∧ (n : Int) * (8 : Nat) ≤ 1099511627776 ∧ (1 : Nat) ≠ 0 then some (Res.alloc (.cells ((List.range ((n : Int).toNat * 1)).map fun j => ([.int .i64 0] : List AV).getD (j % 1) .undef)) (.sref · 0 (n : Int).toNat (n : Int).toNat)) else none) = _
 rw [if_pos (by simpa using h1), Int.toNat_natCast, h2]
theorem copy22 {S : St} {b o n cap : Nat} {l m : List Int} {s : AV} (hb : S.heap[b]? = some (some (.cells (ints l)))) (hs : heldA S 1 s = some (ints m, m.length)) (h1 : 0 < min m.length n) (h2 : o + min m.length n ≤ l.length) :
  copyA T S 22 (.sref b o n cap) s = some (.write b (.cells (ints (l.take o ++ m.take (min m.length n) ++ l.drop (o + min m.length n)))) (.int .i64 (min m.length n : Nat))) := by
 have hall : ((ints m).take (min m.length n)).all AV.one = true := by
  rw [List.all_eq_true]
  intro x hx
  have := List.mem_of_mem_take hx
  simp only [ints, List.mem_map] at this
  obtain ⟨y, _, rfl⟩ := this
  rfl
 have hc : (1 : Nat) = 1 ∧ 0 < min m.length n ∧ o + min m.length n ≤ (ints l).length ∧ ((ints m).take (min m.length n)).all AV.one = true := ⟨rfl, h1, by simpa using h2, hall⟩
 have : copyA T S 22 (.sref b o n cap) s = (match some ti3, heldA S 1 s, S.heap[b]? with
  | some ei, some (lx, nx), some (some (.cells l)) =>
   if ei.size = 1 ∧ 0 < min nx n ∧ o + min nx n ≤ l.length ∧ (lx.take (min nx n)).all AV.one then some (.write b (.cells (splice l o (lx.take (min nx n)))) (.int .i64 (min nx n : Nat))) else none
  | _, _, _ => none) := rfl
 rw [this, hs, hb]
 simp only
 rw [if_pos (by simpa [ti3] using hc), splice_eq _ _ _ (by simp; omega)]
 congr 3
 simp only [ints, List.map_append, List.map_take, List.map_drop, List.length_take, List.length_map]
 congr 2
 omega
theorem slr_lo {b o n cap k : Nat} (h : k < cap) (hn : n ≤ cap) (hk : k ≤ n) : sliceA T 22 (.sref b o n cap) (some (.int .i64 (k : Nat))) none none = some (.sref b (o + k) (n - k) (cap - k)) := by
 have h1 : (0 : Int) ≤ (k : Nat) ∧ ((k : Nat) : Int) ≤ (n : Nat) := by omega
 have : sliceA T 22 (.sref b o n cap) (some (.int .i64 (k : Nat))) none none = if cap < n then none else (Go.Av.bnd none n cap).bind fun h => (Go.Av.bnd (some (.int .i64 (k : Nat))) 0 h).bind fun l => if cap ≤ l then none else some (.sref b (o + l * 1) (h - l) (cap - l)) := rfl
 rw [this, if_neg (by omega)]
 simp only [Go.Av.bnd, Option.bind_some]
 rw [if_pos h1]
 simp only [Option.bind_some, Int.toNat_natCast, Nat.mul_one]
 rw [if_neg (by omega)]
theorem slr_hi {b o n cap k : Nat} (hc : 0 < cap) (hn : n ≤ cap) (hk : k ≤ cap) : sliceA T 22 (.sref b o n cap) none (some (.int .i64 (k : Nat))) none = some (.sref b o k cap) := by
 have h1 : (0 : Int) ≤ (k : Nat) ∧ ((k : Nat) : Int) ≤ (cap : Nat) := by omega
 have : sliceA T 22 (.sref b o n cap) none (some (.int .i64 (k : Nat))) none = if cap < n then none else (Go.Av.bnd (some (.int .i64 (k : Nat))) n cap).bind fun h => (Go.Av.bnd none 0 h).bind fun l => if cap ≤ l then none else some (.sref b (o + l * 1) (h - l) (cap - l)) := rfl
 rw [this, if_neg (by omega)]
 simp only [Go.Av.bnd]
 rw [if_pos h1]
 simp only [Option.bind_some, Int.toNat_natCast, Nat.zero_mul, Nat.add_zero, Nat.sub_zero]
 rw [if_neg (by omega)]
theorem repeat_pc (x : Int) (n : Nat) (h0 : 0 < n) (h : n ≤ 1000000) : PC Tryz.prog 154 [.slice [.int .i64 x] 1 .unk, .int .i64 n] (.alloc (.cells (ints (List.replicate n x))) fun i => .sref i 0 n n) := by
 refine PC.of_alloc (AC.run (E_ok _) mix Tryz.func154 m154 rfl rfl rfl (Nat.le_of_ble_eq_true rfl) ?_) (by simp [bndL, AV.bnd]) (by simp)
 have a1 : ¬ ((n : Int) < 0) := by omega
 simp only [go_sem, a1, decide_false, AV.ofVal, AV.atom, builtinA, convA, reduceEqDiff, Nat.reduceBEq, reduceAdd, reduceIte, reduceCtorEq, reduceLeDiff]
 have w1 : IntKind.u64.wrap ((1 : Nat) : Int) = 1 := rfl
 have w2 : IntKind.u64.wrap (n : Int) = n := wrapu (by omega) (by omega)
 simp only [go_sem, builtinA, convA, w1, w2, reduceEqDiff, Nat.reduceBEq, reduceAdd, reduceIte, reduceCtorEq, reduceLeDiff]
 refine cp n162 (mul_pc n (by omega) (by omega)) (SubL.refl _) ?_
 have a2 : ¬ ((n : Int) > 9223372036854775807) := by omega
 have z0 : decide ((0 : Int) > 0) = false := rfl
 have a3 : IntKind.i64.wrap (n : Int) = n := wrap64 (by omega)
 simp only [go_sem, z0, a2, decide_false, builtinA, convA, extractA, a3, reduceEqDiff, Nat.reduceBEq, reduceAdd, reduceIte, reduceCtorEq, reduceLeDiff]
 rw [mk22 (by omega)]
 simp only [go_sem, builtinA, reduceEqDiff, Nat.reduceBEq, reduceAdd, reduceIte, reduceCtorEq, reduceLeDiff]
 rw [copy22 (l := List.replicate n 0) (m := [x]) rfl rfl (by simp; omega) (by simp; omega)]
 have e1 : (List.replicate n (0 : Int)).take 0 ++ [x].take (min [x].length n) ++ (List.replicate n 0).drop (0 + min [x].length n) = List.replicate 1 x ++ List.replicate (n - 1) 0 := by
  have : min 1 n = 1 := by omega
  simp [this]
 have e2 : min [x].length n = 1 := by simp; omega
 rw [e1, e2]
 simp only [go_sem, reduceEqDiff, Nat.reduceBEq, reduceAdd, reduceIte, reduceCtorEq, reduceLeDiff]
 refine wc_loop (fun r ts S => ∃ k, 0 < k ∧ k ≤ n ∧ r = n - k ∧ ts = [(7, .sref 0 0 n n), (8, .int .i64 (k : Nat))] ∧ S = ⟨[some (.cells (ints (List.replicate k x ++ List.replicate (n - k) 0)))], 0, []⟩) (n - 1) ⟨1, by omega, by omega, rfl, rfl, rfl⟩ ?_
 rintro r ts S ⟨k, k0, kn, rfl, rfl, rfl⟩
 by_cases hk : k < n
 ·have hk' : (k : Int) < n := by omega
  simp only [go_sem, l154_0, builtinA, hk', decide_true, reduceEqDiff, Nat.reduceBEq, reduceAdd, reduceIte, reduceCtorEq, reduceLeDiff]
  rw [slr_lo hk (Nat.le_refl _) kn]
  simp only [go_sem, builtinA, reduceEqDiff, Nat.reduceBEq, reduceAdd, reduceIte, reduceCtorEq, reduceLeDiff]
  rw [slr_hi h0 (Nat.le_refl _) kn]
  simp only [go_sem, builtinA, reduceEqDiff, Nat.reduceBEq, reduceAdd, reduceIte, reduceCtorEq, reduceLeDiff]
  rw [copy22 (l := List.replicate k x ++ List.replicate (n - k) 0) (m := List.replicate k x) rfl (by
   simp only [heldA, List.getElem?_cons_zero]
   rw [if_pos (by simp)]
   simp [ints]) (by simp; omega) (by simp; omega)]
  have e3 : min (List.replicate k x).length (n - k) = min k (n - k) := by simp
  have e4 : (List.replicate k x ++ List.replicate (n - k) (0 : Int)).take k ++ (List.replicate k x).take (min k (n - k)) ++ (List.replicate k x ++ List.replicate (n - k) 0).drop (k + min k (n - k)) = List.replicate (k + min k (n - k)) x ++ List.replicate (n - (k + min k (n - k))) 0 := by
   rw [List.take_append_of_le_length (by simp), List.take_of_length_le (by simp), List.take_replicate, List.drop_append, List.drop_of_length_le (by simp)]
   simp only [List.length_replicate, List.nil_append, List.drop_replicate]
   rw [List.replicate_append_replicate]
   congr 2 <;> omega
  have e5 : IntKind.i64.wrap ((k : Int) + ((min k (n - k) : Nat) : Int)) = ((k + min k (n - k) : Nat) : Int) := by
   rw [wrap64 (by omega)]; omega
  rw [e3, e4]
  simp only [go_sem, e5, reduceEqDiff, Nat.reduceBEq, reduceAdd, reduceIte, reduceCtorEq, reduceLeDiff]
  exact again_here (n - (k + min k (n - k))) (by omega) ⟨k + min k (n - k), by omega, by omega, rfl, rfl, rfl⟩
 ·have hk' : ¬ (k : Int) < n := by omega
  have : k = n := by omega
  subst this
  simp only [go_sem, l154_0, builtinA, hk', decide_false, Tryz.f154, reduceEqDiff, Nat.reduceBEq, reduceAdd, reduceIte, reduceCtorEq, reduceLeDiff]
  exact ⟨0, rfl, by simp⟩
end Go.Av.Fx
end
section
namespace Go.Av.Fx
open Go Go.Av Go.Av.Tb Go.Proofs
theorem index_pc (l : List Int) (hl : okL l.length) (v : Int) : PC Tryz.prog 119 [sl l, .int .i64 v] (.pure (.int .i64 (idx (fun x => decide (v = x)) l))) := by
 refine PC.of_empty (AC.run (E_ok _) mix Tryz.func119 m119 rfl rfl rfl (Nat.le_of_ble_eq_true rfl) ?_) (by simp [bndL, AV.bnd]) rfl
 simp only [go_sem, builtinA, reduceEqDiff, Nat.reduceBEq, reduceAdd, reduceIte, reduceCtorEq, reduceLeDiff]
 refine wc_forP l.length (fun k => ∀ i (hi : i < k) (hil : i < l.length), decide (v = l[i]) = false) (fun k => [(0, sl l), (1, .int .i64 v), (7, .int .i64 l.length), (8, .int .i64 k)]) (fun _ => St.empty) (fun i hi => absurd hi (Nat.not_lt_zero _)) rfl rfl ?_
 intro k hk hP I hI
 by_cases h : k < l.length
 ·have h' : (k : Int) < l.length := by omega
  have h2 : 0 ≤ (k : Int) ∧ (k : Int) < l.length := by omega
  have h3 : l[k]? = some l[k] := List.getElem?_eq_getElem h
  have h4 : IntKind.i64.wrap ((k : Int) + 1) = (k + 1 : Nat) := wrap64 (by omega)
  simp only [go_sem, l119_0, h', decide_true, reduceEqDiff, Nat.reduceBEq, reduceAdd, reduceIte, reduceCtorEq, reduceLeDiff]
  by_cases hb : v = l[k]
  ·simp only [go_sem, h2, nat_idx, Nat.mul_one, and_self, ints_get, h3, Tryz.f119, reduceEqDiff, Nat.reduceBEq, reduceAdd, reduceIte, reduceCtorEq, reduceLeDiff]
   refine sb_dec (fun _ => ?_) (fun hn => absurd hb hn)
   simp only [go_sem, Tryz.f119, reduceEqDiff, Nat.reduceBEq, reduceAdd, reduceIte, reduceCtorEq, reduceLeDiff]
   rw [idx_at h (by simpa using hb) (fun i hi => hP i hi (by omega))]
  ·simp only [go_sem, h2, nat_idx, Nat.mul_one, and_self, ints_get, h3, reduceEqDiff, Nat.reduceBEq, reduceAdd, reduceIte, reduceCtorEq, reduceLeDiff]
   refine sb_dec (fun hn => absurd hn hb) (fun _ => ?_)
   simp only [go_sem, h4, reduceEqDiff, Nat.reduceBEq, reduceAdd, reduceIte, reduceCtorEq, reduceLeDiff]
   refine hI h fun i hi hil => ?_
   by_cases e : i = k
   ·subst e; simpa using hb
   ·exact hP i (by omega) hil
 ·have h' : ¬ (k : Int) < l.length := by omega
  simp only [go_sem, l119_0, h', decide_false, Tryz.f119, reduceEqDiff, Nat.reduceBEq, reduceAdd, reduceIte, reduceCtorEq, reduceLeDiff]
  rw [idx_none fun i hi => hP i (by omega) hi]
theorem any_eq (l : List Int) (v : Int) : l.any (fun x => decide (v = x)) = l.contains v := by
 induction l with
 | nil => rfl
 | cons x l ih => rw [List.any_cons, List.contains_cons, ih]; rfl
theorem contains_pc (l : List Int) (hl : okL l.length) (v : Int) : PC Tryz.prog 76 [sl l, .int .i64 v] (.pure (.bool (l.contains v))) := by
 refine PC.of_empty (AC.run (E_ok _) mix Tryz.func76 m76 rfl rfl rfl (Nat.le_of_ble_eq_true rfl) ?_) (by simp [bndL, AV.bnd]) rfl
 simp only [go_sem, reduceEqDiff, Nat.reduceBEq, reduceAdd, reduceIte, reduceCtorEq, reduceLeDiff]
 refine cp n119 (index_pc l hl v) (SubL.refl _) ?_
 simp only [go_sem, Tryz.f76, idx_nonneg, any_eq, reduceEqDiff, Nat.reduceBEq, reduceAdd, reduceIte, reduceCtorEq, reduceLeDiff]
end Go.Av.Fx
end
section
namespace Go.Av.Fx
open Go Go.Av Go.Av.Tb Go.Proofs
def bndTS (n k : Nat) : TS → Bool
 | [] => true
 | (_, v) :: l => v.bnd n k && bndTS n k l
theorem bndTS_get {n k : Nat} : ∀ {ts : TS} {d : Nat} {v : AV}, bndTS n k ts = true → ts.get d = some v → v.bnd n k = true
 | [], d, v, _, h => by simp [TS.get] at h
 | (a, u) :: ts, d, v, hb, h => by
  simp only [bndTS, Bool.and_eq_true] at hb
  simp only [TS.get] at h
  split at h
  ·simp only [Option.some.injEq] at h; subst h; exact hb.1
  ·exact bndTS_get hb.2 h
structure Neat (base bt : Nat) (ts : TS) (S : St) : Prop where
 base : base ≤ S.heap.length
 bt : bt ≤ S.nt
 ts : bndTS S.heap.length S.nt ts = true
 heap : ∀ (i : Nat) (B : Blk), S.heap[i]? = some (some B) → B.bnd S.heap.length S.nt = true
 toks : ∀ t ∈ S.toks, t < S.nt
theorem wc_forG {E : Env} {c : MC} {Q : AQ} {ts : TS} {S : St} (N : Nat) (f : Nat → TS) (g : Nat → St) (h0 : f 0 = ts) (h1 : g 0 = S) (hb : ∀ k, k ≤ N → Neat E.base E.bt (f k) (g k))
  (h : ∀ k, k ≤ N → ∀ I : TS → St → Prop, (k < N → ∀ extra, I (f (k + 1)) ⟨(g (k + 1)).heap ++ extra, (g (k + 1)).nt, (g (k + 1)).toks⟩) → WC E c (thenQ I Q) (f k) (g k)) : WC E (.loop c) Q ts S := by
 refine wc_loop (fun n ts' S' => ∃ k, k ≤ N ∧ n = N - k ∧ ts' = f k ∧ S' = g k) N ⟨0, Nat.zero_le _, rfl, h0.symm, h1.symm⟩ ?_
 rintro n ts' S' ⟨k, hk, rfl, rfl, rfl⟩
 refine h k hk _ fun hlt extra => ⟨N - (k + 1), by omega, .inr ⟨f (k + 1), g (k + 1), (hb _ hlt).base, (hb _ hlt).bt, ?_, ?_, k + 1, hlt, rfl, rfl, rfl⟩⟩
 ·refine ⟨by simp, fun i B hB => ⟨?_, (hb _ hlt).heap i B hB⟩, Nat.le_refl _, fun t ht => ⟨ht, (hb _ hlt).toks t ht⟩⟩
  have hi : i < (g (k + 1)).heap.length := by
   rcases Nat.lt_or_ge i (g (k + 1)).heap.length with h' | h'
   ·exact h'
   ·rw [List.getElem?_eq_none h'] at hB; cases hB
  show ((g (k + 1)).heap ++ extra)[i]? = _
  rw [List.getElem?_append_left hi]; exact hB
 ·intro d v hv
  exact ⟨v, hv, Sub.refl v, bndTS_get (hb _ hlt).ts hv⟩
end Go.Av.Fx
end
section
namespace Go.Av.Fx
open Go Go.Av Go.Av.Tb Go.Proofs
theorem app_gen {T : Tab} {S : St} {t e : TypeId} {ei : TI} {l lx : List AV} {n nx : Nat} {tl : Tail} {x : AV} (h1 : descOf T t = some (.slice e)) (h2 : T e = some ei) (h3 : ei.size ≠ 0) (h4 : heldA S ei.size x = some (lx, nx)) (h5 : nx ≠ 0) (h6 : lx.all AV.one = true)
  (h7 : (n + nx) * ei.bytes ≤ 1099511627776) (h8 : n + nx ≤ 1099511627776) (h9 : l.length = n * ei.size) :
  appendA T S t (.slice l n tl) x = (match tl with
   | .exact => some (.tok none (fun j => .slice (l ++ lx) (n + nx) (.tok j)))
   | .tok k => some (.tok (some k) (fun j => .slice (l ++ lx) (n + nx) (.tok j)))
   | .unk => none) := by
 unfold appendA
 simp only [h1, h2, h4, if_neg h3, if_neg h5, h6, Bool.not_true, Bool.false_eq_true, if_false]
 rw [if_pos ⟨h7, h8, h9⟩]
 cases tl <;> rfl
structure Bound where
 a : Int
 b : Int
 most : Int
 deriving DecidableEq
abbrev bndC (c : Bound) : List AV := [.int .i64 c.a, .int .i64 c.b, .int .i64 c.most]
def bnds (l : List Bound) : List AV := l.flatMap bndC
@[simp] theorem bnds_len (l : List Bound) : (bnds l).length = 3 * l.length := by
 induction l with
 | nil => rfl
 | cons c l ih => simp only [bnds, List.flatMap_cons, List.length_append] at ih ⊢; rw [ih]; simp [bndC]; omega
@[simp] theorem bnds_bnd (n k : Nat) (l : List Bound) : bndL n k (bnds l) = true := bndL_flatMap _ (fun _ => rfl) l
theorem bnds_app (l l' : List Bound) : bnds l ++ bnds l' = bnds (l ++ l') := by simp [bnds]
theorem bnds_one (l : List Bound) : (bnds l).all AV.one = true := by
 induction l with
 | nil => rfl
 | cons c l ih => simp only [bnds, List.flatMap_cons, List.all_append] at ih ⊢; rw [ih]; rfl
theorem bnds_at : ∀ (l : List Bound) (k : Nat) (h : k < l.length), ((bnds l).drop (k * 3)).take 3 = bndC l[k]
 | c :: l, 0, h => by simp [bnds, bndC]
 | c :: l, k + 1, h => by
  have := bnds_at l k (by simpa using h)
  rw [show (k + 1) * 3 = 3 + k * 3 by omega, ← List.drop_drop]
  simpa [bnds, bndC] using this
@[go_sem] theorem bld191 (a b c : Int) : buildA T 191 [(0, .int .i64 a), (1, .int .i64 b), (2, .int .i64 c)] = some (.agg [.int .i64 a, .int .i64 b, .int .i64 c]) := rfl
@[go_sem] theorem bs154_1 (a b c : Int) : buildSliceA T 154 1 [(0, .agg [.int .i64 a, .int .i64 b, .int .i64 c])] = some (.slice [.int .i64 a, .int .i64 b, .int .i64 c] 1 .exact) := rfl
@[go_sem] theorem bs154_2 (a b c d e f : Int) : buildSliceA T 154 2 [(0, .agg [.int .i64 a, .int .i64 b, .int .i64 c]), (1, .agg [.int .i64 d, .int .i64 e, .int .i64 f])] = some (.slice [.int .i64 a, .int .i64 b, .int .i64 c, .int .i64 d, .int .i64 e, .int .i64 f] 2 .exact) := rfl
@[go_sem] theorem bs22_1 (a : Int) : buildSliceA T 22 1 [(0, .int .i64 a)] = some (.slice [.int .i64 a] 1 .exact) := rfl
@[go_sem] theorem bs22_2 (a b : Int) : buildSliceA T 22 2 [(0, .int .i64 a), (1, .int .i64 b)] = some (.slice [.int .i64 a, .int .i64 b] 2 .exact) := rfl
def tailN : Nat → Tail
 | 0 => .exact
 | k + 1 => .tok k
def toksN : Nat → List Nat
 | 0 => []
 | k + 1 => [k]
theorem sr_app154 {K : AV → St → Prop} {hK : Hold K} {h : List (Option Blk)} {k n nx : Nat} {l lx : List AV} (h7 : n + nx ≤ 1000000) (h9 : l.length = n * 3) (hx : lx.length = nx * 3) (h5 : nx ≠ 0) (h6 : lx.all AV.one = true)
  (next : K (.slice (l ++ lx) (n + nx) (tailN (k + 1))) ⟨h, k + 1, toksN (k + 1)⟩) : sr K hK (appendA T ⟨h, k, toksN k⟩ 154 (.slice l n (tailN k)) (.slice lx nx .exact)) ⟨h, k, toksN k⟩ := by
 rw [app_gen (e := 191) (ei := ti191) (lx := lx) (nx := nx) rfl rfl (by decide) (by simp [heldA, hx, ti191]) h5 h6 (by show (n + nx) * 24 ≤ _; omega) (by omega) (by simpa [ti191] using h9)]
 cases k with
 | zero => rw [tailN, sr_tok]; exact next
 | succ k =>
  rw [tailN, sr_tok_some]
  refine ⟨List.mem_cons_self, ?_⟩
  have : killTok (toksN (k + 1)) (some k) = [] := by simp [killTok, toksN]
  show K (.slice (l ++ lx) (n + nx) (.tok (k + 1))) ⟨h, k + 1 + 1, (k + 1) :: killTok (toksN (k + 1)) (some k)⟩
  rw [this]; exact next
def w64 (n : Int) : Int := IntKind.i64.wrap n
def sumW (l : List Int) : Int := l.foldl (fun a b => IntKind.i64.wrap (a + b)) 0
def bLow (l : LLine) (set : List Int) (i : Nat) (n : Int) : Int := if set.contains (i : Int) = true then sumW [n, l.least] else n
def bHigh (l : LLine) (set : List Int) (i : Nat) (n : Int) : Int := if set.contains (i : Int) = true then sumW [n, l.most] else n
def gBounds (l : LLine) (set : List Int) (b : Int) (i : Nat) (n : Int) : List Bound :=
 [⟨w64 (b + i), w64 (w64 (b + i) + 1), w64 (0 - bLow l set i n)⟩, ⟨w64 (w64 (b + i) + 1), w64 (b + i), bHigh l set i n⟩]
def gPart (l : LLine) (set : List Int) (b : Int) (k : Nat) : List Bound := (List.range k).flatMap fun i => gBounds l set b i (l.gives.getD i 0)
def pPart (b dry : Int) (k : Nat) : List Bound := (List.range k).map fun (p : Nat) => ⟨w64 (b + p), dry, 0⟩
def cBounds (b dry : Int) (c : Cnt) : List Bound := [⟨dry, w64 (b + c.point), c.high⟩, ⟨w64 (b + c.point), dry, w64 (0 - c.low)⟩]
def cPart (b dry : Int) (l : List Cnt) : List Bound := l.flatMap (cBounds b dry)
def boundsL (l : LLine) (set : List Int) (b dry : Int) : List Bound := ⟨dry, b, 400⟩ :: (gPart l set b l.gives.length ++ pPart b dry (l.gives.length + 1) ++ cPart b dry l.counts)
theorem bounds_pc (l : LLine) (ok : l.gives.length ≤ 1000 ∧ l.counts.length ≤ 1000) (set : List Int) (hs : okL set.length) (b dry : Int) :
  PC Tryz.prog 129 [lineA l, sl set, .int .i64 b, .int .i64 dry] (.tok none fun j => .slice (bnds (boundsL l set b dry)) (boundsL l set b dry).length (.tok j)) := by
 refine PC.of_tok (AC.run (E_ok _) mix Tryz.func129 m129 rfl rfl rfl (Nat.le_of_ble_eq_true rfl) ?_) (by simp [bndL, AV.bnd]) (by simp)
 simp only [go_sem, boxA, AV.cells, builtinA, reduceEqDiff, Nat.reduceBEq, reduceAdd, reduceIte, reduceCtorEq, reduceLeDiff]
 refine wc_for l.gives.length (fun k => [(1, sl set), (2, .int .i64 b), (3, .int .i64 dry), (4, .ref 0 0), (9, .slice (bnds (⟨dry, b, 400⟩ :: gPart l set b k)) (1 + 2 * k) (tailN k)), (22, sl l.gives), (23, .int .i64 l.gives.length), (24, .int .i64 k)]) (fun k => ⟨[some (.cells (lineC l))], k, toksN k⟩) rfl rfl ?_
 intro k hk I hI
 by_cases h : k < l.gives.length
 ·have h' : (k : Int) < l.gives.length := by omega
  have h2 : 0 ≤ (k : Int) ∧ (k : Int) < l.gives.length := by omega
  have h3 : l.gives[k]? = some l.gives[k] := List.getElem?_eq_getElem h
  have h4 : IntKind.i64.wrap ((k : Int) + 1) = (k + 1 : Nat) := wrap64 (by omega)
  have hlen : (gPart l set b k).length = 2 * k := by
   unfold gPart
   clear hI h h' h2 h3 h4 hk
   induction k with
   | zero => rfl
   | succ k ih => rw [List.range_succ, List.flatMap_append, List.length_append, ih]; simp [gBounds]; omega
  have hnext : ∀ lo hi : Int, lo = bLow l set k l.gives[k] → hi = bHigh l set k l.gives[k] →
    bnds (⟨dry, b, 400⟩ :: gPart l set b k) ++ [.int .i64 (IntKind.i64.wrap (b + k)), .int .i64 (IntKind.i64.wrap (IntKind.i64.wrap (b + k) + 1)), .int .i64 (IntKind.i64.wrap (0 - lo)), .int .i64 (IntKind.i64.wrap (IntKind.i64.wrap (b + k) + 1)), .int .i64 (IntKind.i64.wrap (b + k)), .int .i64 hi] = bnds (⟨dry, b, 400⟩ :: gPart l set b (k + 1)) := by
   intro lo hi e1 e2
   have : gPart l set b (k + 1) = gPart l set b k ++ gBounds l set b k l.gives[k] := by
    unfold gPart
    rw [List.range_succ, List.flatMap_append]
    simp [List.getD_eq_getElem?_getD, h3]
   rw [this, ← List.cons_append, ← bnds_app, e1, e2]
   rfl
  simp only [go_sem, l129_0, h', decide_true, reduceEqDiff, Nat.reduceBEq, reduceAdd, reduceIte, reduceCtorEq, reduceLeDiff]
  simp only [go_sem, h2, nat_idx, Nat.mul_one, and_self, ints_get, h3, reduceEqDiff, Nat.reduceBEq, reduceAdd, reduceIte, reduceCtorEq, reduceLeDiff]
  refine cp n76 (contains_pc set hs k) (SubL.refl _) ?_
  simp only [go_sem, reduceEqDiff, Nat.reduceBEq, reduceAdd, reduceIte, reduceCtorEq, reduceLeDiff]
  refine sb_bool (fun hb => ?_) (fun hb => ?_)
  ·simp only [go_sem, reduceEqDiff, Nat.reduceBEq, reduceAdd, reduceIte, reduceCtorEq, reduceLeDiff]
   refine qp n130 (sum_pc [l.gives[k], l.least] (by show 2 < 9223372036854775807; decide)) (SubL.cons (Sub.unk _ 2 .exact) (SubL.refl [])) ?_
   simp only [go_sem, reduceEqDiff, Nat.reduceBEq, reduceAdd, reduceIte, reduceCtorEq, reduceLeDiff]
   refine cp n130 (sum_pc [l.gives[k], l.most] (by show 2 < 9223372036854775807; decide)) (SubL.cons (Sub.unk _ 2 .exact) (SubL.refl [])) ?_
   simp only [go_sem, builtinA, unA, reduceEqDiff, Nat.reduceBEq, reduceAdd, reduceIte, reduceCtorEq, reduceLeDiff]
   refine sr_app154 (n := 1 + 2 * k) (nx := 2) (by omega) (by simp [hlen]; omega) rfl (by decide) rfl ?_
   rw [hnext (List.foldl (fun a b => IntKind.i64.wrap (a + b)) 0 [l.gives[k], l.least]) (List.foldl (fun a b => IntKind.i64.wrap (a + b)) 0 [l.gives[k], l.most]) (by unfold bLow sumW; rw [if_pos hb]) (by unfold bHigh sumW; rw [if_pos hb])]
   simp only [go_sem, h4, reduceEqDiff, Nat.reduceBEq, reduceAdd, reduceIte, reduceCtorEq, reduceLeDiff]
   exact hI h
  ·simp only [go_sem, builtinA, unA, reduceEqDiff, Nat.reduceBEq, reduceAdd, reduceIte, reduceCtorEq, reduceLeDiff]
   refine sr_app154 (n := 1 + 2 * k) (nx := 2) (by omega) (by simp [hlen]; omega) rfl (by decide) rfl ?_
   rw [hnext l.gives[k] l.gives[k] (by unfold bLow; rw [if_neg (by rw [hb]; decide)]) (by unfold bHigh; rw [if_neg (by rw [hb]; decide)])]
   simp only [go_sem, h4, reduceEqDiff, Nat.reduceBEq, reduceAdd, reduceIte, reduceCtorEq, reduceLeDiff]
   exact hI h
 ·have h' : ¬ (k : Int) < l.gives.length := by omega
  have hk' : k = l.gives.length := by omega
  subst hk'
  have h4 : IntKind.i64.wrap ((l.gives.length : Int) + 1) = (l.gives.length + 1 : Nat) := wrap64 (by omega)
  simp only [go_sem, l129_0, h', decide_false, builtinA, h4, reduceEqDiff, Nat.reduceBEq, reduceAdd, reduceIte, reduceCtorEq, reduceLeDiff]
  have glen : (gPart l set b l.gives.length).length = 2 * l.gives.length := by
   unfold gPart
   generalize l.gives.length = m
   induction m with
   | zero => rfl
   | succ k ih => rw [List.range_succ, List.flatMap_append, List.length_append, ih]; simp [gBounds]; omega
  clear hI hk h h'
  refine wc_for (l.gives.length + 1) (fun k => [(2, .int .i64 b), (3, .int .i64 dry), (4, .ref 0 0), (9, .slice (bnds (⟨dry, b, 400⟩ :: (gPart l set b l.gives.length ++ pPart b dry k))) (1 + 2 * l.gives.length + k) (tailN (l.gives.length + k))), (70, .int .i64 (l.gives.length + 1 : Nat)), (71, .int .i64 k)]) (fun k => ⟨[some (.cells (lineC l))], l.gives.length + k, toksN (l.gives.length + k)⟩) (by simp [pPart]) rfl ?_
  intro k hk I hI
  by_cases h : k < l.gives.length + 1
  ·have h' : (k : Int) < (l.gives.length + 1 : Nat) := by omega
   have h5 : IntKind.i64.wrap ((k : Int) + 1) = (k + 1 : Nat) := wrap64 (by omega)
   have plen : (pPart b dry k).length = k := by simp [pPart]
   have hnext : bnds (⟨dry, b, 400⟩ :: (gPart l set b l.gives.length ++ pPart b dry k)) ++ [.int .i64 (IntKind.i64.wrap (b + k)), .int .i64 dry, .int .i64 0] = bnds (⟨dry, b, 400⟩ :: (gPart l set b l.gives.length ++ pPart b dry (k + 1))) := by
    have : pPart b dry (k + 1) = pPart b dry k ++ [⟨w64 (b + k), dry, 0⟩] := by
     unfold pPart; rw [List.range_succ, List.map_append]; rfl
    rw [this]
    simp [bnds, w64]
   simp only [go_sem, l129_1, h', decide_true, builtinA, reduceEqDiff, Nat.reduceBEq, reduceAdd, reduceIte, reduceCtorEq, reduceLeDiff]
   refine sr_app154 (n := 1 + 2 * l.gives.length + k) (nx := 1) (by omega) (by simp [glen, plen]; omega) rfl (by decide) rfl ?_
   rw [hnext]
   simp only [go_sem, h5, reduceEqDiff, Nat.reduceBEq, reduceAdd, reduceIte, reduceCtorEq, reduceLeDiff]
   exact hI h
  ·have h' : ¬ (k : Int) < (l.gives.length + 1 : Nat) := by omega
   have hk' : k = l.gives.length + 1 := by omega
   subst hk'
   simp only [go_sem, l129_1, h', decide_false, builtinA, reduceEqDiff, Nat.reduceBEq, reduceAdd, reduceIte, reduceCtorEq, reduceLeDiff]
   clear hI hk h h'
   have plen : (pPart b dry (l.gives.length + 1)).length = l.gives.length + 1 := by simp [pPart]
   have clen : ∀ k, (cPart b dry (l.counts.take k)).length = 2 * min k l.counts.length := by
    intro k
    have : ∀ m : List Cnt, (cPart b dry m).length = 2 * m.length := by
     intro m
     induction m with
     | nil => rfl
     | cons c m ih => simp only [cPart, List.flatMap_cons, List.length_append] at ih ⊢; rw [ih]; simp [cBounds]; omega
    rw [this]; simp
   refine wc_forG l.counts.length (fun k => [(2, .int .i64 b), (3, .int .i64 dry), (9, .slice (bnds (⟨dry, b, 400⟩ :: (gPart l set b l.gives.length ++ pPart b dry (l.gives.length + 1) ++ cPart b dry (l.counts.take k)))) (1 + 2 * l.gives.length + (l.gives.length + 1) + 2 * k) (tailN (l.gives.length + (l.gives.length + 1) + k))), (84, .slice (cnts l.counts) l.counts.length .unk), (85, .int .i64 l.counts.length), (86, .int .i64 k)]) (fun k => ⟨[some (.cells (lineC l))], l.gives.length + (l.gives.length + 1) + k, toksN (l.gives.length + (l.gives.length + 1) + k)⟩) (by simp [cPart]) rfl (fun k hk => ?_) ?_
   ·refine ⟨Nat.zero_le _, Nat.zero_le _, ?_, ?_, ?_⟩
    ·rw [show l.gives.length + (l.gives.length + 1) + k = (l.gives.length + l.gives.length + k) + 1 by omega]
     simp [bndTS, AV.bnd, tailN]
    ·intro i B hB
     cases i with
     | zero => simp at hB; subst hB; simp [Blk.bnd, bndL, AV.bnd]
     | succ i => simp at hB
    ·intro t ht
     rw [show l.gives.length + (l.gives.length + 1) + k = (l.gives.length + l.gives.length + k) + 1 by omega] at ht ⊢
     simp [toksN] at ht; simp; omega
   intro k hk I hI
   by_cases h : k < l.counts.length
   ·have h' : (k : Int) < l.counts.length := by omega
    have h2 : 0 ≤ (k : Int) ∧ (k : Int) < l.counts.length := by omega
    have h3 : k * 3 + 3 ≤ (cnts l.counts).length := by rw [cnts_len]; omega
    have h5 := cnts_at l.counts k h
    have h6 : IntKind.i64.wrap ((k : Int) + 1) = (k + 1 : Nat) := wrap64 (by omega)
    simp only [go_sem, l129_2, h', decide_true, reduceEqDiff, Nat.reduceBEq, reduceAdd, reduceIte, reduceCtorEq, reduceLeDiff]
    simp only [go_sem, h2, nat_idx, and_self, h3, h5, AV.cells, AV.one, List.all_cons, List.all_nil, Bool.and_self, splice, List.set_cons_zero, List.set_cons_succ, builtinA, unA, reduceEqDiff, Nat.reduceBEq, reduceAdd, reduceIte, reduceCtorEq, reduceLeDiff]
    refine sr_app154 (n := 1 + 2 * l.gives.length + (l.gives.length + 1) + 2 * k) (nx := 2) (by omega) (by
     have := clen k
     rw [show min k l.counts.length = k by omega] at this
     simp [glen, plen, this]; omega) rfl (by decide) rfl ?_
    have hnext : bnds (⟨dry, b, 400⟩ :: (gPart l set b l.gives.length ++ (pPart b dry (l.gives.length + 1) ++ cPart b dry (l.counts.take k)))) ++ [.int .i64 dry, .int .i64 (IntKind.i64.wrap (b + l.counts[k].point)), .int .i64 l.counts[k].high, .int .i64 (IntKind.i64.wrap (b + l.counts[k].point)), .int .i64 dry, .int .i64 (IntKind.i64.wrap (0 - l.counts[k].low))] = bnds (⟨dry, b, 400⟩ :: (gPart l set b l.gives.length ++ pPart b dry (l.gives.length + 1) ++ cPart b dry (l.counts.take (k + 1)))) := by
     have : cPart b dry (l.counts.take (k + 1)) = cPart b dry (l.counts.take k) ++ cBounds b dry l.counts[k] := by
      rw [List.take_succ_eq_append_getElem h]; unfold cPart; rw [List.flatMap_append]; simp
     rw [this]
     simp [bnds, w64, cBounds]
    rw [hnext]
    simp only [go_sem, h6, reduceEqDiff, Nat.reduceBEq, reduceAdd, reduceIte, reduceCtorEq, reduceLeDiff]
    have := hI h [some (.cells (cntC l.counts[k]))]
    simp only [List.append_assoc, List.cons_append, List.nil_append] at this
    exact this
   ·have h' : ¬ (k : Int) < l.counts.length := by omega
    simp only [go_sem, l129_2, h', decide_false, Tryz.f129, reduceEqDiff, Nat.reduceBEq, reduceAdd, reduceIte, reduceCtorEq, reduceLeDiff]
    have hk' : k = l.counts.length := by omega
    subst hk'
    have bl : (boundsL l set b dry).length = 1 + 2 * l.gives.length + (l.gives.length + 1) + 2 * l.counts.length := by
     have := clen l.counts.length
     rw [List.take_of_length_le (Nat.le_refl _)] at this
     simp only [boundsL, List.length_cons, List.length_append, glen, plen, this]; omega
    rw [List.take_of_length_le (Nat.le_refl _), show l.gives.length + (l.gives.length + 1) + l.counts.length = (l.gives.length + l.gives.length + l.counts.length) + 1 by omega]
    refine ⟨l.gives.length + l.gives.length + l.counts.length, ?_, by simp [toksN]⟩
    rw [bl]
    simp [boundsL, tailN]
end Go.Av.Fx
end

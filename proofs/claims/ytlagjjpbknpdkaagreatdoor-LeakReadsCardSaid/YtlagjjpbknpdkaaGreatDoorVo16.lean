/- Part 16 of the proof. -/
import Derived.Test.YtlagjjpbknpdkaaGreatDoorVo15
import Derived.Test.YtlagjjpbknpdkaaGreatDoorVo8
set_option linter.all false
set_option linter.unusedVariables false
set_option linter.unusedSimpArgs false
set_option linter.unusedSectionVars false
open Nat (reduceEqDiff reduceAdd reduceLeDiff)
section
namespace Go.Av.Fx
open Go Go.Av Go.Av.Tb Go.Proofs
open Go.Fw (Sq ent Bd)
structure Ln (l : LLine) : Prop where
 pts : 1 ≤ l.gives.length ∧ l.gives.length ≤ 5
 cts : l.counts.length ≤ 8
 least : 1 ≤ l.least ∧ l.least ≤ l.most
 most : l.most ≤ 60
 taps : 0 ≤ l.taps ∧ l.taps ≤ 2
 gives : ∀ g ∈ l.gives, 0 ≤ g ∧ g ≤ 60
 counts : ∀ c ∈ l.counts, (0 ≤ c.point ∧ c.point ≤ l.gives.length) ∧ 0 ≤ c.low ∧ c.low ≤ c.high ∧ c.high ≤ 400
theorem inB_iff {n lo hi : Int} : inB n lo hi = true ↔ lo ≤ n ∧ n ≤ hi := by
 simp [inB]
theorem isLine_iff {l : LLine} : isLineB l = true ↔ Ln l := by
 unfold isLineB
 simp only [Bool.and_eq_true, inB_iff, decide_eq_true_iff, Bool.not_eq_true', List.any_eq_false, badCnt, Bool.or_eq_true, not_or, Bool.not_eq_true, Bool.not_eq_false', decide_eq_true_eq]
 constructor
 ·rintro ⟨⟨⟨⟨⟨⟨h1, h2⟩, h3⟩, h4⟩, h5⟩, h6⟩, h7⟩
  refine ⟨by omega, by omega, h3, h4, h5, fun g hg => ?_, fun c hc => ?_⟩
  ·have := h6 g hg
   simp only [Bool.not_eq_false] at this
   exact inB_iff.1 this
  ·have := h7 c hc
   simp [inB] at this
   omega
 ·rintro ⟨h1, h2, h3, h4, h5, h6, h7⟩
  refine ⟨⟨⟨⟨⟨⟨by omega, by omega⟩, h3⟩, h4⟩, h5⟩, fun g hg => ?_⟩, fun c hc => ?_⟩
  ·simp only [Bool.not_eq_false]
   exact inB_iff.2 (h6 g hg)
  ·have := h7 c hc
   simp [inB]
   omega
theorem Ln.ok {l : LLine} (h : Ln l) : okLine l := by
 have := h.pts; have := h.cts; exact ⟨by show _ < _; omega, by show _ < _; omega⟩
def lowL (l : LLine) (set : List Int) (i : Nat) : Int := if set.contains (i : Int) = true then l.gives.getD i 0 + l.least else l.gives.getD i 0
def highL (l : LLine) (set : List Int) (i : Nat) : Int := if set.contains (i : Int) = true then l.gives.getD i 0 + l.most else l.gives.getD i 0
def lineB (l : LLine) (set : List Int) (b dry : Nat) : List Bd :=
 ⟨dry, b, 400⟩ :: ((List.range l.gives.length).flatMap (fun i => [⟨b + i, b + i + 1, -lowL l set i⟩, ⟨b + i + 1, b + i, highL l set i⟩]) ++
  (List.range (l.gives.length + 1)).map (fun p => ⟨b + p, dry, 0⟩) ++ l.counts.flatMap (fun c => [⟨dry, b + c.point.toNat, c.high⟩, ⟨b + c.point.toNat, dry, -c.low⟩]))
def ofBd (c : Bd) : Bound := ⟨c.a, c.b, c.m⟩
theorem bd_ofBd (c : Bd) : bd (ofBd c) = c := by simp [bd, ofBd]
theorem w64_eq {x : Int} (h : -9223372036854775808 ≤ x ∧ x ≤ 9223372036854775807) : w64 x = x := wrap64 h
theorem Ln.give {l : LLine} (h : Ln l) (i : Nat) : 0 ≤ l.gives.getD i 0 ∧ l.gives.getD i 0 ≤ 60 := by
 rw [List.getD_eq_getElem?_getD]
 cases hx : l.gives[i]? with
 | none => simp
 | some g => exact h.gives g (List.mem_of_getElem? hx)
theorem Ln.low {l : LLine} (h : Ln l) (set : List Int) (i : Nat) : 0 ≤ lowL l set i ∧ lowL l set i ≤ highL l set i ∧ highL l set i ≤ 120 := by
 have := h.give i; have := h.least; have := h.most
 unfold lowL highL; split <;> omega
theorem sumW2 {a b : Int} (ha : -4611686018427387904 ≤ a ∧ a ≤ 4611686018427387903) (hb : -4611686018427387904 ≤ b ∧ b ≤ 4611686018427387903) : sumW [a, b] = a + b := by
 simp only [sumW, List.foldl_cons, List.foldl_nil]
 have e : IntKind.i64.wrap (0 + a) = a := by rw [wrap64 (by omega)]; omega
 rw [e, wrap64 (by omega)]
theorem boundsL_eq {l : LLine} (h : Ln l) (set : List Int) {b dry : Nat} (hb : b ≤ 1000) (hd : dry ≤ 1000) : boundsL l set b dry = (lineB l set b dry).map ofBd := by
 have hp := h.pts
 unfold boundsL lineB
 rw [List.map_cons, List.map_append, List.map_append]
 have e1 : gPart l set b l.gives.length = ((List.range l.gives.length).flatMap fun i => [(⟨b + i, b + i + 1, -lowL l set i⟩ : Bd), ⟨b + i + 1, b + i, highL l set i⟩]).map ofBd := by
  unfold gPart
  rw [List.map_flatMap]
  have : ∀ (m : Nat), m ≤ l.gives.length → (List.range m).flatMap (fun i => gBounds l set b i (l.gives.getD i 0)) = (List.range m).flatMap (fun i => [(⟨b + i, b + i + 1, -lowL l set i⟩ : Bd), ⟨b + i + 1, b + i, highL l set i⟩].map ofBd) := by
   intro m
   induction m with
   | zero => intro _; rfl
   | succ m ih =>
    intro hm
    rw [List.range_succ, List.flatMap_append, List.flatMap_append, ih (by omega)]
    congr 1
    have hg := h.give m
    have hl := h.low set m
    have e1 : w64 ((b : Int) + m) = ((b + m : Nat) : Int) := by rw [w64_eq (by omega)]; omega
    have e2 : w64 (((b + m : Nat) : Int) + 1) = ((b + m + 1 : Nat) : Int) := by rw [w64_eq (by omega)]; omega
    have hle := h.least; have hmo := h.most
    have e3 : bLow l set m (l.gives.getD m 0) = lowL l set m := by
     unfold bLow lowL; split
     ·rw [sumW2 (by omega) (by omega)]
     ·rfl
    have e4 : bHigh l set m (l.gives.getD m 0) = highL l set m := by
     unfold bHigh highL; split
     ·rw [sumW2 (by omega) (by omega)]
     ·rfl
    have e5 : w64 (0 - lowL l set m) = -lowL l set m := by rw [w64_eq (by omega)]; omega
    simp only [List.flatMap_cons, List.flatMap_nil, List.append_nil, gBounds, e2, e1, e3, e4, e5, List.map_cons, List.map_nil, ofBd]
  exact this _ (Nat.le_refl _)
 have e2 : pPart b dry (l.gives.length + 1) = ((List.range (l.gives.length + 1)).map fun p => (⟨b + p, dry, 0⟩ : Bd)).map ofBd := by
  unfold pPart
  rw [List.map_map]
  refine List.map_congr_left fun p hp => ?_
  have := List.mem_range.1 hp
  have e1 : w64 ((b : Int) + p) = ((b + p : Nat) : Int) := by rw [w64_eq (by omega)]; omega
  simp only [Function.comp, ofBd, e1]
 have e3 : cPart b dry l.counts = (l.counts.flatMap fun c => [(⟨dry, b + c.point.toNat, c.high⟩ : Bd), ⟨b + c.point.toNat, dry, -c.low⟩]).map ofBd := by
  unfold cPart
  rw [List.map_flatMap]
  have : ∀ cs : List Cnt, (∀ c ∈ cs, c ∈ l.counts) → cs.flatMap (cBounds b dry) = cs.flatMap fun c => [(⟨dry, b + c.point.toNat, c.high⟩ : Bd), ⟨b + c.point.toNat, dry, -c.low⟩].map ofBd := by
   intro cs
   induction cs with
   | nil => intro _; rfl
   | cons c cs ih =>
    intro hc
    have := h.counts c (hc c List.mem_cons_self)
    have e1 : w64 ((b : Int) + c.point) = ((b + c.point.toNat : Nat) : Int) := by rw [w64_eq (by omega)]; omega
    have e5 : w64 (0 - c.low) = -c.low := by rw [w64_eq (by omega)]; omega
    rw [List.flatMap_cons, List.flatMap_cons, ih fun d hd => hc d (List.mem_cons_of_mem _ hd)]
    simp only [cBounds, e1, e5, List.map_cons, List.map_nil, ofBd]
  exact this _ fun _ h => h
 rw [e1, e2, e3]; rfl
theorem lineB_ok {l : LLine} (h : Ln l) (set : List Int) {b dry n : Nat} (hb : b + l.gives.length < n) (hd : dry < n) (hne : dry < b ∨ b + l.gives.length < dry) : ∀ c ∈ lineB l set b dry, c.Ok 400 400 n := by
 intro c hc
 unfold lineB at hc
 simp only [List.mem_cons, List.mem_append, List.mem_flatMap, List.mem_map, List.mem_range, List.not_mem_nil, or_false] at hc
 rcases hc with rfl | (⟨i, hi, rfl | rfl⟩ | ⟨p, hp, rfl⟩) | ⟨x, hx, rfl | rfl⟩
 ·exact ⟨hd, by show b < n; omega, by show dry ≠ b; omega, by show (-400 : Int) ≤ 400; decide, by show (400 : Int) ≤ 400; decide⟩
 ·have := h.low set i
  exact ⟨by show b + i < n; omega, by show b + i + 1 < n; omega, by show b + i ≠ b + i + 1; omega, by show -400 ≤ -lowL l set i; omega, by show -lowL l set i ≤ 400; omega⟩
 ·have := h.low set i
  exact ⟨by show b + i + 1 < n; omega, by show b + i < n; omega, by show b + i + 1 ≠ b + i; omega, by show -400 ≤ highL l set i; omega, by show highL l set i ≤ 400; omega⟩
 ·exact ⟨by show b + p < n; omega, hd, by show b + p ≠ dry; omega, by show (-400 : Int) ≤ 0; decide, by show (0 : Int) ≤ 400; decide⟩
 ·have := h.counts x hx
  exact ⟨hd, by show b + x.point.toNat < n; omega, by show dry ≠ b + x.point.toNat; omega, by show -400 ≤ x.high; omega, by show x.high ≤ 400; omega⟩
 ·have := h.counts x hx
  exact ⟨by show b + x.point.toNat < n; omega, hd, by show b + x.point.toNat ≠ dry; omega, by show -400 ≤ -x.low; omega, by show -x.low ≤ 400; omega⟩
theorem lineB_len {l : LLine} (h : Ln l) (set : List Int) (b dry : Nat) : (lineB l set b dry).length ≤ 100 := by
 have := h.pts; have := h.cts
 have e1 : ∀ m, ((List.range m).flatMap fun i => [(⟨b + i, b + i + 1, -lowL l set i⟩ : Bd), ⟨b + i + 1, b + i, highL l set i⟩]).length = 2 * m := by
  intro m
  induction m with
  | zero => rfl
  | succ m ih => rw [List.range_succ, List.flatMap_append, List.length_append, ih]; simp; omega
 have e2 : ∀ cs : List Cnt, (cs.flatMap fun c => [(⟨dry, b + c.point.toNat, c.high⟩ : Bd), ⟨b + c.point.toNat, dry, -c.low⟩]).length = 2 * cs.length := by
  intro cs
  induction cs with
  | nil => rfl
  | cons c cs ih => rw [List.flatMap_cons, List.length_append, ih]; simp; omega
 unfold lineB
 simp only [List.length_cons, List.length_append, e1, e2, List.length_map, List.length_range]
 omega
theorem of_in {cs : List Bd} {n : Nat} {U B : Int} (h : ∀ c ∈ cs, c.Ok U B n) : ∀ x ∈ cs.map ofBd, 0 ≤ x.a ∧ x.a < n ∧ 0 ≤ x.b ∧ x.b < n := by
 intro x hx
 obtain ⟨c, hc, rfl⟩ := List.mem_map.1 hx
 have h1 := (h c hc).a; have h2 := (h c hc).b
 show 0 ≤ (c.a : Int) ∧ (c.a : Int) < n ∧ 0 ≤ (c.b : Int) ∧ (c.b : Int) < n
 omega
theorem of_low {cs : List Bd} {n : Nat} (h : ∀ c ∈ cs, c.Ok 400 400 n) : ∀ x ∈ cs.map ofBd, -1000000 ≤ x.most := by
 intro x hx
 obtain ⟨c, hc, rfl⟩ := List.mem_map.1 hx
 have h1 := (h c hc).low
 show -1000000 ≤ c.m
 omega
def closeC (n : Nat) (cs : List Bd) : Option Fw.Mat := Fw.closed far n (cs.foldl Fw.addc (Fw.base far n))
theorem closeM_of (n : Nat) (cs : List Bd) : closeM n (cs.map ofBd) = closeC n cs := by
 unfold closeM bsM closeC
 rw [List.map_map]
 have : cs.map (bd ∘ ofBd) = cs := by
  have : cs.map (bd ∘ ofBd) = cs.map id := List.map_congr_left fun c _ => bd_ofBd c
  rw [this, List.map_id]
 rw [this]
def explM (l : LLine) (set : List Int) : Option Fw.Mat := if (set.length : Int) > l.taps then none else closeC (l.gives.length + 2) (lineB l set 0 (l.gives.length + 1))
theorem explained_pc (l : LLine) (h : Ln l) (set : List Int) (hs : set.length ≤ 1000) : PC Tryz.prog 84 [lineA l, sl set] (.pure (closeA (explM l set))) := by
 have hp := h.pts
 refine PC.of_empty (AC.run (E_ok _) mix Tryz.func84 m84 rfl rfl rfl (Nat.le_of_ble_eq_true rfl) ?_) (by simp [bndL, AV.bnd]) (closeA_bnd _)
 simp only [go_sem, boxA, AV.cells, builtinA, reduceEqDiff, Nat.reduceBEq, reduceAdd, reduceIte, reduceCtorEq, reduceLeDiff]
 refine sb_dec (fun hd => ?_) (fun hd => ?_)
 ·simp only [go_sem, Tryz.f84, reduceEqDiff, Nat.reduceBEq, reduceAdd, reduceIte, reduceCtorEq, reduceLeDiff]
  unfold explM
  rw [if_pos hd]; rfl
 ·have e1 : IntKind.i64.wrap ((l.gives.length : Int) + 1) = (l.gives.length + 1 : Nat) := wrap64 (by omega)
  have e2 : IntKind.i64.wrap (((l.gives.length + 1 : Nat) : Int) + 1) = (l.gives.length + 2 : Nat) := wrap64 (by omega)
  have hm := h.cts
  simp only [go_sem, builtinA, e1, e2, reduceEqDiff, Nat.reduceBEq, reduceAdd, reduceIte, reduceCtorEq, reduceLeDiff]
  refine ct n129 (bounds_pc l ⟨by omega, by omega⟩ set (by show _ < _; omega) 0 (l.gives.length + 1 : Nat)) (SubL.refl _) ?_
  simp only [go_sem, reduceEqDiff, Nat.reduceBEq, reduceAdd, reduceIte, reduceCtorEq, reduceLeDiff]
  have hB := boundsL_eq h set (b := 0) (dry := l.gives.length + 1) (by omega) (by omega)
  have hok := lineB_ok h set (b := 0) (dry := l.gives.length + 1) (n := l.gives.length + 2) (by omega) (by omega) (.inr (by omega))
  have hlen := lineB_len h set 0 (l.gives.length + 1)
  rw [show ((0 : Nat) : Int) = 0 from rfl] at hB
  rw [hB]
  refine cp n128 (close_pc (l.gives.length + 2) (by omega) (by omega) _ (by simp; omega) (of_in hok) (of_low hok)) (SubL.cons (Sub.refl _) (SubL.cons (Sub.unk _ _ _) (SubL.refl []))) ?_
  rw [closeM_of]
  have he : explM l set = closeC (l.gives.length + 2) (lineB l set 0 (l.gives.length + 1)) := by unfold explM; rw [if_neg hd]
  rw [he]
  cases closeC (l.gives.length + 2) (lineB l set 0 (l.gives.length + 1)) with
  | none => simp only [go_sem, closeA, extractA, Tryz.f84, reduceEqDiff, Nat.reduceBEq, reduceAdd, reduceIte, reduceCtorEq, reduceLeDiff]
  | some W => simp only [go_sem, closeA, extractA, Tryz.f84, reduceEqDiff, Nat.reduceBEq, reduceAdd, reduceIte, reduceCtorEq, reduceLeDiff]
end Go.Av.Fx
end
section
namespace Go.Av.Fx
open Go Go.Av Go.Av.Tb Go.Proofs
open Go.Fw (Sq ent Bd Mat)
@[go_sem] theorem one_int (k : IntKind) (n : Int) : AV.one (.int k n) = true := rfl
@[go_sem] theorem one_bool (b : Bool) : AV.one (.bool b) = true := rfl
@[go_sem] theorem one_str (b : ByteArray) : AV.one (.str b) = true := rfl
@[go_sem] theorem one_slice (l : List AV) (n : Nat) (t : Tail) : AV.one (.slice l n t) = true := rfl
@[go_sem] theorem one_nilS : AV.one .nilS = true := rfl
@[go_sem] theorem one_sref (i o n c : Nat) : AV.one (.sref i o n c) = true := rfl
@[go_sem] theorem one_ref (i o : Nat) : AV.one (.ref i o) = true := rfl
@[go_sem] theorem one_eptr (l : List AV) (o : Nat) : AV.one (.eptr l o) = true := rfl
@[go_sem] theorem one_func (f : Fn) (a b : List AV) : AV.one (.func f a b) = true := rfl
@[go_sem] theorem one_nilFunc : AV.one .nilFunc = true := rfl
@[go_sem] theorem one_iface (t : TypeId) (v : AV) : AV.one (.iface t v) = true := rfl
@[go_sem] theorem one_map (i : Nat) : AV.one (.map i) = true := rfl
@[go_sem] theorem cl_agg (l : List AV) : AV.cells (.agg l) = l := rfl
@[go_sem] theorem cl_int (k : IntKind) (n : Int) : AV.cells (.int k n) = [.int k n] := rfl
@[go_sem] theorem cl_bool (b : Bool) : AV.cells (.bool b) = [.bool b] := rfl
@[go_sem] theorem cl_str (b : ByteArray) : AV.cells (.str b) = [.str b] := rfl
@[go_sem] theorem cl_slice (l : List AV) (n : Nat) (t : Tail) : AV.cells (.slice l n t) = [.slice l n t] := rfl
@[go_sem] theorem cl_nilS : AV.cells .nilS = [.nilS] := rfl
@[go_sem] theorem cl_sref (i o n c : Nat) : AV.cells (.sref i o n c) = [.sref i o n c] := rfl
@[go_sem] theorem cl_ref (i o : Nat) : AV.cells (.ref i o) = [.ref i o] := rfl
@[go_sem] theorem cl_eptr (l : List AV) (o : Nat) : AV.cells (.eptr l o) = [.eptr l o] := rfl
@[go_sem] theorem cl_func (f : Fn) (a b : List AV) : AV.cells (.func f a b) = [.func f a b] := rfl
@[go_sem] theorem cl_nilFunc : AV.cells .nilFunc = [.nilFunc] := rfl
@[go_sem] theorem cl_iface (t : TypeId) (v : AV) : AV.cells (.iface t v) = [.iface t v] := rfl
@[go_sem] theorem cl_map (i : Nat) : AV.cells (.map i) = [.map i] := rfl
theorem cells_one {v : AV} (h : AV.one v = true) : AV.cells v = [v] := by cases v <;> first | rfl | cases h
section
variable (a b c : Int) (l m : List AV) (n k : Nat) (t u : Tail) (x0 x1 x2 x3 x4 : AV)
@[go_sem] theorem bd42_ : buildA T 42 [] = some (.agg [.int .i64 0, .int .i64 0]) := rfl
@[go_sem] theorem bd42_2 : buildA T 42 [(0, .int .i64 a), (1, .int .i64 b)] = some (.agg [.int .i64 a, .int .i64 b]) := rfl
@[go_sem] theorem bd82_3 : buildA T 82 [(0, .int .i64 a), (1, .int .i64 b), (2, .int .i64 c)] = some (.agg [.int .i64 a, .int .i64 b, .int .i64 c]) := rfl
@[go_sem] theorem bd128_2 : buildA T 128 [(0, .int .i64 a), (1, .int .i64 b)] = some (.agg [.int .i64 a, .int .i64 b]) := rfl
@[go_sem] theorem bd113_ss : buildA T 113 [(0, .slice l n t), (1, .slice m k u)] = some (.agg [.slice l n t, .slice m k u]) := rfl
@[go_sem] theorem bd113_ns : buildA T 113 [(0, .nilS), (1, .slice m k u)] = some (.agg [.nilS, .slice m k u]) := rfl
@[go_sem] theorem bd25_ : buildA T 25 [] = some (.agg [.nilS, .int .i64 0, .int .i64 0, .int .i64 0, .nilS]) := rfl
@[go_sem] theorem bd25_3 : buildA T 25 [(1, .int .i64 a), (2, .int .i64 b), (3, .int .i64 c)] = some (.agg [.nilS, .int .i64 a, .int .i64 b, .int .i64 c, .nilS]) := rfl
@[go_sem] theorem bd25_5 : buildA T 25 [(0, .slice l n t), (1, .int .i64 a), (2, .int .i64 b), (3, .int .i64 c), (4, .slice m k u)] = some (.agg [.slice l n t, .int .i64 a, .int .i64 b, .int .i64 c, .slice m k u]) := rfl
@[go_sem] theorem bd108_ : buildA T 108 [] = some (.agg [.nilS, .int .i64 0, .int .i64 0, .int .i64 0, .nilS, .nilS]) := rfl
@[go_sem] theorem bd108_1 : buildA T 108 [(0, .agg [x0, x1, x2, x3, x4])] = some (.agg [x0, x1, x2, x3, x4, .nilS]) := rfl
@[go_sem] theorem bs22_3 : buildSliceA T 22 3 [(0, .int .i64 a), (1, .int .i64 b), (2, .int .i64 c)] = some (.slice [.int .i64 a, .int .i64 b, .int .i64 c] 3 .exact) := rfl
@[go_sem] theorem bs22_0 : buildSliceA T 22 0 [] = some (.slice [] 0 .exact) := rfl
@[go_sem] theorem bs106_1 : buildSliceA T 106 1 [(0, .agg [x0, x1])] = some (.slice [x0, x1] 1 .exact) := rfl
@[go_sem] theorem bs126_1 : buildSliceA T 126 1 [(0, .agg [.int .i64 a, .int .i64 b])] = some (.slice [.int .i64 a, .int .i64 b] 1 .exact) := rfl
@[go_sem] theorem bs23_1 : buildSliceA T 23 1 [(0, .agg [.int .i64 a, .int .i64 b, .int .i64 c])] = some (.slice [.int .i64 a, .int .i64 b, .int .i64 c] 1 .exact) := rfl
@[go_sem] theorem bs23_2 (d e f : Int) : buildSliceA T 23 2 [(0, .agg [.int .i64 a, .int .i64 b, .int .i64 c]), (1, .agg [.int .i64 d, .int .i64 e, .int .i64 f])] = some (.slice [.int .i64 a, .int .i64 b, .int .i64 c, .int .i64 d, .int .i64 e, .int .i64 f] 2 .exact) := rfl
@[go_sem] theorem bs28_1 : buildSliceA T 28 1 [(0, .int .i64 a)] = some (.slice [.int .i64 a] 1 .exact) := rfl
@[go_sem] theorem bs28_3 : buildSliceA T 28 3 [(0, .int .i64 a), (1, .int .i64 b), (2, .int .i64 c)] = some (.slice [.int .i64 a, .int .i64 b, .int .i64 c] 3 .exact) := rfl
@[go_sem] theorem bs32_1 : buildSliceA T 32 1 [(0, .slice l n t)] = some (.slice [.slice l n t] 1 .exact) := rfl
@[go_sem] theorem bs32_1n : buildSliceA T 32 1 [(0, .nilS)] = some (.slice [.nilS] 1 .exact) := rfl
@[go_sem] theorem bs32_3 (o : List AV) (q : Nat) (v : Tail) : buildSliceA T 32 3 [(0, .slice l n t), (1, .slice m k u), (2, .slice o q v)] = some (.slice [.slice l n t, .slice m k u, .slice o q v] 3 .exact) := rfl
@[go_sem] theorem bs93_1 (i o : Nat) : buildSliceA T 93 1 [(0, .sref i o n k)] = some (.slice [.sref i o n k] 1 .exact) := rfl
end
abbrev wS (W : Mat) : AV := .slice (W.map sl) W.length .unk
structure Span where
 low : Int
 high : Int
 deriving DecidableEq
abbrev spA (s : Span) : AV := .agg [.int .i64 s.low, .int .i64 s.high]
@[simp] theorem wS_bnd (n k : Nat) (W : Mat) : bndL n k (W.map sl) = true := bndL_map _ (fun _ => by simp [AV.bnd]) W
theorem wS_get {n : Nat} {W : Mat} (h : Sq n W) {a : Nat} (ha : a < n) : (W.map sl)[a]? = some (sl (W.getD a [])) := by
 have hl : a < W.length := by rw [h.1]; exact ha
 rw [List.getElem?_map, List.getElem?_eq_getElem hl, List.getD_eq_getElem?_getD, List.getElem?_eq_getElem hl]; rfl
def spanM (W : Mat) (a b : Nat) : Span := ⟨w64 (0 - ent W b a), ent W a b⟩
theorem least_pc {n : Nat} {W : Mat} (h : Sq n W) {a b : Nat} (ha : a < n) (hb : b < n) : PC Tryz.prog 131 [wS W, .int .i64 a, .int .i64 b] (.pure (.int .i64 (w64 (0 - ent W b a)))) := by
 refine PC.of_empty (AC.run (E_ok _) mix Tryz.func131 m131 rfl rfl rfl (Nat.le_of_ble_eq_true rfl) ?_) (by simp [bndL, AV.bnd]) rfl
 have xa : 0 ≤ (a : Int) ∧ (a : Int) < ((W.getD b []).length : Int) := by rw [h.getD hb]; omega
 have xb : 0 ≤ (b : Int) ∧ (b : Int) < (W.length : Int) := by rw [h.1]; omega
 have rb := wS_get h hb
 have eb := ints_ent h hb ha
 simp only [go_sem, xa, xb, rb, eb, nat_idx, Nat.mul_one, and_self, unA, Tryz.f131, reduceEqDiff, Nat.reduceBEq, reduceAdd, reduceIte, reduceCtorEq, reduceLeDiff]
 rfl
theorem greatest_pc {n : Nat} {W : Mat} (h : Sq n W) {a b : Nat} (ha : a < n) (hb : b < n) : PC Tryz.prog 132 [wS W, .int .i64 a, .int .i64 b] (.pure (.int .i64 (ent W a b))) := by
 refine PC.of_empty (AC.run (E_ok _) mix Tryz.func132 m132 rfl rfl rfl (Nat.le_of_ble_eq_true rfl) ?_) (by simp [bndL, AV.bnd]) rfl
 have xa : 0 ≤ (b : Int) ∧ (b : Int) < ((W.getD a []).length : Int) := by rw [h.getD ha]; omega
 have xb : 0 ≤ (a : Int) ∧ (a : Int) < (W.length : Int) := by rw [h.1]; omega
 have rb := wS_get h ha
 have eb := ints_ent h ha hb
 simp only [go_sem, xa, xb, rb, eb, nat_idx, Nat.mul_one, and_self, unA, Tryz.f132, reduceEqDiff, Nat.reduceBEq, reduceAdd, reduceIte, reduceCtorEq, reduceLeDiff]
@[go_sem] theorem bld159 (f g : Fn) (a b c d : List AV) : buildA T 159 [(0, .func f a b), (1, .func g c d)] = some (.agg [.func f a b, .func g c d]) := rfl
@[go_sem] theorem ix159_0 (f g : Fn) (a b c d : List AV) : indexA T 159 (.agg [.func f a b, .func g c d]) (.int .i64 ((0 : Nat) : Int)) = some (.func f a b) := rfl
@[go_sem] theorem ix159_1 (f g : Fn) (a b c d : List AV) : indexA T 159 (.agg [.func f a b, .func g c d]) (.int .i64 ((1 : Nat) : Int)) = some (.func g c d) := rfl
theorem tn0 : Int.toNat 0 = 0 := rfl
theorem tn1 : Int.toNat 1 = 1 := rfl
theorem span_pc {n : Nat} {W : Mat} (h : Sq n W) {a b : Nat} (ha : a < n) (hb : b < n) : PC Tryz.prog 89 [wS W, .int .i64 a, .int .i64 b] (.pure (spA (spanM W a b))) := by
 refine PC.of_empty (AC.run (E_ok _) mix Tryz.func89 m89 rfl rfl rfl (Nat.le_of_ble_eq_true rfl) ?_) (by simp [bndL, AV.bnd]) rfl
 simp only [go_sem, reduceEqDiff, Nat.reduceBEq, reduceAdd, reduceIte, reduceCtorEq, reduceLeDiff]
 refine wc_for 2 (fun k => [(1, .int .i64 a), (2, .int .i64 b), (6, .ref 0 0), (7, .ref 1 0), (14, .agg [.func (.func 131) [wS W] [], .func (.func 132) [wS W] []]), (15, .int .i64 k)])
  (fun k => ⟨[some (.cells [.int .i64 0, .int .i64 0]), some (.cells [.int .i64 (if 0 < k then w64 (0 - ent W b a) else 0), .int .i64 (if 1 < k then ent W a b else 0)])], 0, []⟩) rfl rfl ?_
 intro k hk I hI
 match k, hk, hI with
 | 0, _, hI =>
  have h' : ((0 : Nat) : Int) < 2 := by decide
  have h2 : 0 ≤ ((0 : Nat) : Int) ∧ ((0 : Nat) : Int) < 2 := by decide
  have h3 : ((0 : Nat) : Int) < ((2 : Nat) : Int) := by decide
  have h4 : IntKind.i64.wrap (((0 : Nat) : Int) + 1) = (0 + 1 : Nat) := wrap64 (by decide)
  simp only [go_sem, l89_0, h', decide_true, h2, nat_idx, and_self, Nat.mul_one, reduceEqDiff, Nat.reduceBEq, reduceAdd, reduceIte, reduceCtorEq, reduceLeDiff]
  refine cp n131 (least_pc h ha hb) (SubL.refl _) ?_
  simp only [go_sem, h2, h3, nat_idx, and_self, true_and, Nat.mul_one, h4, reduceEqDiff, Nat.reduceBEq, reduceAdd, reduceIte, reduceCtorEq, reduceLeDiff]
  exact hI (by decide)
 | 1, _, hI =>
  have h' : ((1 : Nat) : Int) < 2 := by decide
  have h2 : 0 ≤ ((1 : Nat) : Int) ∧ ((1 : Nat) : Int) < 2 := by decide
  have h3 : ((1 : Nat) : Int) < ((2 : Nat) : Int) := by decide
  have h4 : IntKind.i64.wrap (((1 : Nat) : Int) + 1) = (1 + 1 : Nat) := wrap64 (by decide)
  simp only [go_sem, l89_0, h', decide_true, h2, nat_idx, and_self, Nat.mul_one, reduceEqDiff, Nat.reduceBEq, reduceAdd, reduceIte, reduceCtorEq, reduceLeDiff]
  refine cp n132 (greatest_pc h ha hb) (SubL.refl _) ?_
  simp only [go_sem, h2, h3, nat_idx, and_self, true_and, Nat.mul_one, h4, reduceEqDiff, Nat.reduceBEq, reduceAdd, reduceIte, reduceCtorEq, reduceLeDiff]
  exact hI (by decide)
 | 2, _, hI =>
  have h' : ¬ ((2 : Nat) : Int) < 2 := by decide
  have z0 : (0 : Int) ≤ 0 ∧ (0 : Int) < ((2 : Nat) : Int) := by decide
  have z1 : (0 : Int) ≤ 1 ∧ (1 : Int) < ((2 : Nat) : Int) := by decide
  simp only [go_sem, l89_0, h', decide_false, z0, z1, and_self, tn0, tn1, Nat.zero_mul, Nat.one_mul, Tryz.f89, reduceEqDiff, Nat.reduceBEq, reduceAdd, reduceIte, reduceCtorEq, reduceLeDiff]
  rfl
abbrev Theft := List Int × Mat
abbrev thC (t : Theft) : List AV := [sl t.1, wS t.2]
def thefts (L : List Theft) : List AV := L.flatMap thC
@[simp] theorem thefts_bnd (n k : Nat) (L : List Theft) : bndL n k (thefts L) = true := bndL_flatMap _ (fun t => by simp [bndL, AV.bnd]) L
@[simp] theorem thefts_len (L : List Theft) : (thefts L).length = L.length * 2 := by
 induction L with
 | nil => rfl
 | cons t L ih => simp only [thefts, List.flatMap_cons, List.length_append] at ih ⊢; rw [ih]; simp; omega
theorem thefts_at : ∀ (L : List Theft) (k : Nat) (h : k < L.length), ((thefts L).drop (k * 2)).take 2 = thC L[k]
 | t :: L, 0, h => by simp [thefts]
 | t :: L, k + 1, h => by
  have := thefts_at L k (by simpa using h)
  rw [show (k + 1) * 2 = 2 + k * 2 by omega, ← List.drop_drop]
  simpa [thefts] using this
abbrev lnC (l : LLine) (L : List Theft) : List AV := [sl l.gives, .int .i64 l.least, .int .i64 l.most, .int .i64 l.taps, .slice (cnts l.counts) l.counts.length .unk, .slice (thefts L) L.length .unk]
attribute [go_sem] lnC thC
theorem sl_both {cs : List AV} {n a b : Nat} {tl : Tail} (hl : cs.length = n) (h : a ≤ b) (hb : b ≤ n) : sliceA T 22 (.slice cs n tl) (some (.int .i64 a)) (some (.int .i64 b)) none = some (.slice ((cs.drop a).take (b - a)) (b - a) .unk) := by
 have : sliceA T 22 (.slice cs n tl) (some (.int .i64 a)) (some (.int .i64 b)) none = if cs.length = n * 1 then (Go.Av.bnd (some (.int .i64 b)) n n).bind fun h => (Go.Av.bnd (some (.int .i64 a)) 0 h).map fun l => .slice ((cs.drop (l * 1)).take ((h - l) * 1)) (h - l) .unk else none := rfl
 have e1 : Go.Av.bnd (some (.int .i64 (b : Nat))) n n = some b := by simp [Go.Av.bnd]; omega
 have e2 : Go.Av.bnd (some (.int .i64 (a : Nat))) 0 b = some a := by simp [Go.Av.bnd]; omega
 rw [this, if_pos (by omega), e1, Option.bind_some, e2]
 simp
theorem ints_drop (l : List Int) (a n : Nat) : ((ints l).drop a).take n = ints ((l.drop a).take n) := by simp [ints, List.map_drop, List.map_take]
def lostS (l : LLine) (W : Mat) (a b : Nat) : Span :=
 ⟨w64 ((spanM W b a).low - sumW ((l.gives.drop a).take (b - a))), w64 ((spanM W b a).high - sumW ((l.gives.drop a).take (b - a)))⟩
theorem lost_pc {n : Nat} {W : Mat} (h : Sq n W) (set : List Int) (l : LLine) (hl : l.gives.length ≤ 1000) {a b : Nat} (ha : a < n) (hb : b < n) (hab : a ≤ b) (hbl : b ≤ l.gives.length) :
  PC Tryz.prog 85 [.agg (thC (set, W)), lineA l, .int .i64 a, .int .i64 b] (.pure (spA (lostS l W a b))) := by
 refine PC.of_empty (AC.run (E_ok _) mix Tryz.func85 m85 rfl rfl rfl (Nat.le_of_ble_eq_true rfl) ?_) (by simp [bndL, AV.bnd]) rfl
 simp only [go_sem, boxA, reduceEqDiff, Nat.reduceBEq, reduceAdd, reduceIte, reduceCtorEq, reduceLeDiff]
 refine cp n89 (span_pc h hb ha) (SubL.refl _) ?_
 have e0 := sl_both (cs := ints l.gives) (tl := .unk) (by simp) hab hbl
 have e1 : ((l.gives.drop a).take (b - a)).length = b - a := by rw [List.length_take, List.length_drop]; omega
 have hs := sum_pc ((l.gives.drop a).take (b - a)) (by show _ < _; omega)
 have e2 : sl ((l.gives.drop a).take (b - a)) = .slice (ints ((l.gives.drop a).take (b - a))) (b - a) .unk := by show AV.slice _ _ _ = _; rw [e1]
 rw [e2] at hs
 simp only [go_sem, e0, ints_drop, and_self, reduceEqDiff, Nat.reduceBEq, reduceAdd, reduceIte, reduceCtorEq, reduceLeDiff]
 refine cp n130 hs (SubL.refl _) ?_
 simp only [go_sem, and_self, Tryz.f85, reduceEqDiff, Nat.reduceBEq, reduceAdd, reduceIte, reduceCtorEq, reduceLeDiff]
 rfl
end Go.Av.Fx
end
section
namespace Go.Av.Fx
open Go Go.Av Go.Av.Tb Go.Proofs
open Go.Fw (Sq ent Bd Mat)
mutual
theorem bnd_le {n k n' k' : Nat} (hn : n ≤ n') (hk : k ≤ k') : ∀ v : AV, v.bnd n k = true → v.bnd n' k' = true
 | .ref i o, h => by simp only [AV.bnd, decide_eq_true_iff] at h ⊢; omega
 | .sref i _ _ _, h => by simp only [AV.bnd, decide_eq_true_iff] at h ⊢; omega
 | .map i, h => by simp only [AV.bnd, decide_eq_true_iff] at h ⊢; omega
 | .eptr l _, h => by simp only [AV.bnd] at h ⊢; exact bndL_le hn hk l h
 | .slice l _ .unk, h => by simp only [AV.bnd] at h ⊢; exact bndL_le hn hk l h
 | .slice l _ .exact, h => by simp only [AV.bnd] at h ⊢; exact bndL_le hn hk l h
 | .slice l _ (.tok j), h => by
  simp only [AV.bnd, Bool.and_eq_true, decide_eq_true_iff] at h ⊢
  exact ⟨bndL_le hn hk l h.1, by omega⟩
 | .func _ a b, h => by
  simp only [AV.bnd, Bool.and_eq_true] at h ⊢
  exact ⟨bndL_le hn hk a h.1, bndL_le hn hk b h.2⟩
 | .iface _ v, h => by simp only [AV.bnd] at h ⊢; exact bnd_le hn hk v h
 | .agg l, h => by simp only [AV.bnd] at h ⊢; exact bndL_le hn hk l h
 | .tuple l, h => by simp only [AV.bnd] at h ⊢; exact bndL_le hn hk l h
 | .bool _, _ => rfl
 | .int _ _, _ => rfl
 | .str _, _ => rfl
 | .nilp, _ => rfl
 | .nilS, _ => rfl
 | .nilFunc, _ => rfl
 | .nilIface, _ => rfl
 | .nilMap, _ => rfl
theorem bndL_le {n k n' k' : Nat} (hn : n ≤ n') (hk : k ≤ k') : ∀ l : List AV, bndL n k l = true → bndL n' k' l = true
 | [], _ => rfl
 | v :: l, h => by
  simp only [bndL, Bool.and_eq_true] at h ⊢
  exact ⟨bnd_le hn hk v h.1, bndL_le hn hk l h.2⟩
end
def joinS (a b : Span) : Span := ⟨if b.low < a.low then b.low else a.low, if b.high > a.high then b.high else a.high⟩
def overS (L : List Theft) (f : Theft → Span) : Span := L.foldl (fun o t => joinS o (f t)) (f (L.headD ([], [])))
theorem over_pc (l : LLine) (L : List Theft) (hL : L.length ≤ 1000) (hne : 0 < L.length) (g : FuncId) (ng : Callable Tryz.prog g) (caps : List AV) (hc : bndL 0 0 caps = true) (f : Theft → Span)
  (hg : ∀ t ∈ L, PC Tryz.prog g (.agg (thC t) :: caps) (.pure (spA (f t)))) : PC Tryz.prog 87 [.agg (lnC l L), .func (.func g) [] caps] (.pure (spA (overS L f))) := by
 refine PC.of_empty (AC.run (E_ok _) mix Tryz.func87 m87 rfl rfl rfl (Nat.le_of_ble_eq_true rfl) ?_) (by simp [bndL, AV.bnd, hc]) rfl
 have z0 : (0 : Int) ≤ 0 ∧ (0 : Int) < (L.length : Int) := by omega
 have z1 : 0 * 2 + 2 ≤ (thefts L).length := by rw [thefts_len]; omega
 have z2 := thefts_at L 0 hne
 have z3 : L.headD ([], []) = L[0] := by
  cases L with
  | nil => simp at hne
  | cons t L => rfl
 rw [Nat.zero_mul] at z1 z2
 rw [List.drop_zero] at z2
 simp only [go_sem, boxA, z0, z1, z2, tn0, Nat.zero_mul, reduceEqDiff, Nat.reduceBEq, reduceAdd, reduceIte, reduceCtorEq, reduceLeDiff]
 refine cp ng (hg _ (List.getElem_mem hne)) (SubL.refl _) ?_
 simp only [go_sem, builtinA, reduceEqDiff, Nat.reduceBEq, reduceAdd, reduceIte, reduceCtorEq, reduceLeDiff]
 refine wc_forG L.length (fun k => [(1, .func (.func g) [] caps), (4, .ref 1 0), (5, .ref 2 0), (16, .slice (thefts L) L.length .unk), (17, .int .i64 L.length), (18, .int .i64 k)])
  (fun k => ⟨[some (.cells (lnC l L)), some (.cells [.int .i64 0, .int .i64 0]), some (.cells [.int .i64 ((L.take k).foldl (fun o t => joinS o (f t)) (f L[0])).low, .int .i64 ((L.take k).foldl (fun o t => joinS o (f t)) (f L[0])).high])], 0, []⟩) rfl rfl (fun k hk => ?_) ?_
 ·refine ⟨Nat.zero_le _, Nat.zero_le _, by simp [bndTS, AV.bnd]; exact ⟨rfl, bndL_le (Nat.zero_le _) (Nat.zero_le _) _ hc⟩, fun i B hB => ?_, fun t ht => by cases ht⟩
  match i, hB with
  | 0, hB => simp at hB; subst hB; simp [Blk.bnd, bndL, AV.bnd]
  | 1, hB => simp at hB; subst hB; simp [Blk.bnd, bndL, AV.bnd]
  | 2, hB => simp at hB; subst hB; simp [Blk.bnd, bndL, AV.bnd]
  | i + 3, hB => simp at hB
 intro k hk I hI
 by_cases h : k < L.length
 ·have h' : (k : Int) < L.length := by omega
  have h2 : 0 ≤ (k : Int) ∧ (k : Int) < L.length := by omega
  have h3 : k * 2 + 2 ≤ (thefts L).length := by rw [thefts_len]; omega
  have h5 := thefts_at L k h
  have h6 : IntKind.i64.wrap ((k : Int) + 1) = (k + 1 : Nat) := wrap64 (by omega)
  simp only [go_sem, l87_0, h', decide_true, h2, h3, h5, reduceEqDiff, Nat.reduceBEq, reduceAdd, reduceIte, reduceCtorEq, reduceLeDiff]
  refine cp ng (hg _ (List.getElem_mem h)) (SubL.refl _) ?_
  have hI' := hI h
  rw [foldl_take _ _ _ _ h] at hI'
  simp only [go_sem, builtinA, minsA, maxsA, h6, reduceEqDiff, Nat.reduceBEq, reduceAdd, reduceIte, reduceCtorEq, reduceLeDiff]
  exact hI' [some (.cells [sl L[k].1, wS L[k].2]), some (.cells [.int .i64 (f L[k]).low, .int .i64 (f L[k]).high])]
 ·have h' : ¬ (k : Int) < L.length := by omega
  simp only [go_sem, l87_0, h', decide_false, Tryz.f87, reduceEqDiff, Nat.reduceBEq, reduceAdd, reduceIte, reduceCtorEq, reduceLeDiff]
  rw [List.take_of_length_le (by omega)]
  unfold overS
  rw [z3]
end Go.Av.Fx
end
section
namespace Go.Av
open Go
def Env.iter (E : Env) (S : St) (l : Nat) (Y : List AV → St → (AV → St → Prop) → Prop) (C : Cx → Prop) : Env :=
 {E with base := S.heap.length, bt := S.nt, R := none, Y := fun l' args S2 R2 => l' = l ∧ Y args S2 R2, C := C }
theorem IterC.run {E : Env} (hE : E.Ok) (hmix : E.P.follows .mixedOrders = true) {f : FuncId} {fn : Func} {ks : Nat → List Nat} {dm : Nat → Nat × List Bool} {mc : MC} (hf : E.P.funcs[f]? = some fn) (hm : fn.body.bind (toMC E.N ks dm) = some mc) (hN : fn.ntmps = E.N) {caps : List AV} {S : St} {Y : List AV → St → (AV → St → Prop) → Prop} {R : St → Prop}
  (hargs : caps.length + 1 ≤ E.N)
  (h : ∀ (l : Nat) (C : Cx → Prop), WC (E.iter S l Y C) mc (bodyQ (E.iter S l Y C) fn.results.toList fun e S' => (∃ x, e = .ret x) ∧ R S') (argTS 0 (.func (.yield l) [] [] :: caps)) S) : IterC E.P f caps S Y R := by
 intro l C hCle hY c w vs hC hst hl
 have hok : (E.iter S l Y C).Ok := ⟨hE.T, hE.M, hCle, fun l' args S2 K c w vs ⟨e, hy⟩ hc hs hr => by
  subst e; exact hY args S2 K c w vs hy hc hs hr⟩
 cases hb : fn.body with
 | none => rw [hb] at hm; cases hm
 | some code =>
  rw [hb] at hm
  refine (AC.of_bodyC (E := E.iter S l Y C) hok hf hb (toMC_ok _ _ hm) hN rfl rfl (by show caps.length + 1 ≤ E.N; exact hargs) (fun E' hE' hP => draw_ok hE' (hP ▸ hmix)) (h l C) rfl c w vs hC hst hl).mono fun e w' ⟨ae, S', c', h1, h2, h3, h4⟩ => ?_
  obtain ⟨⟨x, rfl⟩, hR⟩ := h2
  cases e with
  | returned y => exact ⟨y, S', c', rfl, h1, hR, h4⟩
  | panicked ch => exact h3.elim
  | outgrown => exact h3.elim
end Go.Av
end
section
namespace Go.Av.Fx
open Go Go.Av Go.Av.Tb Go.Proofs
open Go.Fw (Sq ent Bd Mat)
@[go_sem] theorem iter_T (E : Env) (S : St) (l : Nat) (Y : List AV → St → (AV → St → Prop) → Prop) (C : Cx → Prop) : (E.iter S l Y C).T = E.T := rfl
@[go_sem] theorem iter_P (E : Env) (S : St) (l : Nat) (Y : List AV → St → (AV → St → Prop) → Prop) (C : Cx → Prop) : (E.iter S l Y C).P = E.P := rfl
@[go_sem] theorem round_T (E : Env) (S : St) (l : Nat) : (E.inRound l S).T = E.T := rfl
@[go_sem] theorem round_P (E : Env) (S : St) (l : Nat) : (E.inRound l S).P = E.P := rfl
noncomputable def Es (n : Nat) (S : St) : Env := { E n with base := S.heap.length, bt := S.nt }
theorem Es_ok (n : Nat) (S : St) : (Es n S).Ok := ⟨(E_ok n).T, (E_ok n).M, (E_ok n).Cle, (E_ok n).Y⟩
@[go_sem] theorem Es_T (n : Nat) (S : St) : (Es n S).T = T := rfl
@[go_sem] theorem Es_P (n : Nat) (S : St) : (Es n S).P = Tryz.prog := rfl
theorem sets_ac (l : LLine) (S : St) : AC Tryz.prog 151 [lineA l] S fun e S' => e = .ret (.func (.func 161) [] [.ref S.heap.length 0]) ∧ S' = { S with heap := S.heap ++ [some (.cells (lineC l))] } := by
 refine AC.run (Es_ok 4 S) mix Tryz.func151 m151 rfl rfl rfl (Nat.le_of_ble_eq_true rfl) ?_
 simp only [go_sem, boxA, Tryz.f151, reduceEqDiff, Nat.reduceBEq, reduceAdd, reduceIte, reduceCtorEq, reduceLeDiff]
def setA : List Int → AV
 | [] => .nilS
 | s => .slice (ints s) s.length .exact
def ones (m : Nat) : List (List Int) := (List.range m).map fun (i : Nat) => [(i : Int)]
def twosAt (m i : Nat) : List (List Int) := (List.range (m - (i + 1))).map fun (j : Nat) => [(i : Int), ((i + 1 + j : Nat) : Int)]
def twos (m : Nat) : List (List Int) := (List.range m).flatMap (twosAt m)
def setsL (m : Nat) : List (List Int) := [] :: (ones m ++ twos m)
theorem sy_yield {E : Env} {K : AV → St → Prop} {h : Hold K} {l : Nat} {args : List AV} {S : St} {R : AV → St → Prop} (hy : E.Y l args S R) (hk : ∀ v S', R v S' → K v S') : sy E K h (some (l, args)) S := ⟨R, hy, hk⟩
theorem pre1 {k m : Nat} (h : k < m) : [] :: ((List.range k).map fun (i : Nat) => [(i : Int)]) ++ [[(k : Int)]] <+: setsL m := by
 obtain ⟨r, rfl⟩ : ∃ r, m = (k + 1) + r := ⟨m - (k + 1), by omega⟩
 refine ⟨((List.range r).map fun i => [((k + 1 + i : Nat) : Int)]) ++ twos (k + 1 + r), ?_⟩
 unfold setsL ones
 rw [List.range_add, List.range_succ]
 simp
theorem pre2 {i j m : Nat} (h : i < m) (hj : j < m - (i + 1)) : [] :: (ones m ++ ((List.range i).flatMap (twosAt m) ++ (List.range j).map fun (j : Nat) => [(i : Int), ((i + 1 + j : Nat) : Int)])) ++ [[(i : Int), ((i + 1 + j : Nat) : Int)]] <+: setsL m := by
 obtain ⟨r, hr⟩ : ∃ r, m = (i + 1) + r := ⟨m - (i + 1), by omega⟩
 obtain ⟨q, hq⟩ : ∃ q, m - (i + 1) = (j + 1) + q := ⟨m - (i + 1) - (j + 1), by omega⟩
 have e1 : twos m = (List.range i).flatMap (twosAt m) ++ (twosAt m i ++ (List.range r).flatMap fun x => twosAt m (i + 1 + x)) := by
  unfold twos
  rw [show List.range m = List.range (i + 1) ++ (List.range r).map (i + 1 + ·) by rw [← List.range_add, ← hr], List.range_succ]
  simp [List.flatMap_append, List.flatMap_map]
 have e2 : twosAt m i = (List.range j).map (fun (j : Nat) => [(i : Int), ((i + 1 + j : Nat) : Int)]) ++ ([[(i : Int), ((i + 1 + j : Nat) : Int)]] ++ (List.range q).map fun x => [(i : Int), ((i + 1 + (j + 1 + x) : Nat) : Int)]) := by
  unfold twosAt
  rw [hq, List.range_add, List.range_succ]
  simp
 refine ⟨((List.range q).map fun x => [(i : Int), ((i + 1 + (j + 1 + x) : Nat) : Int)]) ++ (List.range r).flatMap fun x => twosAt m (i + 1 + x), ?_⟩
 unfold setsL
 rw [e1, e2]
 simp
theorem setsIter_pc (l : LLine) (hl : l.gives.length ≤ 1000) (g : List (List Int) → St) (i : Nat) (hg : ∀ a, cellsAt (g a).heap i = some (lineC l))
  (Y : List AV → St → (AV → St → Prop) → Prop) (hY : ∀ p s, p ++ [s] <+: setsL l.gives.length → Y [setA s] (g p) (fun v S' => v = .bool true ∧ S' = g (p ++ [s]))) :
  IterC Tryz.prog 161 [.ref i 0] (g []) Y (fun S' => S' = g (setsL l.gives.length)) := by
 refine IterC.run (E_ok _) mix Tryz.func161 m161 rfl (Nat.le_of_ble_eq_true rfl) fun lp C => ?_
 simp only [go_sem, Tryz.f161, reduceEqDiff, Nat.reduceBEq, reduceAdd, reduceIte, reduceCtorEq, reduceLeDiff]
 refine sy_yield ⟨rfl, hY [] [] ⟨_, rfl⟩⟩ ?_
 rintro v S' ⟨rfl, rfl⟩
 simp only [go_sem, un_not, Bool.not_true, hg, builtinA, reduceEqDiff, Nat.reduceBEq, reduceAdd, reduceIte, reduceCtorEq, reduceLeDiff]
 have hm : l.gives.length ≤ 1000 := hl
 generalize hlen : l.gives.length = m at *
 refine wc_for m (fun k => [(0, .func (.yield lp) [] []), (1, .ref i 0), (11, .int .i64 m), (12, .int .i64 k)]) (fun k => g ([] :: (List.range k).map fun (i : Nat) => [(i : Int)])) rfl rfl ?_
 intro k hk I hI
 by_cases h : k < m
 ·have h' : (k : Int) < m := by omega
  have h4 : IntKind.i64.wrap ((k : Int) + 1) = (k + 1 : Nat) := wrap64 (by omega)
  have hI' := hI h
  rw [List.range_succ, List.map_append] at hI'
  simp only [go_sem, l161_0, h', decide_true, reduceEqDiff, Nat.reduceBEq, reduceAdd, reduceIte, reduceCtorEq, reduceLeDiff]
  refine sy_yield ⟨rfl, hY _ [(k : Int)] (pre1 h)⟩ ?_
  rintro v S' ⟨rfl, rfl⟩
  simp only [go_sem, un_not, Bool.not_true, h4, reduceEqDiff, Nat.reduceBEq, reduceAdd, reduceIte, reduceCtorEq, reduceLeDiff]
  exact hI'
 ·have h' : ¬ (k : Int) < m := by omega
  have hkm : k = m := by omega
  subst hkm
  simp only [go_sem, l161_0, h', decide_false, hg, hlen, builtinA, reduceEqDiff, Nat.reduceBEq, reduceAdd, reduceIte, reduceCtorEq, reduceLeDiff]
  clear hI hk h h' I
  refine wc_for k (fun i1 => [(0, .func (.yield lp) [] []), (1, .ref i 0), (23, .int .i64 k), (24, .int .i64 i1)]) (fun i1 => g ([] :: (ones k ++ (List.range i1).flatMap (twosAt k)))) rfl (by simp [ones]) ?_
  intro i1 hi1 I hI
  by_cases h : i1 < k
  ·have h' : (i1 : Int) < k := by omega
   have h4 : IntKind.i64.wrap ((i1 : Int) + 1) = (i1 + 1 : Nat) := wrap64 (by omega)
   have hI' := hI h
   rw [List.range_succ, List.flatMap_append] at hI'
   simp only [List.flatMap_cons, List.flatMap_nil, List.append_nil] at hI'
   simp only [go_sem, l161_1, h', decide_true, h4, reduceEqDiff, Nat.reduceBEq, reduceAdd, reduceIte, reduceCtorEq, reduceLeDiff]
   refine wc_for (k - (i1 + 1)) (fun j => [(0, .func (.yield lp) [] []), (1, .ref i 0), (23, .int .i64 k), (24, .int .i64 i1), (4, .int .i64 i1), (5, .int .i64 (i1 + 1 + j : Nat))]) (fun j => g ([] :: (ones k ++ ((List.range i1).flatMap (twosAt k) ++ (List.range j).map fun (j : Nat) => [(i1 : Int), ((i1 + 1 + j : Nat) : Int)])))) rfl (by simp) ?_
   intro j hj I2 hI2
   by_cases h2 : j < k - (i1 + 1)
   ·have h2' : ((i1 + 1 + j : Nat) : Int) < k := by omega
    have h24 : IntKind.i64.wrap (((i1 + 1 + j : Nat) : Int) + 1) = (i1 + 1 + (j + 1) : Nat) := wrap64 (by omega)
    have hI2' := hI2 h2
    rw [List.range_succ, List.map_append] at hI2'
    simp only [go_sem, l161_2, h2', decide_true, hg, hlen, builtinA, reduceEqDiff, Nat.reduceBEq, reduceAdd, reduceIte, reduceCtorEq, reduceLeDiff]
    refine sy_yield ⟨rfl, hY _ [(i1 : Int), ((i1 + 1 + j : Nat) : Int)] (pre2 h h2)⟩ ?_
    rintro v S' ⟨rfl, rfl⟩
    simp only [go_sem, un_not, Bool.not_true, h24, reduceEqDiff, Nat.reduceBEq, reduceAdd, reduceIte, reduceCtorEq, reduceLeDiff]
    simp only [List.cons_append, List.append_assoc, List.map_cons, List.map_nil] at hI2' ⊢
    exact hI2'
   ·have h2' : ¬ ((i1 + 1 + j : Nat) : Int) < k := by omega
    simp only [go_sem, l161_2, h2', decide_false, hg, hlen, builtinA, h4, reduceEqDiff, Nat.reduceBEq, reduceAdd, reduceIte, reduceCtorEq, reduceLeDiff]
    rw [show j = k - (i1 + 1) by omega]
    exact hI'
  ·have h' : ¬ (i1 : Int) < k := by omega
   simp only [go_sem, l161_1, h', decide_false, reduceEqDiff, Nat.reduceBEq, reduceAdd, reduceIte, reduceCtorEq, reduceLeDiff]
   rw [show i1 = k by omega]
   exact ⟨⟨_, rfl⟩, rfl⟩
def thR (L : List Theft) : List AV := L.flatMap fun t => [setA t.1, wS t.2]
def thT : List Theft → AV
 | [] => .nilS
 | t :: L => .slice (thR (t :: L)) (L.length + 1) (.tok L.length)
def addT (l : LLine) (L : List Theft) (s : List Int) : List Theft := match explM l s with
 | some W => L ++ [(s, W)]
 | none => L
def theftsL (l : LLine) : List Theft := (setsL l.gives.length).foldl (addT l) []
theorem thR_snoc (L : List Theft) (s : List Int) (W : Mat) : thR (L ++ [(s, W)]) = thR L ++ [setA s, wS W] := by simp [thR]
theorem thR_len (L : List Theft) : (thR L).length = L.length * 2 := by
 induction L with
 | nil => rfl
 | cons t L ih => simp only [thR, List.flatMap_cons, List.length_append] at ih ⊢; rw [ih]; simp; omega
@[go_sem] theorem setA_one (s : List Int) : AV.one (setA s) = true := by cases s <;> rfl
theorem thT_one (L : List Theft) : AV.one (thT L) = true := by cases L <;> rfl
attribute [go_sem] thT_one
@[go_sem] theorem thT_cl (L : List Theft) : AV.cells (thT L) = [thT L] := cells_one (thT_one L)
@[go_sem] theorem setA_cl (s : List Int) : AV.cells (setA s) = [setA s] := by cases s <;> rfl
@[go_sem] theorem bd113_A (s : List Int) (m : List AV) (k : Nat) (u : Tail) : buildA T 113 [(0, setA s), (1, .slice m k u)] = some (.agg [setA s, .slice m k u]) := by cases s <;> rfl
theorem setA_sub (s : List Int) : Sub (setA s) (sl s) := by
 cases s with
 | nil => exact Sub.nil
 | cons a s => exact Sub.unk _ _ _
theorem setA_frz (h : List (Option Blk)) (s : List Int) : Frz h (setA s) (sl s) := by
 cases s with
 | nil => exact .nil
 | cons a s => exact .unk _ _ _
theorem thR_frz (h : List (Option Blk)) : ∀ (L : List Theft) (j : Nat) (x y : AV), (thR L)[j]? = some x → (thefts L)[j]? = some y → Frz h x y
 | [], j, x, y, hx, _ => by simp [thR] at hx
 | t :: L, 0, x, y, hx, hy => by simp [thR] at hx; simp [thefts] at hy; subst hx; subst hy; exact setA_frz h t.1
 | t :: L, 1, x, y, hx, hy => by simp [thR] at hx; simp [thefts] at hy; subst hx; subst hy; exact .same _
 | t :: L, j + 2, x, y, hx, hy => by
  refine thR_frz h L j x y ?_ ?_
  ·simpa [thR] using hx
  ·simpa [thefts] using hy
theorem thT_frz (h : List (Option Blk)) (L : List Theft) : Frz h (thT L) (.slice (thefts L) L.length .unk) := by
 cases L with
 | nil => exact .nil
 | cons t L => exact .slice _ _ _ _ (by rw [thR_len, thefts_len]) fun j x y hx hy => thR_frz h (t :: L) j x y hx hy
theorem sr_appT {K : AV → St → Prop} {hK : Hold K} {h : List (Option Blk)} (L : List Theft) (s : List Int) (W : Mat) (hL : L.length ≤ 1000)
  (next : K (thT (L ++ [(s, W)])) ⟨h, L.length + 1, toksN (L.length + 1)⟩) : sr K hK (appendA T ⟨h, L.length, toksN L.length⟩ 106 (thT L) (.slice [setA s, wS W] 1 .exact)) ⟨h, L.length, toksN L.length⟩ := by
 cases L with
 | nil =>
  have : appendA T ⟨h, ([] : List Theft).length, toksN ([] : List Theft).length⟩ 106 (thT []) (.slice [setA s, wS W] 1 .exact) = some (.tok none (fun j => .slice [setA s, wS W] 1 (.tok j))) := by cases s <;> rfl
  rw [this, sr_tok]; exact next
 | cons t L =>
  show sr K hK (appendA T ⟨h, (t :: L).length, toksN (t :: L).length⟩ 106 (.slice (thR (t :: L)) (L.length + 1) (.tok L.length)) _) _
  simp only [List.length_cons] at hL
  rw [app_gen (e := 113) (ei := ti113) (lx := [setA s, wS W]) (nx := 1) rfl rfl (by decide) rfl (by decide) (by simp only [List.all_cons, List.all_nil, setA_one, Bool.and_true]; rfl) (by show (L.length + 1 + 1) * 48 ≤ _; omega) (by omega) (by rw [thR_len]; simp [ti113])]
  rw [sr_tok_some]
  refine ⟨List.mem_cons_self, ?_⟩
  have : killTok (toksN (L.length + 1)) (some L.length) = [] := by simp [killTok, toksN]
  show K (.slice (thR (t :: L) ++ [setA s, wS W]) (L.length + 1 + 1) (.tok (L.length + 1))) ⟨h, L.length + 1 + 1, (L.length + 1) :: killTok (toksN (L.length + 1)) (some L.length)⟩
  rw [this, ← thR_snoc]
  have e : thT (t :: L ++ [(s, W)]) = .slice (thR (t :: L ++ [(s, W)])) (L.length + 1 + 1) (.tok (L.length + 1)) := by simp [thT]
  rw [← e]; exact next
@[go_sem] theorem onlyN_normal (K : TS → St → Prop) (ts : TS) (S : St) : onlyN K .normal ts S = K ts S := rfl
@[go_sem] theorem zipTS_1 (p : Nat) (v : AV) (ts : TS) : zipTS [p] [v] ts = ts.set p v := rfl
def gS (l : LLine) (L : List Theft) : St :=
 ⟨[some (.cells (lineC l)), some (.cells [.nilS, .int .i64 0, .int .i64 0, .int .i64 0, .nilS, .nilS]),
  some (.cells [sl l.gives, .int .i64 l.least, .int .i64 l.most, .int .i64 l.taps, .slice (cnts l.counts) l.counts.length .unk, thT L]), some (.cells (lineC l))], L.length, toksN L.length⟩
theorem setsL_len {n : Nat} {s : List Int} (h : s ∈ setsL n) : s.length ≤ 2 := by
 simp only [setsL, ones, twos, twosAt, List.mem_cons, List.mem_append, List.mem_flatMap, List.mem_map] at h
 rcases h with rfl | ⟨i, _, rfl⟩ | ⟨i, _, j, _, rfl⟩ <;> simp
theorem addT_len (l : LLine) (L : List Theft) (s : List Int) : (addT l L s).length ≤ L.length + 1 := by
 unfold addT; split <;> simp
theorem solved_pc (l : LLine) (h : Ln l) : PC Tryz.prog 118 [lineA l] (.pure (.agg (lnC l (theftsL l)))) := by
 have hp := h.pts
 refine PC.of_frz (AC.run (E_ok _) mix Tryz.func118 m118 rfl rfl rfl (Nat.le_of_ble_eq_true rfl) ?_) (by simp [bndL, AV.bnd]) (by simp [bndL, AV.bnd])
 simp only [go_sem, boxA, reduceEqDiff, Nat.reduceBEq, reduceAdd, reduceIte, reduceCtorEq, reduceLeDiff]
 refine cac n151 (sets_ac l _) ?_ (fun v S' hh => nomatch hh.1)
 rintro v S' ⟨hv, rfl⟩
 cases hv
 simp only [go_sem, reduceEqDiff, Nat.reduceBEq, reduceAdd, reduceIte, reduceCtorEq, reduceLeDiff]
 have hlen : ∀ p, p <+: setsL l.gives.length → (p.foldl (addT l) []).length ≤ 100 := by
  intro p hp'
  have h1 : ∀ (p : List (List Int)) (L : List Theft), (p.foldl (addT l) L).length ≤ L.length + p.length := by
   intro p
   induction p with
   | nil => intro L; simp
   | cons s p ih => intro L; have := ih (addT l L s); have := addT_len l L s; simp only [List.foldl_cons, List.length_cons]; omega
  have h2 := h1 p []
  have h3 := hp'.length_le
  have h4 : ∀ m, m ≤ 5 → (setsL m).length ≤ 100 := by decide
  have := h4 _ hp.2
  simp at h2; omega
 refine ⟨fun _ => trivial, rfl, rfl, 161, [.ref 3 0], _, rfl, n161, setsIter_pc l (by omega) (fun p => gS l (p.foldl (addT l) [])) 3 (fun _ => rfl) _ ?_, ?_⟩
 ·rintro p s hs
  have hL := hlen p ⟨[s] ++ hs.choose, by rw [← List.append_assoc]; exact hs.choose_spec⟩
  have hs2 : s ∈ setsL l.gives.length := hs.subset (by simp)
  rw [List.foldl_append]
  generalize p.foldl (addT l) [] = L at *
  refine ⟨rfl, fun lp => ?_⟩
  simp only [go_sem, a118_0, b118_0, gS, reduceEqDiff, Nat.reduceBEq, reduceAdd, reduceIte, reduceCtorEq, reduceLeDiff]
  refine call_pure n84 (explained_pc l h s (by have := setsL_len hs2; omega)) (SubL.cons (Sub.refl _) (SubL.cons (setA_sub s) (SubL.refl []))) ?_
  cases hx : explM l s with
  | none =>
   simp only [go_sem, closeA, extractA, reduceEqDiff, Nat.reduceBEq, reduceAdd, reduceIte, reduceCtorEq, reduceLeDiff]
   simp only [List.foldl_cons, List.foldl_nil, addT, hx]
  | some W =>
   simp only [go_sem, closeA, extractA, reduceEqDiff, Nat.reduceBEq, reduceAdd, reduceIte, reduceCtorEq, reduceLeDiff]
   refine sr_appT L s W (by omega) ?_
   simp only [go_sem, reduceEqDiff, Nat.reduceBEq, reduceAdd, reduceIte, reduceCtorEq, reduceLeDiff]
   simp only [List.foldl_cons, List.foldl_nil, addT, hx]
   rw [show (L ++ [(s, W)]).length = L.length + 1 by simp]
 ·rintro S' rfl
  show blockQ _ _ _ _ (gS l (theftsL l))
  have hL := hlen _ (List.prefix_refl _)
  rw [show (setsL l.gives.length).foldl (addT l) [] = theftsL l from rfl] at hL
  generalize theftsL l = L at *
  simp only [go_sem, gS, Tryz.f118, reduceEqDiff, Nat.reduceBEq, reduceAdd, reduceIte, reduceCtorEq, reduceLeDiff]
  refine ⟨_, rfl, .agg _ _ (by simp) fun j x y hx hy => ?_⟩
  match j, hx, hy with
  | 0, hx, hy => simp at hx hy; subst hx; subst hy; exact .same _
  | 1, hx, hy => simp at hx hy; subst hx; subst hy; exact .same _
  | 2, hx, hy => simp at hx hy; subst hx; subst hy; exact .same _
  | 3, hx, hy => simp at hx hy; subst hx; subst hy; exact .same _
  | 4, hx, hy => simp at hx hy; subst hx; subst hy; exact .same _
  | 5, hx, hy => simp at hx hy; subst hx; subst hy; exact thT_frz _ L
  | j + 6, hx, hy => simp at hx
end Go.Av.Fx
end
section
namespace Go.Av.Fx
open Go Go.Av Go.Av.Tb Go.Proofs
open Go.Fw (Sq ent Bd Mat)
@[go_sem] theorem ne00 : decide ((0 : Int) ≠ 0) = false := rfl
@[go_sem] theorem ne10 : decide ((1 : Int) ≠ 0) = true := rfl
@[go_sem] theorem ne20 : decide ((2 : Int) ≠ 0) = true := rfl
@[go_sem] theorem ne30 : decide ((3 : Int) ≠ 0) = true := rfl
@[go_sem] theorem ne40 : decide ((4 : Int) ≠ 0) = true := rfl
@[go_sem] theorem ne50 : decide ((5 : Int) ≠ 0) = true := rfl
@[go_sem] theorem ne60 : decide ((6 : Int) ≠ 0) = true := rfl
@[go_sem] theorem ne70 : decide ((7 : Int) ≠ 0) = true := rfl
@[go_sem] theorem ne80 : decide ((8 : Int) ≠ 0) = true := rfl
@[go_sem] theorem ne90 : decide ((9 : Int) ≠ 0) = true := rfl
@[go_sem] theorem eq00 : decide ((0 : Int) = 0) = true := rfl
@[go_sem] theorem eq10 : decide ((1 : Int) = 0) = false := rfl
@[go_sem] theorem eq20 : decide ((2 : Int) = 0) = false := rfl
@[go_sem] theorem eq30 : decide ((3 : Int) = 0) = false := rfl
@[go_sem] theorem eq40 : decide ((4 : Int) = 0) = false := rfl
@[go_sem] theorem eq50 : decide ((5 : Int) = 0) = false := rfl
@[go_sem] theorem eq60 : decide ((6 : Int) = 0) = false := rfl
@[go_sem] theorem eq70 : decide ((7 : Int) = 0) = false := rfl
@[go_sem] theorem eq80 : decide ((8 : Int) = 0) = false := rfl
@[go_sem] theorem eq90 : decide ((9 : Int) = 0) = false := rfl
def possB (l : LLine) : Bool := decide ((theftsL l).length > 0)
theorem possible_pc (l : LLine) (h : Ln l) : PC Tryz.prog 94 [lineA l] (.pure (.bool (possB l))) := by
 refine PC.of_empty (AC.run (E_ok _) mix Tryz.func94 m94 rfl rfl rfl (Nat.le_of_ble_eq_true rfl) ?_) (by simp [bndL, AV.bnd]) rfl
 simp only [go_sem, boxA, reduceEqDiff, Nat.reduceBEq, reduceAdd, reduceIte, reduceCtorEq, reduceLeDiff]
 refine cp n118 (solved_pc l h) (SubL.refl _) ?_
 have e : decide (((theftsL l).length : Int) > 0) = possB l := by unfold possB; congr 1; simp
 simp only [go_sem, builtinA, e, Tryz.f94, reduceEqDiff, Nat.reduceBEq, reduceAdd, reduceIte, reduceCtorEq, reduceLeDiff]
theorem Possible_pc (l : LLine) (ok : okLine l) : PC Tryz.prog 41 [lineA l] (.pure (.tuple [.bool (isLineB l && possB l), .int .i64 (if isLineB l = true then 0 else 2)])) := by
 refine PC.of_empty (AC.run (E_ok _) mix Tryz.func41 m41 rfl rfl rfl (Nat.le_of_ble_eq_true rfl) ?_) (by simp [bndL, AV.bnd]) rfl
 simp only [go_sem, boxA, reduceEqDiff, Nat.reduceBEq, reduceAdd, reduceIte, reduceCtorEq, reduceLeDiff]
 refine cp n82 (isLine_pc l ok) (SubL.refl _) ?_
 cases h : isLineB l
 ·simp only [go_sem, un_not, Bool.not_false, Tryz.f41, Bool.false_and, reduceEqDiff, Nat.reduceBEq, reduceAdd, reduceIte, reduceCtorEq, reduceLeDiff]
 ·simp only [go_sem, un_not, Bool.not_true, reduceEqDiff, Nat.reduceBEq, reduceAdd, reduceIte, reduceCtorEq, reduceLeDiff]
  refine cp n94 (possible_pc l (isLine_iff.1 h)) (SubL.refl _) ?_
  simp only [go_sem, Tryz.f41, Bool.true_and, reduceEqDiff, Nat.reduceBEq, reduceAdd, reduceIte, reduceCtorEq, reduceLeDiff]
abbrev zeroLn : AV := .agg [.nilS, .int .i64 0, .int .i64 0, .int .i64 0, .nilS, .nilS]
def askE (l : LLine) (fine : Bool) : Int := if isLineB l = true then (if fine = true then (if possB l = true then 0 else 7) else 2) else 2
def askedA (l : LLine) (fine : Bool) : AV := if isLineB l = true then (if fine = true then (if possB l = true then .tuple [.agg (lnC l (theftsL l)), .int .i64 0] else .tuple [zeroLn, .int .i64 7]) else .tuple [zeroLn, .int .i64 2]) else .tuple [zeroLn, .int .i64 2]
theorem askedA_bnd (l : LLine) (fine : Bool) : (askedA l fine).bnd 0 0 = true := by
 unfold askedA; repeat' split
 all_goals simp [AV.bnd, bndL]
theorem asked_pc (l : LLine) (ok : okLine l) (fine : Bool) : PC Tryz.prog 75 [lineA l, .bool fine] (.pure (askedA l fine)) := by
 refine PC.of_empty (AC.run (E_ok _) mix Tryz.func75 m75 rfl rfl rfl (Nat.le_of_ble_eq_true rfl) ?_) (by simp [bndL, AV.bnd]) (askedA_bnd _ _)
 simp only [go_sem, boxA, reduceEqDiff, Nat.reduceBEq, reduceAdd, reduceIte, reduceCtorEq, reduceLeDiff]
 refine cp n82 (isLine_pc l ok) (SubL.refl _) ?_
 cases h : isLineB l
 ·simp only [go_sem, un_not, Bool.not_false, Tryz.f75, askedA, h, reduceEqDiff, Nat.reduceBEq, reduceAdd, reduceIte, reduceCtorEq, reduceLeDiff]
 ·cases fine
  ·simp only [go_sem, un_not, Bool.not_true, Bool.not_false, Tryz.f75, askedA, h, reduceEqDiff, Nat.reduceBEq, reduceAdd, reduceIte, reduceCtorEq, reduceLeDiff]
  ·simp only [go_sem, un_not, Bool.not_true, reduceEqDiff, Nat.reduceBEq, reduceAdd, reduceIte, reduceCtorEq, reduceLeDiff]
   refine cp n118 (solved_pc l (isLine_iff.1 h)) (SubL.refl _) ?_
   cases hp : possB l
   ·have e0 : (theftsL l).length = 0 := by
     have := hp; unfold possB at this; simp at this
     rw [this]; rfl
    have e : decide ((((theftsL l).length : Nat) : Int) = 0) = true := by rw [e0]; rfl
    simp only [go_sem, builtinA, e, Tryz.f75, askedA, h, hp, reduceEqDiff, Nat.reduceBEq, reduceAdd, reduceIte, reduceCtorEq, reduceLeDiff]
   ·have e : decide ((((theftsL l).length : Nat) : Int) = 0) = false := by
     unfold possB at hp; simp at hp
     rw [decide_eq_false_iff_not]
     omega
    simp only [go_sem, builtinA, e, Tryz.f75, askedA, h, hp, reduceEqDiff, Nat.reduceBEq, reduceAdd, reduceIte, reduceCtorEq, reduceLeDiff]
end Go.Av.Fx
end

/- Part 19 of the proof. -/
import Derived.Test.YtlagjjpbknpdkaaGreatDoorVp18
set_option linter.all false
set_option linter.unusedVariables false
set_option linter.unusedSimpArgs false
set_option linter.unusedSectionVars false
open Nat (reduceEqDiff reduceAdd reduceLeDiff)
section
namespace Go.Av.Fx
open Go Go.Av Go.Av.Tb Go.Proofs
open Go.Fw (Sq ent Bd Mat)
@[go_sem] theorem eq22_nn : binA T .eql 22 .nilS .nilS = some (.bool true) := rfl
theorem eq22_sn {l : List AV} {n : Nat} {t : Tail} (h : 0 < n) : binA T .eql 22 (.slice l n t) .nilS = some (.bool false) := by
 have : binA T .eql 22 (.slice l n t) .nilS = (if 0 < n then some false else none).map .bool := rfl
 rw [this, if_pos h]; rfl
theorem ints_all (l : List Int) : (ints l).all AV.one = true := by simp [ints, List.all_eq_true]; intro x hx; rfl
theorem clone_nil : PC Tryz.prog 136 [.nilS] (.pure .nilS) := by
 refine PC.of_empty (AC.run (E_ok _) mix Tryz.func136 m136 rfl rfl rfl (Nat.le_of_ble_eq_true rfl) ?_) (by simp [bndL, AV.bnd]) rfl
 simp only [go_sem, Tryz.f136, reduceEqDiff, Nat.reduceBEq, reduceAdd, reduceIte, reduceCtorEq, reduceLeDiff]
theorem clone_pc (l : List Int) (hl : l.length ≤ 100000) (hne : 0 < l.length) : PC Tryz.prog 136 [sl l] (.tok none fun j => .slice (ints l) l.length (.tok j)) := by
 refine PC.of_tok (AC.run (E_ok _) mix Tryz.func136 m136 rfl rfl rfl (Nat.le_of_ble_eq_true rfl) ?_) (by simp [bndL, AV.bnd]) (by simp)
 have e := eq22_sn (l := ints l) (t := .unk) hne
 simp only [go_sem, e, builtinA, reduceEqDiff, Nat.reduceBEq, reduceAdd, reduceIte, reduceCtorEq, reduceLeDiff]
 rw [app_gen (e := 3) (ei := ti3) (lx := ints l) (nx := l.length) rfl rfl (by decide) (by simp [heldA, ti3]) (by omega) (ints_all l) (by simp [ti3]; omega) (by omega) (by simp [ti3])]
 simp only [go_sem, List.nil_append, Nat.zero_add, Tryz.f136, reduceEqDiff, Nat.reduceBEq, reduceAdd, reduceIte, reduceCtorEq, reduceLeDiff]
 exact ⟨0, rfl, List.mem_cons_self⟩
@[go_sem] theorem arg7 (a b c d e f g : AV) : argTS 0 [a, b, c, d, e, f, g] = [(0, a), (1, b), (2, c), (3, d), (4, e), (5, f), (6, g)] := rfl
inductive IsL : AV → List Int → Prop where
 | nil : IsL .nilS []
 | row (l : List Int) (t : Tail) (h : 0 < l.length) : IsL (.slice (ints l) l.length t) l
theorem IsL.sub {v : AV} {l : List Int} (h : IsL v l) : Sub v (sl l) := by
 cases h with
 | nil => exact Sub.nil
 | row l t h => exact Sub.unk _ _ _
theorem IsL.one {v : AV} {l : List Int} (h : IsL v l) : AV.one v = true := by cases h <;> rfl
theorem IsL.frz {v : AV} {l : List Int} (h : IsL v l) (hp : List (Option Blk)) : Frz hp v (sl l) := by
 cases h with
 | nil => exact .nil
 | row l t h => exact .unk _ _ _
theorem IsL.lnt {v : AV} {l : List Int} (h : IsL v l) (hp : List (Option Blk)) : Lnt hp v (sl l) := by
 cases h with
 | nil => exact .nil
 | row l t h => exact .unk _ _ _ (by simp)
def firstN (f : Nat → Option (List Int)) : Nat → Nat → Option (List Int)
 | _, 0 => none
 | n, r + 1 => match f n with
  | some x => some x
  | none => firstN f (n + 1) r
def searchL (p : List Int → Bool) (below : Nat) : Nat → List Int → Nat → Option (List Int)
 | 0, now, _ => if p now = true then some now else none
 | m + 1, now, fr => firstN (fun n => searchL p below m (now ++ [(n : Int)]) (n + 1)) fr (below + 1 - (fr + (m + 1)))
def shortestL (p : List Int → Bool) (below : Nat) : Option (List Int) := firstN (fun many => searchL p below many [] 0) 0 (below + 1)
def srchA (b : Nat) : AV := .func (.func 135) [] [.ref (b + 2) 0, .ref (b + 1) 0, .ref b 0, .ref (b + 3) 0]
def ShSt (H : List (Option Blk)) (below : Nat) (suits out : AV) (S : St) : Prop :=
 ∃ extra, S.heap = H ++ ([some (.cells [.int .i64 below]), some (.cells [suits]), some (.cells [out]), some (.cells [srchA H.length])] ++ extra)
theorem ShSt.at {H : List (Option Blk)} {below : Nat} {suits out : AV} {S : St} (h : ShSt H below suits out S) : cellsAt S.heap H.length = some [.int .i64 below] ∧ cellsAt S.heap (H.length + 1) = some [suits] ∧ cellsAt S.heap (H.length + 2) = some [out] ∧ cellsAt S.heap (H.length + 3) = some [srchA H.length] := by
 obtain ⟨ex, h⟩ := h
 rw [h]
 unfold cellsAt
 refine ⟨?_, ?_, ?_, ?_⟩ <;> rw [List.getElem?_append_right (by omega)]
 ·rw [Nat.sub_self]; rfl
 ·rw [show H.length + 1 - H.length = 1 by omega]; rfl
 ·rw [show H.length + 2 - H.length = 2 by omega]; rfl
 ·rw [show H.length + 3 - H.length = 3 by omega]; rfl
theorem setH_app (H : List (Option Blk)) (l : List (Option Blk)) (i : Nat) (B : Blk) : setH (H ++ l) (H.length + i) B = H ++ setH l i B := by
 induction H with
 | nil => simp
 | cons x H ih =>
  rw [List.cons_append, show (x :: H).length + i = (H.length + i) + 1 by simp; omega]
  show x :: setH (H ++ l) (H.length + i) B = _
  rw [ih]; rfl
theorem ShSt.set {H : List (Option Blk)} {below : Nat} {suits out : AV} {S : St} (h : ShSt H below suits out S) (v : AV) : ShSt H below suits v { S with heap := setH S.heap (H.length + 2) (.cells [v]) } := by
 obtain ⟨ex, h⟩ := h
 refine ⟨ex, ?_⟩
 show setH S.heap _ _ = _
 rw [h, setH_app]; rfl
theorem put_eq (S : St) (i : Nat) (B : Blk) : S.put i B = ⟨setH S.heap i B, S.nt, S.toks⟩ := by cases S; exact put_mk _ _ _ _ _
structure Suits (H : List (Option Blk)) (below : Nat) (g : FuncId) (caps : List AV) (p : List Int → Bool) : Prop where
 callable : Callable Tryz.prog g
 ok : ∀ (S : St) (out v : AV) (pts : List Int), ShSt H below (.func (.func g) [] caps) out S → IsL v pts → pts.length ≤ below → (∀ x ∈ pts, 0 ≤ x ∧ x < (below : Int)) → AC Tryz.prog g (v :: caps) S fun e S' => e = .ret (.bool (p pts)) ∧ S' = S
theorem search_ac (H : List (Option Blk)) (below : Nat) (hb : below ≤ 1000) (g : FuncId) (caps : List AV) (p : List Int → Bool) (hs : Suits H below g caps p) :
  ∀ (many : Nat) (now : List Int) (v : AV) (fr : Nat) (S : St) (out : AV), IsL v now → ShSt H below (.func (.func g) [] caps) out S → now.length + many ≤ below → fr ≤ 1000000 → (∀ x ∈ now, 0 ≤ x ∧ x < (below : Int)) →
   AC Tryz.prog 135 [v, .int .i64 fr, .int .i64 many, .ref (H.length + 2) 0, .ref (H.length + 1) 0, .ref H.length 0, .ref (H.length + 3) 0] S fun e S' =>
    match searchL p below many now fr with
    | some r => e = .ret (.bool true) ∧ ∃ v', IsL v' r ∧ ShSt H below (.func (.func g) [] caps) v' S'
    | none => e = .ret (.bool false) ∧ ∃ v', ShSt H below (.func (.func g) [] caps) v' S' := by
 intro many
 induction many with
 | zero =>
  intro now v fr S out hv hS hlen hfr hpt
  refine AC.run (Es_ok 37 S) mix Tryz.func135 m135 rfl rfl rfl (Nat.le_of_ble_eq_true rfl) ?_
  have hz : decide (((0 : Nat) : Int) = 0) = true := rfl
  obtain ⟨c0, c1, c2, c3⟩ := hS.at
  have o1 := hv.one
  have cv := cells_one o1
  have hS1 := hS.set v
  obtain ⟨d0, d1, d2, d3⟩ := hS1.at
  simp only [go_sem, hz, c0, c1, c2, c3, o1, cv, put_eq, d0, d1, d2, d3, reduceEqDiff, Nat.reduceBEq, reduceAdd, reduceIte, reduceCtorEq, reduceLeDiff]
  refine call_ac (E := Es 37 S) hs.callable (hs.ok _ v v now hS1 hv (by omega) hpt) ?_ (fun v S' hh => nomatch hh.1)
  rintro x S' ⟨hx, rfl⟩
  cases hx
  simp only [go_sem, Tryz.f135, reduceEqDiff, Nat.reduceBEq, reduceAdd, reduceIte, reduceCtorEq, reduceLeDiff]
  unfold searchL
  cases hp : p now
  ·rw [if_neg (by decide)]
   exact ⟨rfl, v, hS1⟩
  ·rw [if_pos rfl]
   exact ⟨rfl, v, hv, hS1⟩
 | succ many ih =>
  intro now v fr S out hv hS hlen hfr hpt
  refine AC.run (Es_ok 37 S) mix Tryz.func135 m135 rfl rfl rfl (Nat.le_of_ble_eq_true rfl) ?_
  have hz : decide (((many + 1 : Nat) : Int) = 0) = false := by rw [decide_eq_false_iff_not]; omega
  simp only [go_sem, hz, reduceEqDiff, Nat.reduceBEq, reduceAdd, reduceIte, reduceCtorEq, reduceLeDiff]
  refine wc_loop (fun n ts S' => ∃ k out', n = (below + 1 - (fr + (many + 1))) - k ∧ k ≤ below + 1 - (fr + (many + 1)) ∧ ts = [(0, v), (2, .int .i64 (many + 1 : Nat)), (5, .ref H.length 0), (6, .ref (H.length + 3) 0), (11, .int .i64 (fr + k : Nat))] ∧ ShSt H below (.func (.func g) [] caps) out' S' ∧
   searchL p below (many + 1) now fr = firstN (fun n => searchL p below many (now ++ [(n : Int)]) (n + 1)) (fr + k) ((below + 1 - (fr + (many + 1))) - k)) (below + 1 - (fr + (many + 1))) ⟨0, out, rfl, Nat.zero_le _, rfl, hS, by simp only [searchL, Nat.add_zero, Nat.sub_zero]⟩ ?_
  rintro n ts S' ⟨k, out', hn, hk, rfl, hS', hres⟩
  obtain ⟨c0, c1, c2, c3⟩ := hS'.at
  have w0 : IntKind.i64.wrap (((fr + k : Nat) : Int) + ((many + 1 : Nat) : Int)) = (fr + k + (many + 1) : Nat) := by rw [wrap64 (by omega)]; omega
  by_cases h' : fr + k + (many + 1) ≤ below
  ·have h1 : ((fr + k + (many + 1) : Nat) : Int) ≤ below := by omega
   obtain ⟨r, hr⟩ : ∃ r, (below + 1 - (fr + (many + 1))) - k = r + 1 := ⟨(below + 1 - (fr + (many + 1))) - k - 1, by omega⟩
   rw [hr] at hres
   unfold firstN at hres
   have w1 : IntKind.i64.wrap (((fr + k : Nat) : Int) + 1) = (fr + k + 1 : Nat) := wrap64 (by omega)
   have w2 : IntKind.i64.wrap (((many + 1 : Nat) : Int) - 1) = (many : Nat) := by rw [wrap64 (by omega)]; omega
   cases hv with
   | nil =>
    simp only [go_sem, l135_0, c0, w0, h1, decide_true, c3, srchA, reduceEqDiff, Nat.reduceBEq, reduceAdd, reduceIte, reduceCtorEq, reduceLeDiff]
    refine callq_pure (E := Es 37 S) n136 clone_nil (SubL.refl _) ?_
    have eN : appendA T S' 22 .nilS (.slice [.int .i64 (fr + k : Nat)] 1 .exact) = some (.tok none fun j => .slice [.int .i64 (fr + k : Nat)] 1 (.tok j)) := rfl
    simp only [go_sem, w1, w2, builtinA, eN, reduceEqDiff, Nat.reduceBEq, reduceAdd, reduceIte, reduceCtorEq, reduceLeDiff]
    refine call_ac (E := Es 37 S) n135 (ih [((fr + k : Nat) : Int)] _ (fr + k + 1) _ out' (show IsL (.slice (ints [((fr + k : Nat) : Int)]) [((fr + k : Nat) : Int)].length (.tok S'.nt)) _ from .row _ _ (by simp)) hS' (by simp at hlen ⊢; omega) (by omega) (fun x hx => by simp at hx; omega)) ?_ ?_
    ·intro x S2 hR
     rw [List.nil_append] at hres
     cases hq : searchL p below many [((fr + k : Nat) : Int)] (fr + k + 1) with
     | some rr =>
      rw [hq] at hR hres
      obtain ⟨hx, v', hv', hS2⟩ := hR
      cases hx
      simp only [go_sem, Tryz.f135, reduceEqDiff, Nat.reduceBEq, reduceAdd, reduceIte, reduceCtorEq, reduceLeDiff]
      rw [hres]
      exact ⟨v', hv', hS2⟩
     | none =>
      rw [hq] at hR hres
      obtain ⟨hx, v', hS2⟩ := hR
      cases hx
      simp only [go_sem, w1, reduceEqDiff, Nat.reduceBEq, reduceAdd, reduceIte, reduceCtorEq, reduceLeDiff]
      exact again_here ((below + 1 - (fr + (many + 1))) - (k + 1)) (by omega) ⟨k + 1, v', rfl, by omega, rfl, hS2, by rw [hres, show (below + 1 - (fr + (many + 1))) - (k + 1) = r by omega]; rfl⟩
    ·intro x S2 hR
     exfalso
     revert hR
     split
     ·exact fun hh => nomatch hh.1
     ·exact fun hh => nomatch hh.1
   | row _ t hne =>
    simp only [go_sem, l135_0, c0, w0, h1, decide_true, c3, srchA, reduceEqDiff, Nat.reduceBEq, reduceAdd, reduceIte, reduceCtorEq, reduceLeDiff]
    refine callq_tok (E := Es 37 S) n136 (clone_pc now (by omega) hne) (SubL.cons (Sub.unk _ _ _) (SubL.refl [])) ?_
    have eN : appendA T S' 22 (.slice (ints now) now.length (.tok S'.nt)) (.slice [.int .i64 (fr + k : Nat)] 1 .exact) = some (.tok (some S'.nt) fun j => .slice (ints now ++ [.int .i64 (fr + k : Nat)]) (now.length + 1) (.tok j)) :=
     app_gen (e := 3) (ei := ti3) (lx := [.int .i64 (fr + k : Nat)]) (nx := 1) (tl := .tok S'.nt) rfl rfl (by decide) rfl (by decide) rfl (by simp [ti3]; omega) (by omega) (by simp [ti3])
    simp only [go_sem, w1, w2, builtinA, eN, reduceEqDiff, Nat.reduceBEq, reduceAdd, reduceIte, reduceCtorEq, reduceLeDiff]
    refine ⟨List.mem_cons_self, ?_⟩
    have elist : ints now ++ [.int .i64 (fr + k : Nat)] = ints (now ++ [((fr + k : Nat) : Int)]) := by simp [ints]
    have elen : now.length + 1 = (now ++ [((fr + k : Nat) : Int)]).length := by simp
    rw [elist, elen]
    refine call_ac (E := Es 37 S) n135 (ih (now ++ [((fr + k : Nat) : Int)]) _ (fr + k + 1) _ out' (.row _ _ (by simp)) hS' (by simp; omega) (by omega) (fun x hx => by
     rcases List.mem_append.1 hx with h | h
     ·exact hpt x h
     ·simp at h; omega)) ?_ ?_
    ·intro x S2 hR
     cases hq : searchL p below many (now ++ [((fr + k : Nat) : Int)]) (fr + k + 1) with
     | some rr =>
      rw [hq] at hR hres
      obtain ⟨hx, v', hv', hS2⟩ := hR
      cases hx
      simp only [go_sem, Tryz.f135, reduceEqDiff, Nat.reduceBEq, reduceAdd, reduceIte, reduceCtorEq, reduceLeDiff]
      rw [hres]
      exact ⟨v', hv', hS2⟩
     | none =>
      rw [hq] at hR hres
      obtain ⟨hx, v', hS2⟩ := hR
      cases hx
      simp only [go_sem, w1, reduceEqDiff, Nat.reduceBEq, reduceAdd, reduceIte, reduceCtorEq, reduceLeDiff]
      exact again_here ((below + 1 - (fr + (many + 1))) - (k + 1)) (by omega) ⟨k + 1, v', rfl, by omega, rfl, hS2, by rw [hres, show (below + 1 - (fr + (many + 1))) - (k + 1) = r by omega]; rfl⟩
    ·intro x S2 hR
     exfalso
     revert hR
     split
     ·exact fun hh => nomatch hh.1
     ·exact fun hh => nomatch hh.1
  ·have h1 : ¬ ((fr + k + (many + 1) : Nat) : Int) ≤ below := by omega
   rw [show (below + 1 - (fr + (many + 1))) - k = 0 by omega] at hres
   simp only [go_sem, l135_0, c0, w0, h1, decide_false, Tryz.f135, reduceEqDiff, Nat.reduceBEq, reduceAdd, reduceIte, reduceCtorEq, reduceLeDiff]
   rw [hres]
   exact ⟨out', hS'⟩
theorem shortest_ac (S : St) (below : Nat) (hb : below ≤ 1000) (g : FuncId) (caps : List AV) (p : List Int → Bool) (hs : Suits S.heap below g caps p) :
  AC Tryz.prog 101 [.int .i64 below, .func (.func g) [] caps] S fun e S' => (∃ extra, S'.heap = S.heap ++ extra) ∧
   match shortestL p below with
   | some r => ∃ v, e = .ret (.tuple [v, .bool true]) ∧ IsL v r
   | none => e = .ret (.tuple [.nilS, .bool false]) := by
 refine AC.run (Es_ok 20 S) mix Tryz.func101 m101 rfl rfl rfl (Nat.le_of_ble_eq_true rfl) ?_
 have w0 : IntKind.i64.wrap ((below : Int) + 1) = (below + 1 : Nat) := wrap64 (by omega)
 have g0 : ∀ l, cellsAt (S.heap ++ (some (.cells [.int .i64 below]) :: l)) S.heap.length = some [.int .i64 below] := fun l => by
  unfold cellsAt; rw [List.getElem?_append_right (Nat.le_refl _), Nat.sub_self]; rfl
 have g3 : ∀ x y z w l, cellsAt (S.heap ++ (x :: y :: z :: some (.cells w) :: l)) (S.heap.length + 3) = some w := fun x y z w l => by
  unfold cellsAt; rw [List.getElem?_append_right (by omega), show S.heap.length + 3 - S.heap.length = 3 by omega]; rfl
 have s3 : ∀ x y z w B, setH (S.heap ++ [x, y, z, w]) (S.heap.length + 3) B = S.heap ++ [x, y, z, some B] := fun x y z w B => by
  rw [setH_app]; rfl
 simp only [go_sem, boxA, put_eq, List.length_append, List.append_assoc, List.cons_append, List.nil_append, w0, g0, g3, s3, reduceEqDiff, Nat.reduceBEq, reduceAdd, reduceIte, reduceCtorEq, reduceLeDiff]
 refine wc_loop (fun n ts S' => ∃ k out', n = below + 1 - k ∧ k ≤ below + 1 ∧ ts = [(6, .ref (S.heap.length + 2) 0), (7, .ref (S.heap.length + 3) 0), (11, .int .i64 (below + 1 : Nat)), (12, .int .i64 k)] ∧ ShSt S.heap below (.func (.func g) [] caps) out' S' ∧
  shortestL p below = firstN (fun many => searchL p below many [] 0) k (below + 1 - k)) (below + 1) ⟨0, .nilS, rfl, Nat.zero_le _, rfl, ⟨[], rfl⟩, rfl⟩ ?_
 rintro n ts S' ⟨k, out', hn, hk, rfl, hS', hres⟩
 obtain ⟨c0, c1, c2, c3⟩ := hS'.at
 have ext : ∀ (S2 : St) o2, ShSt S.heap below (.func (.func g) [] caps) o2 S2 → ∃ extra, S2.heap = S.heap ++ extra := fun S2 o2 ⟨ex, he⟩ => ⟨_, he⟩
 by_cases h' : k < below + 1
 ·have h1 : (k : Int) < (below + 1 : Nat) := by omega
  have h6 : IntKind.i64.wrap ((k : Int) + 1) = (k + 1 : Nat) := wrap64 (by omega)
  obtain ⟨r, hr⟩ : ∃ r, below + 1 - k = r + 1 := ⟨below + 1 - k - 1, by omega⟩
  rw [hr] at hres
  unfold firstN at hres
  simp only [go_sem, l101_0, h1, decide_true, c3, srchA, reduceEqDiff, Nat.reduceBEq, reduceAdd, reduceIte, reduceCtorEq, reduceLeDiff]
  refine call_ac (E := Es 20 S) n135 (search_ac S.heap below hb g caps p hs k [] .nilS 0 S' out' .nil hS' (by simp; omega) (by omega) (fun x hx => by cases hx)) ?_ ?_
  ·intro x S2 hR
   cases hq : searchL p below k [] 0 with
   | some rr =>
    rw [hq] at hR hres
    obtain ⟨hx, v', hv', hS2⟩ := hR
    cases hx
    obtain ⟨e0, e1, e2, e3⟩ := hS2.at
    simp only [go_sem, e2, Tryz.f101, reduceEqDiff, Nat.reduceBEq, reduceAdd, reduceIte, reduceCtorEq, reduceLeDiff]
    rw [hres]
    exact ⟨ext _ _ hS2, v', rfl, hv'⟩
   | none =>
    rw [hq] at hR hres
    obtain ⟨hx, v', hS2⟩ := hR
    cases hx
    simp only [go_sem, h6, reduceEqDiff, Nat.reduceBEq, reduceAdd, reduceIte, reduceCtorEq, reduceLeDiff]
    exact again_here (below + 1 - (k + 1)) (by omega) ⟨k + 1, v', rfl, by omega, rfl, hS2, by rw [hres, show below + 1 - (k + 1) = r by omega]⟩
  ·intro x S2 hR
   exfalso
   revert hR
   split
   ·exact fun hh => nomatch hh.1
   ·exact fun hh => nomatch hh.1
 ·have h1 : ¬ (k : Int) < (below + 1 : Nat) := by omega
  rw [show below + 1 - k = 0 by omega] at hres
  simp only [go_sem, l101_0, h1, decide_false, Tryz.f101, reduceEqDiff, Nat.reduceBEq, reduceAdd, reduceIte, reduceCtorEq, reduceLeDiff]
  rw [hres]
  exact ⟨ext _ _ hS', trivial⟩
end Go.Av.Fx
end
section
namespace Go.Av.Fx
open Go Go.Av Go.Av.Tb Go.Proofs
open Go.Fw (Sq ent Bd Mat)
theorem Plan1_pc (l : LLine) (h : Ln l) (L : List Theft) (hL : L.length ≤ 1000) (hs : ∀ t ∈ L, t.1.length ≤ 1000) (pts : List Int) (hp : PtsOk l pts) (off : Int) (ho : 0 ≤ off ∧ off ≤ 20) :
  PC Tryz.prog 102 [sl pts, .eptr (lnC l L) 0, .eptr [.int .i64 off] 0] (.pure (.bool (tellsB l L pts off))) := by
 refine PC.of_empty (AC.run (E_ok _) mix Tryz.func102 m102 rfl rfl rfl (Nat.le_of_ble_eq_true rfl) ?_) (by simp [bndL, AV.bnd]) rfl
 simp only [go_sem, reduceEqDiff, Nat.reduceBEq, reduceAdd, reduceIte, reduceCtorEq, reduceLeDiff]
 refine cp n100 (tells_pc l h L hL hs pts hp off ho) (SubL.refl _) ?_
 simp only [go_sem, Tryz.f102, reduceEqDiff, Nat.reduceBEq, reduceAdd, reduceIte, reduceCtorEq, reduceLeDiff]
def planL (l : LLine) (off : Int) : Option (List Int) := shortestL (fun pts => tellsB l (theftsL l) pts off) (l.gives.length + 1)
def planA (l : LLine) (off : Int) : AV := if askE l (inB off 0 20) = 0 then (match planL l off with | some r => .tuple [sl r, .int .i64 0] | none => .tuple [.nilS, .int .i64 5]) else .tuple [.nilS, .int .i64 (askE l (inB off 0 20))]
theorem planA_bnd (l : LLine) (off : Int) : (planA l off).bnd 0 0 = true := by
 unfold planA
 repeat' split
 all_goals simp [bndL, AV.bnd]
theorem Frz.two {h : List (Option Blk)} {a b a' b' : AV} (h1 : Frz h a a') (h2 : Frz h b b') : Frz h (.tuple [a, b]) (.tuple [a', b']) :=
 .tuple _ _ rfl fun j x y hx hy => by
  match j, hx, hy with
  | 0, hx, hy => simp only [List.getElem?_cons_zero, Option.some.injEq] at hx hy; subst hx; subst hy; exact h1
  | 1, hx, hy => simp only [List.getElem?_cons_succ, List.getElem?_cons_zero, Option.some.injEq] at hx hy; subst hx; subst hy; exact h2
  | j + 2, hx, hy => simp at hx
theorem Plan_pc (l : LLine) (ok : okLine l) (off : Int) : PC Tryz.prog 48 [lineA l, .int .i64 off] (.pure (planA l off)) := by
 refine PC.of_frz (AC.run (E_ok _) mix Tryz.func48 m48 rfl rfl rfl (Nat.le_of_ble_eq_true rfl) ?_) (by simp [bndL, AV.bnd]) (planA_bnd l off)
 simp only [go_sem, boxA, reduceEqDiff, Nat.reduceBEq, reduceAdd, reduceIte, reduceCtorEq, reduceLeDiff]
 refine qp n95 (isOff_pc off) (SubL.refl _) ?_
 rw [show (decide (off ≥ 0) && decide (off ≤ (20 : Int))) = inB off 0 20 from rfl]
 generalize hf : inB off 0 20 = fine
 simp only [go_sem, reduceEqDiff, Nat.reduceBEq, reduceAdd, reduceIte, reduceCtorEq, reduceLeDiff]
 refine qp n75 (asked_pc l ok fine) (SubL.refl _) ?_
 cases h : isLineB l
 ·simp only [go_sem, askedA, h, extractA, Tryz.f48, reduceEqDiff, Nat.reduceBEq, reduceAdd, reduceIte, reduceCtorEq, reduceLeDiff]
  refine ⟨_, rfl, ?_⟩
  simp only [planA, askE, h, hf]; exact .same _
 cases fine
 ·simp only [go_sem, askedA, h, extractA, Tryz.f48, reduceEqDiff, Nat.reduceBEq, reduceAdd, reduceIte, reduceCtorEq, reduceLeDiff]
  refine ⟨_, rfl, ?_⟩
  simp only [planA, askE, h, hf]; exact .same _
 cases hp : possB l
 ·simp only [go_sem, askedA, h, hp, extractA, Tryz.f48, reduceEqDiff, Nat.reduceBEq, reduceAdd, reduceIte, reduceCtorEq, reduceLeDiff]
  refine ⟨_, rfl, ?_⟩
  simp only [planA, askE, h, hf, hp]; exact .same _
 have hln := isLine_iff.1 h
 have hpts := hln.pts
 have e1 : planA l off = (match planL l off with | some r => .tuple [sl r, .int .i64 0] | none => .tuple [.nilS, .int .i64 5]) := by simp only [planA, askE, h, hp, hf]; rfl
 rw [e1]
 have w0 : IntKind.i64.wrap ((l.gives.length : Int) + 1) = (l.gives.length + 1 : Nat) := wrap64 (by omega)
 simp only [go_sem, askedA, h, hp, extractA, builtinA, w0, reduceEqDiff, Nat.reduceBEq, reduceAdd, reduceIte, reduceCtorEq, reduceLeDiff]
 refine cac n101 (shortest_ac _ (l.gives.length + 1) (by omega) 102 [.ref 2 0, .ref 1 0] (fun pts => tellsB l (theftsL l) pts off) ⟨n102, ?_⟩) ?_ ?_
 ·intro S out v pts hS hv hlen hx
  obtain ⟨ex, hS⟩ := hS
  have h2 : S.heap[2]? = some (some (.cells (lnC l (theftsL l)))) := by rw [hS]; rfl
  have h1 : S.heap[1]? = some (some (.cells [.int .i64 off])) := by rw [hS]; rfl
  exact (Plan1_pc l hln (theftsL l) (by have := theftsL_len hln; omega) (fun t ht => by have := theft_len ht; omega) pts ⟨by omega, fun x hx' => by have := hx x hx'; omega⟩ off (inB_iff.1 hf)).lend
   (LntL.cons (hv.lnt _) (LntL.cons (.ptr 2 0 _ h2 (by simp [bndL, AV.bnd])) (LntL.cons (.ptr 1 0 _ h1 (by simp [bndL, AV.bnd])) (LntL.nil _)))) rfl
 ·rintro x S2 ⟨⟨extra, hS2⟩, hR⟩
  rw [show shortestL (fun pts => tellsB l (theftsL l) pts off) (l.gives.length + 1) = planL l off from rfl] at hR
  cases hq : planL l off with
  | none =>
   rw [hq] at hR
   cases hR
   simp only [go_sem, extractA, un_not, Bool.not_false, Tryz.f48, reduceEqDiff, Nat.reduceBEq, reduceAdd, reduceIte, reduceCtorEq, reduceLeDiff]
   exact ⟨_, rfl, .same _⟩
  | some r =>
   rw [hq] at hR
   obtain ⟨v, hx, hv⟩ := hR
   cases hx
   simp only [go_sem, extractA, un_not, Bool.not_true, Tryz.f48, reduceEqDiff, Nat.reduceBEq, reduceAdd, reduceIte, reduceCtorEq, reduceLeDiff]
   exact ⟨_, rfl, Frz.two (hv.frz _) (.same _)⟩
 ·rintro x S2 ⟨_, hR⟩
  exfalso
  revert hR
  split
  ·rintro ⟨_, hh, _⟩; cases hh
  ·exact fun hh => nomatch hh
def groC (cs : List Cnt) : AV := match cs with
 | [] => .nilS
 | c :: cs => .slice (cnts (c :: cs)) (cs.length + 1) (.tok cs.length)
@[go_sem] theorem groC_one (cs : List Cnt) : AV.one (groC cs) = true := by cases cs <;> rfl
@[go_sem] theorem groC_cl (cs : List Cnt) : AV.cells (groC cs) = [groC cs] := cells_one (groC_one cs)
theorem groC_sub (cs : List Cnt) : Sub (groC cs) (.slice (cnts cs) cs.length .unk) := by
 cases cs with
 | nil => exact Sub.nil
 | cons c cs => exact Sub.unk _ _ _
theorem cnts_app (a b : List Cnt) : cnts a ++ cnts b = cnts (a ++ b) := by simp [cnts]
theorem sr_groC (cs : List Cnt) (c : Cnt) {q : Nat} (hq : cs.length = q) (hl : q ≤ 100000) {K : AV → St → Prop} {hK : Hold K} {h : List (Option Blk)} (next : K (groC (cs ++ [c])) ⟨h, q + 1, toksN (q + 1)⟩) :
  sr K hK (appendA T ⟨h, q, toksN q⟩ 23 (groC cs) (.slice [.int .i64 c.point, .int .i64 c.low, .int .i64 c.high] 1 .exact)) ⟨h, q, toksN q⟩ := by
 subst hq
 cases cs with
 | nil =>
  have : appendA T ⟨h, ([] : List Cnt).length, toksN ([] : List Cnt).length⟩ 23 (groC []) (.slice [.int .i64 c.point, .int .i64 c.low, .int .i64 c.high] 1 .exact) = some (.tok none (fun j => .slice [.int .i64 c.point, .int .i64 c.low, .int .i64 c.high] 1 (.tok j))) := rfl
  rw [this, sr_tok]; exact next
 | cons d cs =>
  show sr K hK (appendA T ⟨h, (d :: cs).length, toksN (d :: cs).length⟩ 23 (.slice (cnts (d :: cs)) (cs.length + 1) (.tok cs.length)) _) _
  simp only [List.length_cons] at hl
  rw [app_gen (e := 82) (ei := ti82) (lx := [.int .i64 c.point, .int .i64 c.low, .int .i64 c.high]) (nx := 1) rfl rfl (by decide) rfl (by decide) rfl (by show (cs.length + 1 + 1) * 24 ≤ _; omega) (by omega) (by rw [cnts_len]; simp [ti82]; omega)]
  rw [sr_tok_some]
  refine ⟨List.mem_cons_self, ?_⟩
  have : killTok (toksN (cs.length + 1)) (some cs.length) = [] := by simp [killTok, toksN]
  show K (.slice (cnts (d :: cs) ++ [.int .i64 c.point, .int .i64 c.low, .int .i64 c.high]) (cs.length + 1 + 1) (.tok (cs.length + 1))) ⟨h, cs.length + 1 + 1, (cs.length + 1) :: killTok (toksN (cs.length + 1)) (some cs.length)⟩
  rw [this, show cnts (d :: cs) ++ [.int .i64 c.point, .int .i64 c.low, .int .i64 c.high] = cnts (d :: cs ++ [c]) by rw [← cnts_app]; simp [cnts]]
  have e : groC (d :: cs ++ [c]) = .slice (cnts (d :: cs ++ [c])) (cs.length + 1 + 1) (.tok (cs.length + 1)) := by simp [groC]
  rw [← e]; exact next
def keepT (l : LLine) (w : List Int) (k : Nat) : List Cnt := ((List.range k).filter fun (i : Nat) => !w.contains (i : Int)).map fun i => l.counts.getD i ⟨0, 0, 0⟩
def withoutL (l : LLine) (w : List Int) : LLine := { l with counts := keepT l w l.counts.length }
theorem keepT_len (l : LLine) (w : List Int) (k : Nat) : (keepT l w k).length ≤ k := by
 unfold keepT; rw [List.length_map]; exact Nat.le_trans (List.length_filter_le _ _) (by simp)
theorem without_ln {l : LLine} (h : Ln l) (w : List Int) : Ln (withoutL l w) := by
 have h1 := keepT_len l w l.counts.length
 refine ⟨h.pts, Nat.le_trans h1 h.cts, h.least, h.most, h.taps, h.gives, fun c hc => ?_⟩
 simp only [withoutL, keepT, List.mem_map, List.mem_filter, List.mem_range] at hc
 obtain ⟨i, ⟨hi, _⟩, rfl⟩ := hc
 rw [getD_at _ hi]
 exact h.counts _ (List.getElem_mem hi)
theorem Wrong1_pc (l : LLine) (h : Ln l) (w : List Int) (hw : w.length ≤ 1000) : PC Tryz.prog 105 [sl w, .eptr (lineC l) 0] (.pure (.bool (possB (withoutL l w)))) := by
 refine PC.of_empty (AC.run (E_ok _) mix Tryz.func105 m105 rfl rfl rfl (Nat.le_of_ble_eq_true rfl) ?_) (by simp [bndL, AV.bnd]) rfl
 have hc := h.cts
 simp only [go_sem, builtinA, reduceEqDiff, Nat.reduceBEq, reduceAdd, reduceIte, reduceCtorEq, reduceLeDiff]
 refine wc_forG l.counts.length (fun k => [(0, sl w), (4, .ref 0 0), (10, .slice (cnts l.counts) l.counts.length .unk), (11, .int .i64 l.counts.length), (12, .int .i64 k)])
  (fun k => ⟨[some (.cells [sl l.gives, .int .i64 l.least, .int .i64 l.most, .int .i64 l.taps, groC (keepT l w k)])], (keepT l w k).length, toksN (keepT l w k).length⟩) rfl rfl (fun k hk => ?_) ?_
 ·refine ⟨Nat.zero_le _, Nat.zero_le _, by simp [bndTS, AV.bnd], fun i B hB => ?_, fun t ht => toksN_lt ht⟩
  match i, hB with
  | 0, hB =>
   simp at hB; subst hB
   have : (groC (keepT l w k)).bnd 1 (keepT l w k).length = true := by
    cases keepT l w k with
    | nil => rfl
    | cons c cs => simp only [groC, AV.bnd, cnts_bnd, Bool.true_and, List.length_cons]; simp
   simp [Blk.bnd, bndL, AV.bnd, this]
  | i + 1, hB => simp at hB
 intro k hk I hI
 by_cases h' : k < l.counts.length
 ·have h1 : (k : Int) < l.counts.length := by omega
  have h2 : 0 ≤ (k : Int) ∧ (k : Int) < l.counts.length := by omega
  have h3 : k * 3 + 3 ≤ (cnts l.counts).length := by rw [cnts_len]; omega
  have h5 := cnts_at l.counts k h'
  have h6 : IntKind.i64.wrap ((k : Int) + 1) = (k + 1 : Nat) := wrap64 (by omega)
  have hI' := hI h' [some (.cells (cntC l.counts[k]))]
  have ek : keepT l w (k + 1) = keepT l w k ++ (if w.contains (k : Int) = true then [] else [l.counts[k]]) := by
   unfold keepT
   rw [List.range_succ, List.filter_append, List.map_append]
   congr 1
   cases hx : w.contains (k : Int)
   ·simp only [List.filter_cons, hx, List.filter_nil, Bool.not_false, if_true, List.map_cons, List.map_nil, getD_at _ h']; rfl
   ·simp only [List.filter_cons, hx, List.filter_nil, Bool.not_true]; rfl
  rw [ek] at hI'
  have kl := keepT_len l w k
  simp only [go_sem, l105_0, h1, decide_true, h2, h3, h5, reduceEqDiff, Nat.reduceBEq, reduceAdd, reduceIte, reduceCtorEq, reduceLeDiff]
  refine cp n76 (contains_pc w (by show _ < _; omega) k) (SubL.refl _) ?_
  cases hx : w.contains (k : Int)
  ·rw [hx, if_neg (by decide)] at hI'
   simp only [go_sem, un_not, Bool.not_false, reduceEqDiff, Nat.reduceBEq, reduceAdd, reduceIte, reduceCtorEq, reduceLeDiff]
   refine sr_groC (keepT l w k) l.counts[k] rfl (by omega) ?_
   simp only [go_sem, h6, reduceEqDiff, Nat.reduceBEq, reduceAdd, reduceIte, reduceCtorEq, reduceLeDiff]
   rw [show (keepT l w k ++ [l.counts[k]]).length = (keepT l w k).length + 1 by simp] at hI'
   exact hI'
  ·rw [hx, if_pos rfl, List.append_nil] at hI'
   simp only [go_sem, un_not, Bool.not_true, h6, reduceEqDiff, Nat.reduceBEq, reduceAdd, reduceIte, reduceCtorEq, reduceLeDiff]
   exact hI'
 ·have h1 : ¬ (k : Int) < l.counts.length := by omega
  have hkl : k = l.counts.length := by omega
  subst hkl
  simp only [go_sem, l105_0, h1, decide_false, reduceEqDiff, Nat.reduceBEq, reduceAdd, reduceIte, reduceCtorEq, reduceLeDiff]
  refine cp n94 (possible_pc _ (without_ln h w)) (SubL.cons (Sub.agg (SubL.cons (Sub.refl _) (SubL.cons (Sub.refl _) (SubL.cons (Sub.refl _) (SubL.cons (Sub.refl _) (SubL.cons (groC_sub _) (SubL.refl []))))))) (SubL.refl [])) ?_
  simp only [go_sem, Tryz.f105, reduceEqDiff, Nat.reduceBEq, reduceAdd, reduceIte, reduceCtorEq, reduceLeDiff]
def wrongL (l : LLine) : List Int := (shortestL (fun w => possB (withoutL l w)) l.counts.length).getD []
def wrongA (l : LLine) : AV := if isLineB l = true then .tuple [sl (wrongL l), .int .i64 0] else .tuple [.nilS, .int .i64 2]
theorem Wrong_pc (l : LLine) (ok : okLine l) : PC Tryz.prog 54 [lineA l] (.pure (wrongA l)) := by
 refine PC.of_frz (AC.run (E_ok _) mix Tryz.func54 m54 rfl rfl rfl (Nat.le_of_ble_eq_true rfl) ?_) (by simp [bndL, AV.bnd]) (by unfold wrongA; split <;> simp [bndL, AV.bnd])
 simp only [go_sem, boxA, reduceEqDiff, Nat.reduceBEq, reduceAdd, reduceIte, reduceCtorEq, reduceLeDiff]
 refine cp n82 (isLine_pc l ok) (SubL.refl _) ?_
 cases h : isLineB l
 ·simp only [go_sem, un_not, Bool.not_false, Tryz.f54, reduceEqDiff, Nat.reduceBEq, reduceAdd, reduceIte, reduceCtorEq, reduceLeDiff]
  refine ⟨_, rfl, ?_⟩
  unfold wrongA; rw [if_neg (by rw [h]; decide)]; exact .same _
 have hln := isLine_iff.1 h
 have hc := hln.cts
 have e1 : wrongA l = .tuple [sl (wrongL l), .int .i64 0] := by unfold wrongA; rw [if_pos h]
 rw [e1]
 simp only [go_sem, un_not, Bool.not_true, builtinA, reduceEqDiff, Nat.reduceBEq, reduceAdd, reduceIte, reduceCtorEq, reduceLeDiff]
 refine cac n101 (shortest_ac _ l.counts.length (by omega) 105 [.ref 0 0] (fun w => possB (withoutL l w)) ⟨n105, ?_⟩) ?_ ?_
 ·intro S out v w hS hv hlen hx
  obtain ⟨ex, hS⟩ := hS
  have h1 : S.heap[0]? = some (some (.cells (lineC l))) := by rw [hS]; rfl
  exact (Wrong1_pc l hln w (by omega)).lend (LntL.cons (hv.lnt _) (LntL.cons (.ptr 0 0 _ h1 (by simp [bndL, AV.bnd])) (LntL.nil _))) rfl
 ·rintro x S2 ⟨⟨extra, hS2⟩, hR⟩
  cases hq : shortestL (fun w => possB (withoutL l w)) l.counts.length with
  | none =>
   rw [hq] at hR
   cases hR
   simp only [go_sem, extractA, Tryz.f54, reduceEqDiff, Nat.reduceBEq, reduceAdd, reduceIte, reduceCtorEq, reduceLeDiff]
   refine ⟨_, rfl, ?_⟩
   unfold wrongL; rw [hq]
   exact Frz.two .nil (.same _)
  | some r =>
   rw [hq] at hR
   obtain ⟨v, hx, hv⟩ := hR
   cases hx
   simp only [go_sem, extractA, Tryz.f54, reduceEqDiff, Nat.reduceBEq, reduceAdd, reduceIte, reduceCtorEq, reduceLeDiff]
   refine ⟨_, rfl, ?_⟩
   unfold wrongL; rw [hq]
   exact Frz.two (hv.frz _) (.same _)
 ·rintro x S2 ⟨_, hR⟩
  exfalso
  revert hR
  split
  ·rintro ⟨_, hh, _⟩; cases hh
  ·exact fun hh => nomatch hh
end Go.Av.Fx
end
section
namespace Go.Av.Fx
open Go Go.Av Go.Av.Tb Go.Proofs
open Go.Fw (Sq ent Bd Mat)
def firstG {α : Type} (f : Nat → Option α) : Nat → Nat → Option α
 | _, 0 => none
 | n, r + 1 => match f n with
  | some x => some x
  | none => firstG f (n + 1) r
def cntAt (l : LLine) (i : Nat) : Cnt := l.counts.getD i ⟨0, 0, 0⟩
def twoL (l : LLine) (i k : Nat) : LLine := { l with counts := [cntAt l i, cntAt l k] }
def clashAt (l : LLine) (i : Nat) (k : Nat) : Option (Nat × Nat) := if possB (twoL l i k) = true then none else some (i, k)
def clashRow (l : LLine) (i : Nat) : Option (Nat × Nat) := firstG (clashAt l i) (i + 1) (l.counts.length - (i + 1))
def clashL (l : LLine) : Option (Nat × Nat) := firstG (clashRow l) 0 l.counts.length
def clashA (l : LLine) : AV := if isLineB l = true then (match clashL l with | some (i, k) => .tuple [.int .i64 i, .int .i64 k, .int .i64 0] | none => .tuple [.int .i64 0, .int .i64 0, .int .i64 5]) else .tuple [.int .i64 0, .int .i64 0, .int .i64 2]
theorem clashA_bnd (l : LLine) : (clashA l).bnd 0 0 = true := by
 unfold clashA
 repeat' split
 all_goals rfl
theorem two_ln {l : LLine} (h : Ln l) {i k : Nat} (hi : i < l.counts.length) (hk : k < l.counts.length) : Ln (twoL l i k) := by
 refine ⟨h.pts, by simp [twoL], h.least, h.most, h.taps, h.gives, fun c hc => ?_⟩
 simp only [twoL, cntAt, getD_at _ hi, getD_at _ hk, List.mem_cons, List.not_mem_nil, or_false] at hc
 rcases hc with rfl | rfl
 ·exact h.counts _ (List.getElem_mem hi)
 ·exact h.counts _ (List.getElem_mem hk)
theorem Clash_pc (l : LLine) (ok : okLine l) : PC Tryz.prog 53 [lineA l] (.pure (clashA l)) := by
 refine PC.of_empty (AC.run (E_ok _) mix Tryz.func53 m53 rfl rfl rfl (Nat.le_of_ble_eq_true rfl) ?_) (by simp [bndL, AV.bnd]) (clashA_bnd l)
 simp only [go_sem, boxA, reduceEqDiff, Nat.reduceBEq, reduceAdd, reduceIte, reduceCtorEq, reduceLeDiff]
 refine cp n82 (isLine_pc l ok) (SubL.refl _) ?_
 cases h : isLineB l
 ·simp only [go_sem, un_not, Bool.not_false, Tryz.f53, reduceEqDiff, Nat.reduceBEq, reduceAdd, reduceIte, reduceCtorEq, reduceLeDiff]
  unfold clashA; rw [if_neg (by rw [h]; decide)]
 have hln := isLine_iff.1 h
 have hc := hln.cts
 have e1 : clashA l = (match clashL l with | some (i, k) => .tuple [.int .i64 i, .int .i64 k, .int .i64 0] | none => .tuple [.int .i64 0, .int .i64 0, .int .i64 5]) := by unfold clashA; rw [if_pos h]
 rw [e1]
 simp only [go_sem, un_not, Bool.not_true, builtinA, reduceEqDiff, Nat.reduceBEq, reduceAdd, reduceIte, reduceCtorEq, reduceLeDiff]
 refine wc_forGP l.counts.length (fun i => clashL l = firstG (clashRow l) i (l.counts.length - i)) (fun i => [(1, .ref 0 0), (5, .int .i64 0), (6, .int .i64 0), (7, .bool false), (16, .slice (cnts l.counts) l.counts.length .unk), (17, .int .i64 l.counts.length), (18, .int .i64 i)])
  (fun _ => ⟨[some (.cells (lineC l))], 0, []⟩) rfl rfl rfl (fun k hk => ?_) ?_
 ·refine ⟨Nat.zero_le _, Nat.zero_le _, by simp [bndTS, AV.bnd], fun i B hB => ?_, fun t ht => by cases ht⟩
  match i, hB with
  | 0, hB => simp at hB; subst hB; simp [Blk.bnd, bndL, AV.bnd]
  | i + 1, hB => simp at hB
 intro i hi hP I hI
 by_cases h' : i < l.counts.length
 ·have h1 : (i : Int) < l.counts.length := by omega
  have h2 : 0 ≤ (i : Int) ∧ (i : Int) < l.counts.length := by omega
  have h3 : i * 3 + 3 ≤ (cnts l.counts).length := by rw [cnts_len]; omega
  have h5 := cnts_at l.counts i h'
  have h6 : IntKind.i64.wrap ((i : Int) + 1) = (i + 1 : Nat) := wrap64 (by omega)
  have hI' := hI h'
  clear hI
  obtain ⟨r, hr⟩ : ∃ r, l.counts.length - i = r + 1 := ⟨l.counts.length - i - 1, by omega⟩
  rw [hr] at hP
  unfold firstG at hP
  have ci : cntAt l i = l.counts[i] := getD_at _ h'
  simp only [go_sem, l53_0, h1, decide_true, h2, h3, h5, h6, reduceEqDiff, Nat.reduceBEq, reduceAdd, reduceIte, reduceCtorEq, reduceLeDiff]
  refine wc_forGP (l.counts.length - (i + 1)) (fun j => clashRow l i = firstG (clashAt l i) (i + 1 + j) (l.counts.length - (i + 1) - j))
   (fun j => [(1, .ref 0 0), (5, .int .i64 0), (6, .int .i64 0), (7, .bool false), (16, .slice (cnts l.counts) l.counts.length .unk), (17, .int .i64 l.counts.length), (18, .int .i64 i), (9, .ref 1 0), (8, .int .i64 i), (10, .int .i64 (i + 1 + j : Nat))])
   (fun _ => ⟨[some (.cells (lineC l)), some (.cells (cntC l.counts[i]))], 0, []⟩) rfl rfl rfl (fun k hk => ?_) ?_
  ·refine ⟨Nat.zero_le _, Nat.zero_le _, by simp [bndTS, AV.bnd], fun i B hB => ?_, fun t ht => by cases ht⟩
   match i, hB with
   | 0, hB => simp at hB; subst hB; simp [Blk.bnd, bndL, AV.bnd]
   | 1, hB => simp at hB; subst hB; simp [Blk.bnd, bndL, AV.bnd]
   | i + 2, hB => simp at hB
  intro j hj hP2 I2 hI2
  by_cases hk' : i + 1 + j < l.counts.length
  ·have g1 : ((i + 1 + j : Nat) : Int) < l.counts.length := by omega
   have g2 : 0 ≤ ((i + 1 + j : Nat) : Int) ∧ ((i + 1 + j : Nat) : Int) < l.counts.length := by omega
   have g3 : (i + 1 + j) * 3 + 3 ≤ (cnts l.counts).length := by rw [cnts_len]; omega
   have g5 := cnts_at l.counts (i + 1 + j) hk'
   have g6 : IntKind.i64.wrap (((i + 1 + j : Nat) : Int) + 1) = (i + 1 + (j + 1) : Nat) := wrap64 (by omega)
   have ck : cntAt l (i + 1 + j) = l.counts[i + 1 + j] := getD_at _ hk'
   have hI2' := hI2 (by omega)
   clear hI2
   obtain ⟨q, hq⟩ : ∃ q, l.counts.length - (i + 1) - j = q + 1 := ⟨l.counts.length - (i + 1) - j - 1, by omega⟩
   rw [hq] at hP2
   unfold firstG at hP2
   have hl2 : ∀ (x y : Option Blk), ([x, y] : List (Option Blk)).length = 2 := fun _ _ => rfl
   simp only [go_sem, l53_1, g1, decide_true, g2, g3, g5, builtinA, reduceEqDiff, Nat.reduceBEq, reduceAdd, reduceIte, reduceCtorEq, reduceLeDiff]
   have htwo := possible_pc _ (two_ln hln h' hk')
   have ecells : ([.int .i64 l.counts[i].point, .int .i64 l.counts[i].low, .int .i64 l.counts[i].high, .int .i64 l.counts[i + 1 + j].point, .int .i64 l.counts[i + 1 + j].low, .int .i64 l.counts[i + 1 + j].high] : List AV) = cnts (twoL l i (i + 1 + j)).counts := by
    simp [twoL, ci, ck, cnts]
   rw [ecells]
   refine cp n94 htwo (SubL.cons (Sub.agg (SubL.cons (Sub.refl _) (SubL.cons (Sub.refl _) (SubL.cons (Sub.refl _) (SubL.cons (Sub.refl _) (SubL.cons (Sub.unk _ _ _) (SubL.refl []))))))) (SubL.refl [])) ?_
   cases hpo : possB (twoL l i (i + 1 + j))
   ·have hat : clashAt l i (i + 1 + j) = some (i, i + 1 + j) := by unfold clashAt; rw [hpo]; rfl
    rw [hat] at hP2
    simp only at hP2
    rw [hP2] at hP
    simp only at hP
    simp only [go_sem, un_not, Bool.not_false, Bool.not_true, Tryz.f53, reduceEqDiff, Nat.reduceBEq, reduceAdd, reduceIte, reduceCtorEq, reduceLeDiff]
    rw [hP]
   ·have hat : clashAt l i (i + 1 + j) = none := by unfold clashAt; rw [hpo]; rfl
    rw [hat] at hP2
    simp only at hP2
    simp only [go_sem, un_not, Bool.not_true, g6, reduceEqDiff, Nat.reduceBEq, reduceAdd, reduceIte, reduceCtorEq, reduceLeDiff]
    refine hI2' (by rw [hP2, show i + 1 + j + 1 = i + 1 + (j + 1) by omega, show l.counts.length - (i + 1) - (j + 1) = q by omega]) [_]
  ·have g1 : ¬ ((i + 1 + j : Nat) : Int) < l.counts.length := by omega
   rw [show l.counts.length - (i + 1) - j = 0 by omega] at hP2
   have hrow : clashRow l i = none := hP2
   rw [hrow] at hP
   simp only at hP
   simp only [go_sem, l53_1, g1, decide_false, builtinA, h6, reduceEqDiff, Nat.reduceBEq, reduceAdd, reduceIte, reduceCtorEq, reduceLeDiff]
   refine hI' (by rw [hP, show l.counts.length - (i + 1) = r by omega]) [_]
 ·have h1 : ¬ (i : Int) < l.counts.length := by omega
  rw [show l.counts.length - i = 0 by omega] at hP
  simp only [go_sem, l53_0, h1, decide_false, un_not, Bool.not_false, Tryz.f53, reduceEqDiff, Nat.reduceBEq, reduceAdd, reduceIte, reduceCtorEq, reduceLeDiff]
  rw [hP]; rfl
end Go.Av.Fx
end
section
namespace Go.Av.Fx
open Go Go.Av Go.Av.Tb Go.Proofs
open Go.Fw (Sq ent Bd Mat)
def metA (ks : List Int) : List (AV × AV) := ks.map fun k => (.int .i64 k, .bool true)
def addK (ks : List Int) (n : Int) : List Int := if ks.contains n = true then ks else ks ++ [n]
theorem find_met (n : Int) : ∀ (ks : List Int) (i : Nat), (ks.contains n = false → findA (.int .i64) (.int .i64 n) (metA ks) i = some none) ∧ (ks.contains n = true → ∃ j, findA (.int .i64) (.int .i64 n) (metA ks) i = some (some (i + j, .bool true)) ∧ ks[j]? = some n)
 | [], i => ⟨fun _ => rfl, fun h => by simp at h⟩
 | k :: ks, i => by
  have ih := find_met n ks (i + 1)
  by_cases e : n = k
  ·subst e
   refine ⟨fun h => by simp at h, fun _ => ⟨0, ?_, rfl⟩⟩
   simp [metA, findA, eqKey]
  ·have e1 : findA (.int .i64) (.int .i64 n) (metA (k :: ks)) i = findA (.int .i64) (.int .i64 n) (metA ks) (i + 1) := by
    have hb : (n == k) = false := by simp [e]
    simp only [metA, List.map_cons, findA, eqKey, if_true, hb]
   have e2 : (k :: ks).contains n = ks.contains n := by
    rw [List.contains_cons]; simp [e]
   rw [e1, e2]
   refine ⟨ih.1, fun h => ?_⟩
   obtain ⟨j, h1, h2⟩ := ih.2 h
   exact ⟨j + 1, by rw [h1, show i + 1 + j = i + (j + 1) by omega], by simpa using h2⟩
theorem mapUpd {S : St} {i : Nat} {ks : List Int} (h : S.heap[i]? = some (some (.map (metA ks)))) (n : Int) : mapUpdateA T S 160 (.map i) (.int .i64 n) (.bool true) = some (.write i (.map (metA (addK ks n))) .undef) := by
 have d1 : descOf T 160 = some (.map 3 4) := rfl
 have d2 : descOf T 3 = some (.int .i64) := rfl
 simp only [mapUpdateA, d1, d2, h, isKey, if_true]
 unfold addK
 cases hc : ks.contains n
 ·rw [((find_met n ks 0).1 hc)]
  simp [metA]
 ·obtain ⟨j, h1, h2⟩ := (find_met n ks 0).2 hc
  rw [h1]
  simp only [Nat.zero_add]
  have : (metA ks).set j (.int .i64 n, .bool true) = metA ks := by
   refine List.ext_getElem? fun q => ?_
   rw [List.getElem?_set]
   by_cases e : j = q
   ·subst e
    have hj : j < ks.length := by
     rcases Nat.lt_or_ge j ks.length with h' | h'
     ·exact h'
     ·rw [List.getElem?_eq_none h'] at h2; cases h2
    simp [metA, hj]
    have := List.getElem?_eq_getElem hj
    rw [h2] at this
    simpa using this
   ·rw [if_neg e]
  rw [this]; rfl
def susStep (n p : Nat) (lo hi : Int) (acc : Bool × List Int) (t : Theft) : Bool × List Int :=
 if (spanM t.2 n p).low > hi then acc else if (spanM t.2 n p).high < lo then acc else (true, t.1.foldl addK acc.2)
def susLo (read off : Int) : Int := if read - off > 0 then read - off else 0
def susHi (read off : Int) : Int := if read + off < 400 then read + off else 400
def susL (l : LLine) (L : List Theft) (p : Nat) (read off : Int) : Int :=
 if (L.foldl (susStep (l.gives.length + 1) p (susLo read off) (susHi read off)) (false, [])).1 = true then (L.foldl (susStep (l.gives.length + 1) p (susLo read off) (susHi read off)) (false, [])).2.length else -1
theorem suspects_pc (l : LLine) (hl : l.gives.length ≤ 1000) (L : List Theft) (hL : L.length ≤ 1000) (hsq : ∀ t ∈ L, Sq (l.gives.length + 2) t.2) (hset : ∀ t ∈ L, t.1.length ≤ 1000) (p : Nat) (hp : p ≤ l.gives.length) (read off : Int)
  (hr : 0 ≤ read ∧ read ≤ 400) (ho : 0 ≤ off ∧ off ≤ 20) : PC Tryz.prog 96 [.agg (lnC l L), .int .i64 p, .int .i64 read, .int .i64 off] (.pure (.int .i64 (susL l L p read off))) := by
 refine PC.of_empty (AC.run (E_ok _) mix Tryz.func96 m96 rfl rfl rfl (Nat.le_of_ble_eq_true rfl) ?_) (by simp [bndL, AV.bnd]) rfl
 have w1 : IntKind.i64.wrap (read - off) = read - off := wrap64 (by omega)
 have w2 : IntKind.i64.wrap (read + off) = read + off := wrap64 (by omega)
 have w3 : IntKind.i64.wrap ((l.gives.length : Int) + 1) = (l.gives.length + 1 : Nat) := wrap64 (by omega)
 simp only [go_sem, boxA, builtinA, minsA, maxsA, w1, w2, makeMapA, reduceEqDiff, Nat.reduceBEq, reduceAdd, reduceIte, reduceCtorEq, reduceLeDiff]
 rw [show (if read - off > 0 then read - off else 0) = susLo read off from rfl, show (if read + off < 400 then read + off else 400) = susHi read off from rfl]
 unfold susL
 generalize susLo read off = lo
 generalize susHi read off = hi
 refine wc_forG L.length (fun k => [(1, .int .i64 p), (4, .ref 0 0), (9, .ref 1 0), (10, .map 2), (11, .bool ((L.take k).foldl (susStep (l.gives.length + 1) p lo hi) (false, [])).1), (28, .slice (thefts L) L.length .unk), (29, .int .i64 L.length), (30, .int .i64 k)])
  (fun k => ⟨[some (.cells (lnC l L)), some (.cells [.int .i64 lo, .int .i64 hi]), some (.map (metA ((L.take k).foldl (susStep (l.gives.length + 1) p lo hi) (false, [])).2))], 0, []⟩) rfl rfl (fun k hk => ?_) ?_
 ·refine ⟨Nat.zero_le _, Nat.zero_le _, by simp [bndTS, AV.bnd], fun i B hB => ?_, fun t ht => by cases ht⟩
  match i, hB with
  | 0, hB => simp at hB; subst hB; simp [Blk.bnd, bndL, AV.bnd]
  | 1, hB => simp at hB; subst hB; simp [Blk.bnd, bndL, AV.bnd]
  | 2, hB =>
   simp at hB; subst hB
   have : ∀ ks : List Int, bndE 3 0 (metA ks) = true := by
    intro ks
    induction ks with
    | nil => rfl
    | cons k ks ih => simp only [metA, List.map_cons, bndE] at ih ⊢; rw [ih]; rfl
   exact this _
  | i + 3, hB => simp at hB
 intro k hk I hI
 by_cases h' : k < L.length
 ·have h1 : (k : Int) < L.length := by omega
  have h2 : 0 ≤ (k : Int) ∧ (k : Int) < L.length := by omega
  have h3 : k * 2 + 2 ≤ (thefts L).length := by rw [thefts_len]; omega
  have h5 := thefts_at L k h'
  have h6 : IntKind.i64.wrap ((k : Int) + 1) = (k + 1 : Nat) := wrap64 (by omega)
  have hI' := hI h'
  rw [foldl_take _ _ _ _ h'] at hI'
  generalize (L.take k).foldl (susStep (l.gives.length + 1) p lo hi) (false, []) = acc at *
  have hs1 := hset _ (List.getElem_mem h')
  simp only [go_sem, l96_0, h1, decide_true, h2, h3, h5, builtinA, w3, reduceEqDiff, Nat.reduceBEq, reduceAdd, reduceIte, reduceCtorEq, reduceLeDiff]
  refine cp n89 (span_pc (hsq _ (List.getElem_mem h')) (by omega) (by omega)) (SubL.refl _) ?_
  generalize hsp : spanM L[k].2 (l.gives.length + 1) p = sp at *
  by_cases g1 : sp.low > hi
  ·have hst : susStep (l.gives.length + 1) p lo hi acc L[k] = acc := by unfold susStep; rw [hsp, if_pos g1]
   rw [hst] at hI'
   simp only [go_sem, g1, decide_true, h6, reduceEqDiff, Nat.reduceBEq, reduceAdd, reduceIte, reduceCtorEq, reduceLeDiff]
   exact hI' [_, _]
  ·by_cases g2 : sp.high < lo
   ·have hst : susStep (l.gives.length + 1) p lo hi acc L[k] = acc := by unfold susStep; rw [hsp, if_neg g1, if_pos g2]
    rw [hst] at hI'
    simp only [go_sem, g1, g2, decide_true, decide_false, h6, reduceEqDiff, Nat.reduceBEq, reduceAdd, reduceIte, reduceCtorEq, reduceLeDiff]
    exact hI' [_, _]
   ·have hst : susStep (l.gives.length + 1) p lo hi acc L[k] = (true, L[k].1.foldl addK acc.2) := by unfold susStep; rw [hsp, if_neg g1, if_neg g2]
    rw [hst] at hI'
    simp only [go_sem, g1, g2, decide_false, builtinA, reduceEqDiff, Nat.reduceBEq, reduceAdd, reduceIte, reduceCtorEq, reduceLeDiff]
    generalize L[k].1 = ss at *
    refine wc_for ss.length (fun j => [(1, .int .i64 p), (4, .ref 0 0), (9, .ref 1 0), (10, .map 2), (11, .bool true), (28, .slice (thefts L) L.length .unk), (29, .int .i64 L.length), (30, .int .i64 k), (56, sl ss), (57, .int .i64 ss.length), (58, .int .i64 j)])
     (fun j => ⟨[some (.cells (lnC l L)), some (.cells [.int .i64 lo, .int .i64 hi]), some (.map (metA ((ss.take j).foldl addK acc.2))), some (.cells [sl ss, wS L[k].2]), some (.cells [.int .i64 sp.low, .int .i64 sp.high])], 0, []⟩) rfl rfl ?_
    intro j hj I2 hI2
    by_cases hj' : j < ss.length
    ·have j1 : (j : Int) < ss.length := by omega
     have j2 : 0 ≤ (j : Int) ∧ (j : Int) < ss.length := by omega
     have j3 : ss[j]? = some ss[j] := List.getElem?_eq_getElem hj'
     have j6 : IntKind.i64.wrap ((j : Int) + 1) = (j + 1 : Nat) := wrap64 (by omega)
     have hI2' := hI2 hj'
     rw [foldl_take _ _ _ _ hj'] at hI2'
     generalize (ss.take j).foldl addK acc.2 = ks at *
     have hmu := mapUpd (S := ⟨[some (.cells (lnC l L)), some (.cells [.int .i64 lo, .int .i64 hi]), some (.map (metA ks)), some (.cells [sl ss, wS L[k].2]), some (.cells [.int .i64 sp.low, .int .i64 sp.high])], 0, []⟩) (i := 2) (ks := ks) rfl ss[j]
     simp only [go_sem, l96_1, j1, decide_true, j2, ints_get, j3, hmu, j6, reduceEqDiff, Nat.reduceBEq, reduceAdd, reduceIte, reduceCtorEq, reduceLeDiff]
     exact hI2'
    ·have j1 : ¬ (j : Int) < ss.length := by omega
     simp only [go_sem, l96_1, j1, decide_false, h6, reduceEqDiff, Nat.reduceBEq, reduceAdd, reduceIte, reduceCtorEq, reduceLeDiff]
     rw [List.take_of_length_le (by omega)]
     exact hI' [_, _]
 ·have h1 : ¬ (k : Int) < L.length := by omega
  rw [List.take_of_length_le (by omega)]
  generalize L.foldl (susStep (l.gives.length + 1) p lo hi) (false, []) = acc
  obtain ⟨can, ks⟩ := acc
  cases can
  ·simp only [go_sem, l96_0, h1, decide_false, un_not, Bool.not_false, Tryz.f96, reduceEqDiff, Nat.reduceBEq, reduceAdd, reduceIte, reduceCtorEq, reduceLeDiff]
  ·have hm : (metA ks).length = ks.length := by simp [metA]
   have hlen : lenA T (⟨[some (.cells (lnC l L)), some (.cells [.int .i64 lo, .int .i64 hi]), some (.map (metA ks))], 0, []⟩ : St) 160 (.map 2) = some (.int .i64 (metA ks).length) := rfl
   simp only [go_sem, l96_0, h1, decide_false, un_not, Bool.not_true, builtinA, hlen, hm, Tryz.f96, reduceEqDiff, Nat.reduceBEq, reduceAdd, reduceIte, reduceCtorEq, reduceLeDiff]
end Go.Av.Fx
end

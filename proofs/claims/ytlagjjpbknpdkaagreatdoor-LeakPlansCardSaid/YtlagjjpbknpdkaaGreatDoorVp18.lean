/- Part 18 of the proof. -/
import Derived.Test.YtlagjjpbknpdkaaGreatDoorVp17
set_option linter.all false
set_option linter.unusedVariables false
set_option linter.unusedSimpArgs false
set_option linter.unusedSectionVars false
open Nat (reduceEqDiff reduceAdd reduceLeDiff)
section
namespace Go.Av.Fx
open Go Go.Av Go.Av.Tb Go.Proofs
open Go.Fw (Sq ent Bd Mat)
@[go_sem] theorem y_guard_c {E : Env} {K : TS → St → Prop} {n : Nat} {rest : List MO} {b : St} {ts : TS} {S : St} (t : Nat) (g : Bool) (d : Option Nat) (o : Op) (f : Bool) (hs : List Bool) :
  preM E K (n + 1) (⟨some (t, g), d, o⟩ :: rest) (f :: hs) b ts S = sg (preM E K (n + 1) (⟨none, d, o⟩ :: rest) (f :: hs) b ts S) (preM E K n rest hs b (setT ts d .undef) S) ⟨⟩ ⟨⟩ g (ts.get t) := by
 simp only [preM, guardM, sg]
 cases ts.get t with
 | none => rfl
 | some v => cases v with
  | bool x => cases x <;> cases g <;> rfl
  | _ => rfl
theorem Lnt.funcL {h : List (Option Blk)} {fn : Fn} {c c' : List AV} (hc : LntL h c c') : Lnt h (.func fn [] c) (.func fn [] c') :=
 .func fn [] c [] c' rfl (fun j x y e => by simp at e) hc.1 hc.2
theorem closeC_sq {n : Nat} {cs : List Bd} {W : Mat} (h : closeC n cs = some W) : Sq n W := by
 unfold closeC Fw.closed at h
 split at h
 ·simp only [Option.some.injEq] at h; subst h
  have : ∀ (cs : List Bd) (W : Mat), Sq n W → Sq n (cs.foldl Fw.addc W) := by
   intro cs
   induction cs with
   | nil => exact fun W h => h
   | cons c cs ih => exact fun W h => ih _ (h.put _ _ _)
  exact (this cs _ (sq_mat0 n)).upto _ _ _
 ·cases h
theorem explM_sq {l : LLine} {s : List Int} {W : Mat} (h : explM l s = some W) : Sq (l.gives.length + 2) W := by
 unfold explM at h
 split at h
 ·cases h
 ·exact closeC_sq h
theorem thefts_ind {l : LLine} (P : List Int → Mat → Prop) (h : ∀ s W, s ∈ setsL l.gives.length → explM l s = some W → P s W) : ∀ t ∈ theftsL l, P t.1 t.2 := by
 have : ∀ (p : List (List Int)) (L : List Theft), (∀ s ∈ p, s ∈ setsL l.gives.length) → (∀ t ∈ L, P t.1 t.2) → ∀ t ∈ p.foldl (addT l) L, P t.1 t.2 := by
  intro p
  induction p with
  | nil => intro L _ h t ht; exact h t ht
  | cons s p ih =>
   intro L hp hL
   refine ih _ (fun s hs => hp s (List.mem_cons_of_mem _ hs)) fun t ht => ?_
   unfold addT at ht
   split at ht
   ·rename_i W hW
    rcases List.mem_append.1 ht with h' | h'
    ·exact hL t h'
    ·simp at h'; subst h'; exact h s W (hp s List.mem_cons_self) hW
   ·exact hL t ht
 exact this _ [] (fun s hs => hs) (fun t ht => by cases ht)
theorem theft_sq {l : LLine} : ∀ t ∈ theftsL l, Sq (l.gives.length + 2) t.2 := thefts_ind (fun _ W => Sq (l.gives.length + 2) W) fun s W _ h => explM_sq h
theorem Flows1_pc (l : LLine) (hl : l.gives.length ≤ 1000) (p : Nat) (hp : p ≤ l.gives.length) (t : Theft) (ht : Sq (l.gives.length + 2) t.2) :
  PC Tryz.prog 88 [.agg (thC t), .eptr (lineC l) 0, .eptr [.int .i64 p] 0] (.pure (spA (spanM t.2 (l.gives.length + 1) p))) := by
 refine PC.of_empty (AC.run (E_ok _) mix Tryz.func88 m88 rfl rfl rfl (Nat.le_of_ble_eq_true rfl) ?_) (by simp [bndL, AV.bnd]) rfl
 have e1 : IntKind.i64.wrap ((l.gives.length : Int) + 1) = (l.gives.length + 1 : Nat) := wrap64 (by omega)
 simp only [go_sem, boxA, builtinA, e1, reduceEqDiff, Nat.reduceBEq, reduceAdd, reduceIte, reduceCtorEq, reduceLeDiff]
 refine cp n89 (span_pc ht (by omega) (by omega)) (SubL.refl _) ?_
 simp only [go_sem, Tryz.f88, reduceEqDiff, Nat.reduceBEq, reduceAdd, reduceIte, reduceCtorEq, reduceLeDiff]
def flowsS (l : LLine) (p : Nat) : Span := overS (theftsL l) fun t => spanM t.2 (l.gives.length + 1) p
def flowsA (l : LLine) (p : Int) : AV := if askE l (inB p 0 l.gives.length) = 0 then .tuple [spA (flowsS l p.toNat), .int .i64 0] else .tuple [spA ⟨0, 0⟩, .int .i64 (askE l (inB p 0 l.gives.length))]
theorem Flows_pc (l : LLine) (ok : okLine l) (p : Int) : PC Tryz.prog 34 [lineA l, .int .i64 p] (.pure (flowsA l p)) := by
 refine PC.of_empty (AC.run (E_ok _) mix Tryz.func34 m34 rfl rfl rfl (Nat.le_of_ble_eq_true rfl) ?_) (by simp [bndL, AV.bnd]) (by unfold flowsA; split <;> simp [bndL, AV.bnd])
 simp only [go_sem, boxA, reduceEqDiff, Nat.reduceBEq, reduceAdd, reduceIte, reduceCtorEq, reduceLeDiff]
 refine qp n86 (isPoint_pc l p) (SubL.refl _) ?_
 rw [show (decide (p ≥ 0) && decide (p ≤ (l.gives.length : Int))) = inB p 0 l.gives.length from rfl]
 generalize hf : inB p 0 l.gives.length = fine
 simp only [go_sem, reduceEqDiff, Nat.reduceBEq, reduceAdd, reduceIte, reduceCtorEq, reduceLeDiff]
 refine qp n75 (asked_pc l ok fine) (SubL.refl _) ?_
 have ee : askE l fine = askE l (inB p 0 l.gives.length) := by rw [hf]
 cases h : isLineB l
 ·simp only [go_sem, askedA, h, extractA, Tryz.f34, reduceEqDiff, Nat.reduceBEq, reduceAdd, reduceIte, reduceCtorEq, reduceLeDiff]
  simp only [flowsA, askE, h]; rfl
 cases fine
 ·simp only [go_sem, askedA, h, extractA, Tryz.f34, reduceEqDiff, Nat.reduceBEq, reduceAdd, reduceIte, reduceCtorEq, reduceLeDiff]
  simp only [flowsA, askE, h, hf]; rfl
 cases hp : possB l
 ·simp only [go_sem, askedA, h, hp, extractA, Tryz.f34, reduceEqDiff, Nat.reduceBEq, reduceAdd, reduceIte, reduceCtorEq, reduceLeDiff]
  simp only [flowsA, askE, h, hf, hp]; rfl
 have hln := isLine_iff.1 h
 have hpts := hln.pts
 have hpp := inB_iff.1 hf
 obtain ⟨q, rfl⟩ : ∃ q : Nat, p = q := ⟨p.toNat, by omega⟩
 have e1 : flowsA l q = .tuple [spA (flowsS l q), .int .i64 0] := by simp only [flowsA, askE, h, hp, hf]; rfl
 rw [e1]
 simp only [go_sem, askedA, h, hp, extractA, reduceEqDiff, Nat.reduceBEq, reduceAdd, reduceIte, reduceCtorEq, reduceLeDiff]
 have hne : 0 < (theftsL l).length := by unfold possB at hp; simpa using hp
 refine cl n87 (over_pc l (theftsL l) (by have := theftsL_len hln; omega) hne 88 n88 [.eptr (lineC l) 0, .eptr [.int .i64 q] 0] (by simp [bndL, AV.bnd]) (fun t => spanM t.2 (l.gives.length + 1) q) (fun t ht => Flows1_pc l (by omega) q (by omega) t (theft_sq t ht)))
  (LntL.cons (.same _ (by simp [bndL, AV.bnd])) (LntL.cons (Lnt.funcL (LntL.cons (.ptr 0 0 _ rfl (by simp [bndL, AV.bnd])) (LntL.cons (.ptr 1 0 _ rfl (by simp [bndL, AV.bnd])) (LntL.nil _)))) (LntL.nil _))) rfl ?_
 simp only [go_sem, Tryz.f34, reduceEqDiff, Nat.reduceBEq, reduceAdd, reduceIte, reduceCtorEq, reduceLeDiff]
 rfl
theorem Lost1_pc (l : LLine) (hl : l.gives.length ≤ 1000) (a b : Nat) (hab : a ≤ b) (hb : b ≤ l.gives.length) (t : Theft) (ht : Sq (l.gives.length + 2) t.2) :
  PC Tryz.prog 90 [.agg (thC t), .eptr (lineC l) 0, .eptr [.int .i64 a] 0, .eptr [.int .i64 b] 0] (.pure (spA (lostS l t.2 a b))) := by
 refine PC.of_empty (AC.run (E_ok _) mix Tryz.func90 m90 rfl rfl rfl (Nat.le_of_ble_eq_true rfl) ?_) (by simp [bndL, AV.bnd]) rfl
 simp only [go_sem, boxA, reduceEqDiff, Nat.reduceBEq, reduceAdd, reduceIte, reduceCtorEq, reduceLeDiff]
 refine cp n85 (lost_pc ht t.1 l hl (by omega) (by omega) hab hb) (SubL.refl _) ?_
 simp only [go_sem, Tryz.f90, reduceEqDiff, Nat.reduceBEq, reduceAdd, reduceIte, reduceCtorEq, reduceLeDiff]
def lostAll (l : LLine) (a b : Nat) : Span := overS (theftsL l) fun t => lostS l t.2 a b
def fineLost (l : LLine) (a b : Int) : Bool := inB a 0 l.gives.length && inB b 0 l.gives.length && decide (a ≤ b)
def lostA (l : LLine) (a b : Int) : AV := if askE l (fineLost l a b) = 0 then .tuple [spA (lostAll l a.toNat b.toNat), .int .i64 0] else .tuple [spA ⟨0, 0⟩, .int .i64 (askE l (fineLost l a b))]
theorem Lost_pc (l : LLine) (ok : okLine l) (a b : Int) : PC Tryz.prog 35 [lineA l, .int .i64 a, .int .i64 b] (.pure (lostA l a b)) := by
 refine PC.of_empty (AC.run (E_ok _) mix Tryz.func35 m35 rfl rfl rfl (Nat.le_of_ble_eq_true rfl) ?_) (by simp [bndL, AV.bnd]) (by unfold lostA; split <;> simp [bndL, AV.bnd])
 simp only [go_sem, boxA, reduceEqDiff, Nat.reduceBEq, reduceAdd, reduceIte, reduceCtorEq, reduceLeDiff]
 refine qp n86 (isPoint_pc l a) (SubL.refl _) ?_
 rw [show (decide (a ≥ 0) && decide (a ≤ (l.gives.length : Int))) = inB a 0 l.gives.length from rfl]
 cases ha : inB a 0 l.gives.length
 ·have hf : fineLost l a b = false := by unfold fineLost; rw [ha]; rfl
  simp only [go_sem, reduceEqDiff, Nat.reduceBEq, reduceAdd, reduceIte, reduceCtorEq, reduceLeDiff]
  refine qp n75 (asked_pc l ok false) (SubL.refl _) ?_
  cases h : isLineB l
  ·simp only [go_sem, askedA, h, extractA, Tryz.f35, reduceEqDiff, Nat.reduceBEq, reduceAdd, reduceIte, reduceCtorEq, reduceLeDiff]
   simp only [lostA, askE, h, hf]; rfl
  ·simp only [go_sem, askedA, h, extractA, Tryz.f35, reduceEqDiff, Nat.reduceBEq, reduceAdd, reduceIte, reduceCtorEq, reduceLeDiff]
   simp only [lostA, askE, h, hf]; rfl
 simp only [go_sem, reduceEqDiff, Nat.reduceBEq, reduceAdd, reduceIte, reduceCtorEq, reduceLeDiff]
 refine qp n86 (isPoint_pc l b) (SubL.refl _) ?_
 rw [show (decide (b ≥ 0) && decide (b ≤ (l.gives.length : Int))) = inB b 0 l.gives.length from rfl]
 cases hb : inB b 0 l.gives.length
 ·have hf : fineLost l a b = false := by unfold fineLost; rw [ha, hb]; rfl
  simp only [go_sem, reduceEqDiff, Nat.reduceBEq, reduceAdd, reduceIte, reduceCtorEq, reduceLeDiff]
  refine qp n75 (asked_pc l ok false) (SubL.refl _) ?_
  cases h : isLineB l
  ·simp only [go_sem, askedA, h, extractA, Tryz.f35, reduceEqDiff, Nat.reduceBEq, reduceAdd, reduceIte, reduceCtorEq, reduceLeDiff]
   simp only [lostA, askE, h, hf]; rfl
  ·simp only [go_sem, askedA, h, extractA, Tryz.f35, reduceEqDiff, Nat.reduceBEq, reduceAdd, reduceIte, reduceCtorEq, reduceLeDiff]
   simp only [lostA, askE, h, hf]; rfl
 simp only [go_sem, reduceEqDiff, Nat.reduceBEq, reduceAdd, reduceIte, reduceCtorEq, reduceLeDiff]
 have hf : fineLost l a b = decide (a ≤ b) := by unfold fineLost; rw [ha, hb]; rfl
 by_cases hab : a ≤ b
 case neg =>
  rw [decide_eq_false hab] at hf
  simp only [go_sem, hab, decide_false, reduceEqDiff, Nat.reduceBEq, reduceAdd, reduceIte, reduceCtorEq, reduceLeDiff]
  refine qp n75 (asked_pc l ok false) (SubL.refl _) ?_
  cases h : isLineB l
  ·simp only [go_sem, askedA, h, extractA, Tryz.f35, reduceEqDiff, Nat.reduceBEq, reduceAdd, reduceIte, reduceCtorEq, reduceLeDiff]
   simp only [lostA, askE, h, hf]; rfl
  ·simp only [go_sem, askedA, h, extractA, Tryz.f35, reduceEqDiff, Nat.reduceBEq, reduceAdd, reduceIte, reduceCtorEq, reduceLeDiff]
   simp only [lostA, askE, h, hf]; rfl
 rw [decide_eq_true hab] at hf
 simp only [go_sem, hab, decide_true, reduceEqDiff, Nat.reduceBEq, reduceAdd, reduceIte, reduceCtorEq, reduceLeDiff]
 refine qp n75 (asked_pc l ok true) (SubL.refl _) ?_
 cases h : isLineB l
 ·simp only [go_sem, askedA, h, extractA, Tryz.f35, reduceEqDiff, Nat.reduceBEq, reduceAdd, reduceIte, reduceCtorEq, reduceLeDiff]
  simp only [lostA, askE, h, hf]; rfl
 cases hp : possB l
 ·simp only [go_sem, askedA, h, hp, extractA, Tryz.f35, reduceEqDiff, Nat.reduceBEq, reduceAdd, reduceIte, reduceCtorEq, reduceLeDiff]
  simp only [lostA, askE, h, hp, hf]; rfl
 have hln := isLine_iff.1 h
 have hpts := hln.pts
 have hpa := inB_iff.1 ha
 have hpb := inB_iff.1 hb
 obtain ⟨x, rfl⟩ : ∃ x : Nat, a = x := ⟨a.toNat, by omega⟩
 obtain ⟨y, rfl⟩ : ∃ y : Nat, b = y := ⟨b.toNat, by omega⟩
 have e1 : lostA l x y = .tuple [spA (lostAll l x y), .int .i64 0] := by simp only [lostA, askE, h, hp, hf]; rfl
 rw [e1]
 simp only [go_sem, askedA, h, hp, extractA, reduceEqDiff, Nat.reduceBEq, reduceAdd, reduceIte, reduceCtorEq, reduceLeDiff]
 have hne : 0 < (theftsL l).length := by unfold possB at hp; simpa using hp
 refine cl n87 (over_pc l (theftsL l) (by have := theftsL_len hln; omega) hne 90 n90 [.eptr (lineC l) 0, .eptr [.int .i64 x] 0, .eptr [.int .i64 y] 0] (by simp [bndL, AV.bnd]) (fun t => lostS l t.2 x y) (fun t ht => Lost1_pc l (by omega) x y (by omega) (by omega) t (theft_sq t ht)))
  (LntL.cons (.same _ (by simp [bndL, AV.bnd])) (LntL.cons (Lnt.funcL (LntL.cons (.ptr 0 0 _ rfl (by simp [bndL, AV.bnd])) (LntL.cons (.ptr 1 0 _ rfl (by simp [bndL, AV.bnd])) (LntL.cons (.ptr 2 0 _ rfl (by simp [bndL, AV.bnd])) (LntL.nil _))))) (LntL.nil _))) rfl ?_
 simp only [go_sem, Tryz.f35, reduceEqDiff, Nat.reduceBEq, reduceAdd, reduceIte, reduceCtorEq, reduceLeDiff]
 rfl
def okAt (l : LLine) (set : List Int) (i : Nat) : Bool := inB (set.getD i 0) 0 (l.gives.length - 1) && (decide (i = 0) || decide (set.getD (i - 1) 0 < set.getD i 0))
def isSetB (l : LLine) (set : List Int) : Bool := (List.range set.length).all (okAt l set)
def explA (l : LLine) (set : List Int) : AV :=
 if isLineB l = true ∧ set.length ≤ 2 then (if isSetB l set = true then (match explM l set with | some W => .tuple [spA (lostS l W 0 l.gives.length), .int .i64 0] | none => .tuple [spA ⟨0, 0⟩, .int .i64 5]) else .tuple [spA ⟨0, 0⟩, .int .i64 2]) else .tuple [spA ⟨0, 0⟩, .int .i64 2]
theorem explA_bnd (l : LLine) (set : List Int) : (explA l set).bnd 0 0 = true := by
 unfold explA
 repeat' split
 all_goals simp [bndL, AV.bnd]
theorem Explains_pc (l : LLine) (ok : okLine l) (set : List Int) (hs : okL set.length) : PC Tryz.prog 30 [lineA l, sl set] (.pure (explA l set)) := by
 refine PC.of_empty (AC.run (E_ok _) mix Tryz.func30 m30 rfl rfl rfl (Nat.le_of_ble_eq_true rfl) ?_) (by simp [bndL, AV.bnd]) (explA_bnd l set)
 simp only [go_sem, boxA, reduceEqDiff, Nat.reduceBEq, reduceAdd, reduceIte, reduceCtorEq, reduceLeDiff]
 refine cp n82 (isLine_pc l ok) (SubL.refl _) ?_
 cases h : isLineB l
 ·simp only [go_sem, un_not, Bool.not_false, Tryz.f30, reduceEqDiff, Nat.reduceBEq, reduceAdd, reduceIte, reduceCtorEq, reduceLeDiff]
  unfold explA; rw [if_neg (by rw [h]; simp)]
 ·have hln := isLine_iff.1 h
  have hpts := hln.pts
  by_cases h2 : set.length ≤ 2
  case neg =>
   have g2 : (set.length : Int) > 2 := by omega
   simp only [go_sem, un_not, Bool.not_true, builtinA, g2, decide_true, Tryz.f30, reduceEqDiff, Nat.reduceBEq, reduceAdd, reduceIte, reduceCtorEq, reduceLeDiff]
   unfold explA; rw [if_neg (by omega)]
  have g2 : ¬ (set.length : Int) > 2 := by omega
  have e0 : explA l set = if isSetB l set = true then (match explM l set with | some W => .tuple [spA (lostS l W 0 l.gives.length), .int .i64 0] | none => .tuple [spA ⟨0, 0⟩, .int .i64 5]) else .tuple [spA ⟨0, 0⟩, .int .i64 2] := by
   unfold explA; rw [if_pos ⟨h, h2⟩]
  rw [e0]
  simp only [go_sem, un_not, Bool.not_true, builtinA, g2, decide_false, reduceEqDiff, Nat.reduceBEq, reduceAdd, reduceIte, reduceCtorEq, reduceLeDiff]
  refine wc_forP set.length (fun k => ∀ i, i < k → okAt l set i = true) (fun k => [(1, sl set), (2, .ref 0 0), (4, .ref 1 0), (19, sl set), (20, .int .i64 set.length), (21, .int .i64 k)]) (fun k => ⟨[some (.cells (lineC l)), some (.cells [.int .i64 0, .int .i64 0])], 0, []⟩) (fun i hi => absurd hi (Nat.not_lt_zero _)) rfl rfl ?_
  intro k hk hP I hI
  by_cases h' : k < set.length
  ·have h1 : (k : Int) < set.length := by omega
   have h3 : 0 ≤ (k : Int) ∧ (k : Int) < set.length := by omega
   have h4 : set[k]? = some (set.getD k 0) := by rw [List.getD_eq_getElem?_getD, List.getElem?_eq_getElem h']; rfl
   have h6 : IntKind.i64.wrap ((k : Int) + 1) = (k + 1 : Nat) := wrap64 (by omega)
   have h7 : IntKind.i64.wrap ((l.gives.length : Int) - 1) = (l.gives.length : Int) - 1 := wrap64 (by omega)
   simp only [go_sem, l30_0, h1, decide_true, h3, ints_get, h4, builtinA, h7, reduceEqDiff, Nat.reduceBEq, reduceAdd, reduceIte, reduceCtorEq, reduceLeDiff]
   refine cp n83 (in_pc _ _ _) (SubL.refl _) ?_
   rw [show (decide (set.getD k 0 ≥ 0) && decide (set.getD k 0 ≤ (l.gives.length : Int) - 1)) = inB (set.getD k 0) 0 ((l.gives.length : Int) - 1) from rfl]
   have bad : okAt l set k = false → isSetB l set = false := fun hb => by
    cases hx : isSetB l set
    ·rfl
    ·unfold isSetB at hx; rw [List.all_eq_true] at hx
     have := hx k (List.mem_range.2 h'); rw [hb] at this; cases this
   cases hin : inB (set.getD k 0) 0 ((l.gives.length : Int) - 1)
   ·have hb := bad (by unfold okAt; rw [hin]; rfl)
    simp only [go_sem, un_not, Bool.not_false, Tryz.f30, reduceEqDiff, Nat.reduceBEq, reduceAdd, reduceIte, reduceCtorEq, reduceLeDiff]
    rw [hb]; rfl
   ·cases k with
    | zero =>
     have z : ¬ (((0 : Nat) : Int) > 0) := by decide
     have hk0 : okAt l set 0 = true := by unfold okAt; rw [hin]; rfl
     simp only [go_sem, un_not, Bool.not_true, z, decide_false, h6, reduceEqDiff, Nat.reduceBEq, reduceAdd, reduceIte, reduceCtorEq, reduceLeDiff]
     exact hI h' fun i hi => by rw [show i = 0 by omega]; exact hk0
    | succ j =>
     have z : (((j + 1 : Nat) : Int) > 0) := by omega
     have z2 : IntKind.i64.wrap (((j + 1 : Nat) : Int) - 1) = (j : Nat) := by rw [wrap64 (by omega)]; omega
     have z3 : 0 ≤ (j : Int) ∧ (j : Int) < set.length := by omega
     have z4 : set[j]? = some (set.getD j 0) := by rw [List.getD_eq_getElem?_getD, List.getElem?_eq_getElem (by omega)]; rfl
     simp only [go_sem, un_not, Bool.not_true, z, decide_true, z2, z3, ints_get, z4, reduceEqDiff, Nat.reduceBEq, reduceAdd, reduceIte, reduceCtorEq, reduceLeDiff]
     by_cases hc : set.getD (j + 1) 0 ≤ set.getD j 0
     ·have hb := bad (by
       unfold okAt; rw [hin]
       have : ¬ set.getD (j + 1 - 1) 0 < set.getD (j + 1) 0 := by rw [Nat.add_sub_cancel]; omega
       rw [decide_eq_false this, decide_eq_false (by omega : ¬ j + 1 = 0)]; rfl)
      simp only [go_sem, hc, decide_true, Tryz.f30, reduceEqDiff, Nat.reduceBEq, reduceAdd, reduceIte, reduceCtorEq, reduceLeDiff]
      rw [hb]; rfl
     ·have hk1 : okAt l set (j + 1) = true := by
       unfold okAt; rw [hin]
       have : set.getD (j + 1 - 1) 0 < set.getD (j + 1) 0 := by rw [Nat.add_sub_cancel]; omega
       rw [decide_eq_true this, Bool.or_true]; rfl
      simp only [go_sem, hc, decide_false, h6, reduceEqDiff, Nat.reduceBEq, reduceAdd, reduceIte, reduceCtorEq, reduceLeDiff]
      exact hI h' fun i hi => by
       by_cases e : i = j + 1
       ·subst e; exact hk1
       ·exact hP i (by omega)
  ·have h1 : ¬ (k : Int) < set.length := by omega
   have hset : isSetB l set = true := by
    unfold isSetB; rw [List.all_eq_true]; intro i hi; exact hP i (by have := List.mem_range.1 hi; omega)
   rw [hset, if_pos rfl]
   simp only [go_sem, l30_0, h1, decide_false, reduceEqDiff, Nat.reduceBEq, reduceAdd, reduceIte, reduceCtorEq, reduceLeDiff]
   refine cp n84 (explained_pc l hln set (by omega)) (SubL.refl _) ?_
   cases hx : explM l set with
   | none =>
    simp only [go_sem, closeA, extractA, un_not, Bool.not_false, Tryz.f30, reduceEqDiff, Nat.reduceBEq, reduceAdd, reduceIte, reduceCtorEq, reduceLeDiff]
   | some W =>
    simp only [go_sem, closeA, extractA, un_not, Bool.not_true, builtinA, reduceEqDiff, Nat.reduceBEq, reduceAdd, reduceIte, reduceCtorEq, reduceLeDiff]
    refine cp n85 (lost_pc (explM_sq hx) set l (by omega) (a := 0) (b := l.gives.length) (by omega) (by omega) (by omega) (Nat.le_refl _)) (SubL.refl _) ?_
    simp only [go_sem, Tryz.f30, reduceEqDiff, Nat.reduceBEq, reduceAdd, reduceIte, reduceCtorEq, reduceLeDiff]
end Go.Av.Fx
end
section
namespace Go.Av.Fx
open Go Go.Av Go.Av.Tb Go.Proofs
open Go.Fw (Sq ent Bd Mat)
theorem sr_appK {T : Tab} {S : St} {t e : TypeId} {ei : TI} {l lx : List AV} {n nx k : Nat} {x : AV} (h1 : descOf T t = some (.slice e)) (h2 : T e = some ei) (h3 : ei.size ≠ 0) (h4 : heldA S ei.size x = some (lx, nx)) (h5 : nx ≠ 0) (h6 : lx.all AV.one = true)
  (h7 : (n + nx) * ei.bytes ≤ 1099511627776) (h8 : n + nx ≤ 1099511627776) (h9 : l.length = n * ei.size) (hk : k ∈ S.toks) {K : AV → St → Prop} {hK : Hold K}
  (next : K (.slice (l ++ lx) (n + nx) (.tok S.nt)) { S with toks := S.nt :: killTok S.toks (some k), nt := S.nt + 1 }) : sr K hK (appendA T S t (.slice l n (.tok k)) x) S := by
 rw [app_gen h1 h2 h3 h4 h5 h6 h7 h8 h9, sr_tok_some]
 exact ⟨hk, next⟩
def pairB (n : Nat) (off : Int) (p : Int) : List Bd := [⟨p.toNat, n + p.toNat, 2 * off⟩, ⟨n + p.toNat, p.toNat, 2 * off⟩]
def alikeCs (l : LLine) (a b : List Int) (pts : List Int) (off : Int) : List Bd :=
 lineB l a 0 (2 * (l.gives.length + 1)) ++ lineB l b (l.gives.length + 1) (2 * (l.gives.length + 1)) ++ pts.flatMap (pairB (l.gives.length + 1) off)
def alikeB (l : LLine) (a b : List Int) (pts : List Int) (off : Int) : Bool := (closeC (2 * (l.gives.length + 1) + 1) (alikeCs l a b pts off)).isSome
def PtsOk (l : LLine) (pts : List Int) : Prop := pts.length ≤ 1000 ∧ ∀ p ∈ pts, 0 ≤ p ∧ p ≤ l.gives.length
theorem alike_pc (l : LLine) (h : Ln l) (L : List Theft) (a b : Theft) (ha : a.1.length ≤ 1000) (hb : b.1.length ≤ 1000) (pts : List Int) (hp : PtsOk l pts) (off : Int) (ho : 0 ≤ off ∧ off ≤ 20) :
  PC Tryz.prog 134 [.agg (lnC l L), .agg (thC a), .agg (thC b), sl pts, .int .i64 off] (.pure (.bool (alikeB l a.1 b.1 pts off))) := by
 have hm := h.pts
 refine PC.of_empty (AC.run (E_ok _) mix Tryz.func134 m134 rfl rfl rfl (Nat.le_of_ble_eq_true rfl) ?_) (by simp [bndL, AV.bnd]) rfl
 have e1 : IntKind.i64.wrap ((l.gives.length : Int) + 1) = (l.gives.length + 1 : Nat) := wrap64 (by omega)
 have e2 : IntKind.i64.wrap (2 * ((l.gives.length + 1 : Nat) : Int)) = (2 * (l.gives.length + 1) : Nat) := by rw [wrap64 (by omega)]; omega
 have hc := h.cts
 generalize hn : l.gives.length + 1 = n at *
 simp only [go_sem, boxA, builtinA, e1, e2, reduceEqDiff, Nat.reduceBEq, reduceAdd, reduceIte, reduceCtorEq, reduceLeDiff]
 have hA := boundsL_eq h a.1 (b := 0) (dry := 2 * n) (by omega) (by omega)
 have hB := boundsL_eq h b.1 (b := n) (dry := 2 * n) (by omega) (by omega)
 have lA := lineB_len h a.1 0 (2 * n)
 have lB := lineB_len h b.1 n (2 * n)
 have pA := bounds_pc l ⟨by omega, by omega⟩ a.1 (by show _ < _; omega) 0 (2 * n : Nat)
 rw [show ((0 : Nat) : Int) = 0 from rfl] at hA
 rw [hA] at pA
 have pB := bounds_pc l ⟨by omega, by omega⟩ b.1 (by show _ < _; omega) (n : Nat) (2 * n : Nat)
 rw [hB] at pB
 refine qt n129 pA (SubL.refl _) ?_
 simp only [go_sem, e2, reduceEqDiff, Nat.reduceBEq, reduceAdd, reduceIte, reduceCtorEq, reduceLeDiff]
 refine ct n129 pB (SubL.refl _) ?_
 simp only [go_sem, builtinA, reduceEqDiff, Nat.reduceBEq, reduceAdd, reduceIte, reduceCtorEq, reduceLeDiff]
 generalize hLA : lineB l a.1 0 (2 * n) = LA at *
 generalize hLB : lineB l b.1 n (2 * n) = LB at *
 refine sr_appK (e := 191) (ei := ti191) (lx := bnds (LB.map ofBd)) (nx := (LB.map ofBd).length) rfl rfl (by decide) (by simp [heldA, ti191, bnds_len]; omega) (by
  rw [← hLB]; unfold lineB; simp) (bnds_one _) (by simp [ti191]; omega) (by simp; omega) (by simp [ti191, bnds_len]; omega) (by simp) ?_
 rw [bnds_app, ← List.map_append]
 have hk1 : killTok [1, 0] (some 0) = [1] := rfl
 simp only [go_sem, builtinA, hk1, reduceEqDiff, Nat.reduceBEq, reduceAdd, reduceIte, reduceCtorEq, reduceLeDiff]
 refine wc_for pts.length (fun k => [(4, .int .i64 off), (11, .int .i64 n), (12, .slice (bnds ((LA ++ LB ++ (pts.take k).flatMap (pairB n off)).map ofBd)) (LA ++ LB ++ (pts.take k).flatMap (pairB n off)).length (.tok (2 + k))), (38, sl pts), (39, .int .i64 pts.length), (40, .int .i64 k)])
  (fun k => ⟨[some (.cells (lnC l L)), some (.cells (thC a)), some (.cells (thC b))], 3 + k, [2 + k, 1]⟩) (by simp) rfl ?_
 intro k hk I hI
 have hlen : (LA ++ LB ++ (pts.take k).flatMap (pairB n off)).length ≤ 10000 := by
  have : ∀ q : List Int, (q.flatMap (pairB n off)).length = 2 * q.length := by
   intro q
   induction q with
   | nil => rfl
   | cons x q ih => rw [List.flatMap_cons, List.length_append, ih]; simp [pairB]; omega
  have h1 := hp.1
  rw [List.length_append, List.length_append, this, List.length_take]; omega
 have hcs : ∀ c ∈ LA ++ LB ++ (pts.take k).flatMap (pairB n off), c.Ok 400 400 (2 * n + 1) := by
  intro c hc
  rw [List.mem_append, List.mem_append, List.mem_flatMap] at hc
  rcases hc with (hc | hc) | ⟨p, hp1, hc⟩
  ·rw [← hLA] at hc; exact lineB_ok h a.1 (by omega) (by omega) (.inr (by omega)) c hc
  ·rw [← hLB] at hc; exact lineB_ok h b.1 (by omega) (by omega) (.inr (by omega)) c hc
  ·have := hp.2 p (List.mem_of_mem_take hp1)
   simp only [pairB, List.mem_cons, List.not_mem_nil, or_false] at hc
   rcases hc with rfl | rfl
   ·exact ⟨by show p.toNat < _; omega, by show n + p.toNat < _; omega, by show p.toNat ≠ n + p.toNat; omega, by show -400 ≤ 2 * off; omega, by show 2 * off ≤ 400; omega⟩
   ·exact ⟨by show n + p.toNat < _; omega, by show p.toNat < _; omega, by show n + p.toNat ≠ p.toNat; omega, by show -400 ≤ 2 * off; omega, by show 2 * off ≤ 400; omega⟩
 have hpl := hp.1
 by_cases h' : k < pts.length
 ·have h1 : (k : Int) < pts.length := by omega
  have h2 : 0 ≤ (k : Int) ∧ (k : Int) < pts.length := by omega
  have h3 : pts[k]? = some pts[k] := List.getElem?_eq_getElem h'
  have h6 : IntKind.i64.wrap ((k : Int) + 1) = (k + 1 : Nat) := wrap64 (by omega)
  have hq := hp.2 _ (List.getElem_mem h')
  have hI' := hI h'
  rw [List.take_succ_eq_append_getElem h', List.flatMap_append] at hI'
  simp only [List.flatMap_cons, List.flatMap_nil, List.append_nil] at hI'
  generalize pts[k] = p at hq h3 hI'
  generalize hcsE : LA ++ LB ++ (pts.take k).flatMap (pairB n off) = cs at *
  have w1 : IntKind.i64.wrap ((n : Int) + p) = (n : Int) + p := wrap64 (by omega)
  have w2 : IntKind.i64.wrap (2 * off) = 2 * off := wrap64 (by omega)
  have hk2 : killTok [2 + k, 1] (some (2 + k)) = [1] := by
   simp [killTok]; omega
  have eapp : bnds (cs.map ofBd) ++ [.int .i64 p, .int .i64 ((n : Int) + p), .int .i64 (2 * off), .int .i64 ((n : Int) + p), .int .i64 p, .int .i64 (2 * off)] = bnds ((cs ++ pairB n off p).map ofBd) := by
   rw [List.map_append, ← bnds_app]
   congr 1
   have e1 : ((p.toNat : Nat) : Int) = p := by omega
   have e2 : ((n + p.toNat : Nat) : Int) = (n : Int) + p := by omega
   simp only [pairB, List.map_cons, List.map_nil, ofBd, bnds, List.flatMap_cons, List.flatMap_nil, bndC, e1, e2]; rfl
  simp only [go_sem, l134_0, h1, decide_true, h2, ints_get, h3, w1, w2, builtinA, reduceEqDiff, Nat.reduceBEq, reduceAdd, reduceIte, reduceCtorEq, reduceLeDiff]
  refine sr_appK (e := 191) (ei := ti191) (lx := [.int .i64 p, .int .i64 ((n : Int) + p), .int .i64 (2 * off), .int .i64 ((n : Int) + p), .int .i64 p, .int .i64 (2 * off)]) (nx := 2) rfl rfl (by decide) rfl (by decide) rfl (by simp [ti191]; omega) (by simp; omega) (by simp [ti191, bnds_len]; omega) List.mem_cons_self ?_
  rw [hk2, eapp]
  simp only [go_sem, h6, reduceEqDiff, Nat.reduceBEq, reduceAdd, reduceIte, reduceCtorEq, reduceLeDiff]
  rw [show LA ++ LB ++ ((pts.take k).flatMap (pairB n off) ++ pairB n off p) = cs ++ pairB n off p by rw [← hcsE]; simp only [List.append_assoc]] at hI'
  have e4 : (cs ++ pairB n off p).length = cs.length + 2 := by simp [pairB]
  rw [e4, show 2 + (k + 1) = 3 + k by omega, show 3 + (k + 1) = 3 + k + 1 by omega] at hI'
  exact hI'
 ·have h1 : ¬ (k : Int) < pts.length := by omega
  have e3 : IntKind.i64.wrap (((2 * n : Nat) : Int) + 1) = (2 * n + 1 : Nat) := by rw [wrap64 (by omega)]; omega
  rw [List.take_of_length_le (by omega)] at hlen hcs ⊢
  have hall : alikeB l a.1 b.1 pts off = (closeC (2 * n + 1) (LA ++ LB ++ pts.flatMap (pairB n off))).isSome := by
   unfold alikeB alikeCs; rw [hn, hLA, hLB]
  rw [hall]
  generalize LA ++ LB ++ pts.flatMap (pairB n off) = cs at *
  simp only [go_sem, l134_0, h1, decide_false, e2, e3, reduceEqDiff, Nat.reduceBEq, reduceAdd, reduceIte, reduceCtorEq, reduceLeDiff]
  refine cp n128 (close_pc (2 * n + 1) (by omega) (by omega) (cs.map ofBd) (by simp; omega) (of_in hcs) (of_low hcs)) (SubL.cons (Sub.refl _) (SubL.cons (by rw [List.length_map]; exact Sub.unk _ _ _) (SubL.refl []))) ?_
  rw [closeM_of]
  cases closeC (2 * n + 1) cs with
  | none => simp only [go_sem, closeA, extractA, Tryz.f134, Option.isSome_none, reduceEqDiff, Nat.reduceBEq, reduceAdd, reduceIte, reduceCtorEq, reduceLeDiff]
  | some W => simp only [go_sem, closeA, extractA, Tryz.f134, Option.isSome_some, reduceEqDiff, Nat.reduceBEq, reduceAdd, reduceIte, reduceCtorEq, reduceLeDiff]
end Go.Av.Fx
end
section
namespace Go.Av.Fx
open Go Go.Av Go.Av.Tb Go.Proofs
open Go.Fw (Sq ent Bd Mat)
theorem wc_forGP {E : Env} {c : MC} {Q : AQ} {ts : TS} {S : St} (N : Nat) (P : Nat → Prop) (f : Nat → TS) (g : Nat → St) (hP : P 0) (h0 : f 0 = ts) (h1 : g 0 = S) (hb : ∀ k, k ≤ N → Neat E.base E.bt (f k) (g k))
  (h : ∀ k, k ≤ N → P k → ∀ I : TS → St → Prop, (k < N → P (k + 1) → ∀ extra, I (f (k + 1)) ⟨(g (k + 1)).heap ++ extra, (g (k + 1)).nt, (g (k + 1)).toks⟩) → WC E c (thenQ I Q) (f k) (g k)) : WC E (.loop c) Q ts S := by
 refine wc_loop (fun n ts' S' => ∃ k, k ≤ N ∧ P k ∧ n = N - k ∧ ts' = f k ∧ S' = g k) N ⟨0, Nat.zero_le _, hP, rfl, h0.symm, h1.symm⟩ ?_
 rintro n ts' S' ⟨k, hk, hp, rfl, rfl, rfl⟩
 refine h k hk hp _ fun hlt hp' extra => ⟨N - (k + 1), by omega, .inr ⟨f (k + 1), g (k + 1), (hb _ hlt).base, (hb _ hlt).bt, ?_, ?_, k + 1, hlt, hp', rfl, rfl, rfl⟩⟩
 ·refine ⟨by simp, fun i B hB => ⟨?_, (hb _ hlt).heap i B hB⟩, Nat.le_refl _, fun t ht => ⟨ht, (hb _ hlt).toks t ht⟩⟩
  have hi : i < (g (k + 1)).heap.length := by
   rcases Nat.lt_or_ge i (g (k + 1)).heap.length with h' | h'
   ·exact h'
   ·rw [List.getElem?_eq_none h'] at hB; cases hB
  show ((g (k + 1)).heap ++ extra)[i]? = _
  rw [List.getElem?_append_left hi]; exact hB
 ·intro d v hv
  exact ⟨v, hv, Sub.refl v, bndTS_get (hb _ hlt).ts hv⟩
theorem sl_hi106 {cs : List AV} {n a : Nat} {tl : Tail} (hl : cs.length = n * 2) (h : a ≤ n) : sliceA T 106 (.slice cs n tl) none (some (.int .i64 a)) none = some (.slice (cs.take (a * 2)) a .unk) := by
 have : sliceA T 106 (.slice cs n tl) none (some (.int .i64 a)) none = if cs.length = n * 2 then (Go.Av.bnd (some (.int .i64 a)) n n).bind fun h => (Go.Av.bnd none 0 h).map fun l => .slice ((cs.drop (l * 2)).take ((h - l) * 2)) (h - l) .unk else none := rfl
 have e1 : Go.Av.bnd (some (.int .i64 (a : Nat))) n n = some a := by simp [Go.Av.bnd]; omega
 rw [this, if_pos hl, e1, Option.bind_some]
 simp [Go.Av.bnd]
theorem thefts_take (L : List Theft) (a : Nat) (h : a ≤ L.length) : (thefts L).take (a * 2) = thefts (L.take a) := by
 have e := thefts_len (L.take a)
 rw [List.length_take, Nat.min_eq_left h] at e
 have : thefts L = thefts (L.take a) ++ thefts (L.drop a) := by
  unfold thefts; rw [← List.flatMap_append, List.take_append_drop]
 rw [this, ← e, List.take_left]
def tellsB (l : LLine) (L : List Theft) (pts : List Int) (off : Int) : Bool :=
 (List.range L.length).all fun i => (List.range i).all fun j => !alikeB l (L.getD i ([], [])).1 (L.getD j ([], [])).1 pts off
theorem getD_at {α : Type} {l : List α} {k : Nat} (d : α) (h : k < l.length) : l.getD k d = l[k] := by rw [List.getD_eq_getElem?_getD, List.getElem?_eq_getElem h]; rfl
theorem tells_pc (l : LLine) (h : Ln l) (L : List Theft) (hL : L.length ≤ 1000) (hs : ∀ t ∈ L, t.1.length ≤ 1000) (pts : List Int) (hp : PtsOk l pts) (off : Int) (ho : 0 ≤ off ∧ off ≤ 20) :
  PC Tryz.prog 100 [.agg (lnC l L), sl pts, .int .i64 off] (.pure (.bool (tellsB l L pts off))) := by
 refine PC.of_empty (AC.run (E_ok _) mix Tryz.func100 m100 rfl rfl rfl (Nat.le_of_ble_eq_true rfl) ?_) (by simp [bndL, AV.bnd]) rfl
 simp only [go_sem, boxA, builtinA, reduceEqDiff, Nat.reduceBEq, reduceAdd, reduceIte, reduceCtorEq, reduceLeDiff]
 refine wc_forGP L.length (fun k => ∀ i, i < k → ∀ j, j < i → alikeB l (L.getD i ([], [])).1 (L.getD j ([], [])).1 pts off = false)
  (fun k => [(1, sl pts), (2, .int .i64 off), (3, .ref 0 0), (12, .slice (thefts L) L.length .unk), (13, .int .i64 L.length), (14, .int .i64 k)]) (fun k => ⟨[some (.cells (lnC l L))], 0, []⟩)
  (fun i hi => absurd hi (Nat.not_lt_zero _)) rfl rfl (fun k hk => ?_) ?_
 ·refine ⟨Nat.zero_le _, Nat.zero_le _, by simp [bndTS, AV.bnd], fun i B hB => ?_, fun t ht => by cases ht⟩
  match i, hB with
  | 0, hB => simp at hB; subst hB; simp [Blk.bnd, bndL, AV.bnd]
  | i + 1, hB => simp at hB
 intro i hi hP I hI
 by_cases h' : i < L.length
 ·have h1 : (i : Int) < L.length := by omega
  have h2 : 0 ≤ (i : Int) ∧ (i : Int) < L.length := by omega
  have h3 : i * 2 + 2 ≤ (thefts L).length := by rw [thefts_len]; omega
  have h5 := thefts_at L i h'
  have h6 : IntKind.i64.wrap ((i : Int) + 1) = (i + 1 : Nat) := wrap64 (by omega)
  have h7 := sl_hi106 (tl := .unk) (thefts_len L) (Nat.le_of_lt h')
  rw [thefts_take L i (by omega)] at h7
  simp only [go_sem, l100_0, h1, decide_true, h2, h3, h5, h7, builtinA, reduceEqDiff, Nat.reduceBEq, reduceAdd, reduceIte, reduceCtorEq, reduceLeDiff]
  refine wc_forGP i (fun k => ∀ j, j < k → alikeB l (L.getD i ([], [])).1 (L.getD j ([], [])).1 pts off = false)
   (fun k => [(1, sl pts), (2, .int .i64 off), (3, .ref 0 0), (12, .slice (thefts L) L.length .unk), (13, .int .i64 L.length), (14, .int .i64 i), (8, .ref 1 0), (22, .slice (thefts (L.take i)) i .unk), (23, .int .i64 i), (24, .int .i64 k)]) (fun k => ⟨[some (.cells (lnC l L)), some (.cells (thC L[i]))], 0, []⟩)
   (fun i hi => absurd hi (Nat.not_lt_zero _)) rfl rfl (fun k hk => ?_) ?_
  ·refine ⟨Nat.zero_le _, Nat.zero_le _, by simp [bndTS, AV.bnd], fun i B hB => ?_, fun t ht => by cases ht⟩
   match i, hB with
   | 0, hB => simp at hB; subst hB; simp [Blk.bnd, bndL, AV.bnd]
   | 1, hB => simp at hB; subst hB; simp [Blk.bnd, bndL, AV.bnd]
   | i + 2, hB => simp at hB
  intro j hj hP2 I2 hI2
  by_cases hji : j < i
  ·have g1 : (j : Int) < i := by omega
   have g2 : 0 ≤ (j : Int) ∧ (j : Int) < i := by omega
   have gl : (L.take i).length = i := by rw [List.length_take]; omega
   have g3 : j * 2 + 2 ≤ (thefts (L.take i)).length := by rw [thefts_len, gl]; omega
   have g5 := thefts_at (L.take i) j (by omega)
   have gx : (L.take i)[j]'(by omega) = L[j]'(by omega) := by simp
   rw [gx] at g5
   have g6 : IntKind.i64.wrap ((j : Int) + 1) = (j + 1 : Nat) := wrap64 (by omega)
   simp only [go_sem, l100_1, g1, decide_true, g2, g3, g5, reduceEqDiff, Nat.reduceBEq, reduceAdd, reduceIte, reduceCtorEq, reduceLeDiff]
   refine cp n134 (alike_pc l h L L[i] (L[j]'(by omega)) (hs _ (List.getElem_mem h')) (hs _ (List.getElem_mem (by omega))) pts hp off ho) (SubL.refl _) ?_
   have ei : L.getD i ([], []) = L[i] := getD_at _ h'
   have ej : L.getD j ([], []) = L[j]'(by omega) := getD_at _ (by omega)
   cases ha : alikeB l L[i].1 (L[j]'(by omega)).1 pts off
   ·simp only [go_sem, g6, reduceEqDiff, Nat.reduceBEq, reduceAdd, reduceIte, reduceCtorEq, reduceLeDiff]
    refine hI2 hji (fun x hx => ?_) [_]
    by_cases e : x = j
    ·subst e; rw [ei, ej]; exact ha
    ·exact hP2 x (by omega)
   ·have ht : tellsB l L pts off = false := by
     cases hx : tellsB l L pts off
     ·rfl
     ·unfold tellsB at hx
      rw [List.all_eq_true] at hx
      have := hx i (List.mem_range.2 h')
      rw [List.all_eq_true] at this
      have := this j (List.mem_range.2 hji)
      rw [ei, ej, ha] at this; cases this
    simp only [go_sem, Tryz.f100, reduceEqDiff, Nat.reduceBEq, reduceAdd, reduceIte, reduceCtorEq, reduceLeDiff]
    rw [ht]
  ·have g1 : ¬ (j : Int) < i := by omega
   simp only [go_sem, l100_1, g1, decide_false, h6, reduceEqDiff, Nat.reduceBEq, reduceAdd, reduceIte, reduceCtorEq, reduceLeDiff]
   refine hI h' (fun x hx y hy => ?_) [_]
   by_cases e : x = i
   ·subst e; exact hP2 y (by omega)
   ·exact hP x (by omega) y hy
 ·have h1 : ¬ (i : Int) < L.length := by omega
  have ht : tellsB l L pts off = true := by
   unfold tellsB
   rw [List.all_eq_true]; intro x hx
   rw [List.all_eq_true]; intro y hy
   rw [hP x (by have := List.mem_range.1 hx; omega) y (List.mem_range.1 hy)]; rfl
  simp only [go_sem, l100_0, h1, decide_false, Tryz.f100, reduceEqDiff, Nat.reduceBEq, reduceAdd, reduceIte, reduceCtorEq, reduceLeDiff]
  rw [ht]
def ptAt (l : LLine) (pts : List Int) (i : Nat) : Bool := inB (pts.getD i 0) 0 l.gives.length && (decide (i = 0) || decide (pts.getD (i - 1) 0 < pts.getD i 0))
def isPtsB (l : LLine) (pts : List Int) : Bool := (List.range pts.length).all (ptAt l pts)
def fineTells (l : LLine) (pts : List Int) (off : Int) : Bool := inB off 0 20 && isPtsB l pts
def tellsA (l : LLine) (pts : List Int) (off : Int) : AV := if askE l (fineTells l pts off) = 0 then .tuple [.bool (tellsB l (theftsL l) pts off), .int .i64 0] else .tuple [.bool false, .int .i64 (askE l (fineTells l pts off))]
theorem isPts_ok {l : LLine} {pts : List Int} (h : isPtsB l pts = true) : ∀ p ∈ pts, 0 ≤ p ∧ p ≤ l.gives.length := by
 intro p hp
 obtain ⟨i, hi, rfl⟩ := List.mem_iff_getElem.1 hp
 unfold isPtsB at h
 rw [List.all_eq_true] at h
 have := h i (List.mem_range.2 hi)
 unfold ptAt at this
 rw [Bool.and_eq_true, getD_at 0 hi] at this
 exact inB_iff.1 this.1
theorem Tells_pc (l : LLine) (ok : okLine l) (pts : List Int) (hl : pts.length ≤ 1000) (off : Int) : PC Tryz.prog 47 [lineA l, sl pts, .int .i64 off] (.pure (tellsA l pts off)) := by
 refine PC.of_empty (AC.run (E_ok _) mix Tryz.func47 m47 rfl rfl rfl (Nat.le_of_ble_eq_true rfl) ?_) (by simp [bndL, AV.bnd]) (by unfold tellsA; split <;> simp [bndL, AV.bnd])
 simp only [go_sem, boxA, reduceEqDiff, Nat.reduceBEq, reduceAdd, reduceIte, reduceCtorEq, reduceLeDiff]
 refine cp n95 (isOff_pc off) (SubL.refl _) ?_
 rw [show (decide (off ≥ 0) && decide (off ≤ (20 : Int))) = inB off 0 20 from rfl]
 simp only [go_sem, builtinA, reduceEqDiff, Nat.reduceBEq, reduceAdd, reduceIte, reduceCtorEq, reduceLeDiff]
 refine wc_for pts.length (fun k => [(1, sl pts), (2, .int .i64 off), (3, .ref 0 0), (8, .bool (inB off 0 20 && (List.range k).all (ptAt l pts))), (15, sl pts), (16, .int .i64 pts.length), (17, .int .i64 k)]) (fun k => ⟨[some (.cells (lineC l))], 0, []⟩) (by simp) rfl ?_
 intro k hk I hI
 by_cases h' : k < pts.length
 ·have h1 : (k : Int) < pts.length := by omega
  have h2 : 0 ≤ (k : Int) ∧ (k : Int) < pts.length := by omega
  have h4 : pts[k]? = some (pts.getD k 0) := by rw [getD_at 0 h', List.getElem?_eq_getElem h']
  have h6 : IntKind.i64.wrap ((k : Int) + 1) = (k + 1 : Nat) := wrap64 (by omega)
  have hI' := hI h'
  rw [List.range_succ, List.all_append, ← Bool.and_assoc] at hI'
  simp only [List.all_cons, List.all_nil, Bool.and_true] at hI'
  generalize hacc : (inB off 0 20 && (List.range k).all (ptAt l pts)) = acc at *
  cases acc
  ·rw [Bool.false_and] at hI'
   simp only [go_sem, l47_0, h1, decide_true, h2, ints_get, h4, h6, reduceEqDiff, Nat.reduceBEq, reduceAdd, reduceIte, reduceCtorEq, reduceLeDiff]
   exact hI'
  rw [Bool.true_and] at hI'
  simp only [go_sem, l47_0, h1, decide_true, h2, ints_get, h4, reduceEqDiff, Nat.reduceBEq, reduceAdd, reduceIte, reduceCtorEq, reduceLeDiff]
  refine cp n86 (isPoint_pc l _) (SubL.refl _) ?_
  rw [show (decide (pts.getD k 0 ≥ 0) && decide (pts.getD k 0 ≤ (l.gives.length : Int))) = inB (pts.getD k 0) 0 l.gives.length from rfl]
  unfold ptAt at hI'
  cases hin : inB (pts.getD k 0) 0 l.gives.length
  ·rw [hin, Bool.false_and] at hI'
   simp only [go_sem, h6, reduceEqDiff, Nat.reduceBEq, reduceAdd, reduceIte, reduceCtorEq, reduceLeDiff]
   exact hI'
  rw [hin, Bool.true_and] at hI'
  cases k with
  | zero =>
   have z : (((0 : Nat) : Int) = 0) := rfl
   simp only [go_sem, z, decide_true, h6, reduceEqDiff, Nat.reduceBEq, reduceAdd, reduceIte, reduceCtorEq, reduceLeDiff]
   exact hI'
  | succ j =>
   have z : ¬ (((j + 1 : Nat) : Int) = 0) := by omega
   have z2 : IntKind.i64.wrap (((j + 1 : Nat) : Int) - 1) = (j : Nat) := by rw [wrap64 (by omega)]; omega
   have z3 : 0 ≤ (j : Int) ∧ (j : Int) < pts.length := by omega
   have z4 : pts[j]? = some (pts.getD j 0) := by rw [getD_at 0 (by omega), List.getElem?_eq_getElem]
   rw [decide_eq_false (by omega : ¬ j + 1 = 0), Bool.false_or, Nat.add_sub_cancel] at hI'
   have z5 : decide (pts.getD (j + 1) 0 > pts.getD j 0) = decide (pts.getD j 0 < pts.getD (j + 1) 0) := rfl
   simp only [go_sem, z, decide_false, z2, z3, ints_get, z4, h6, z5, reduceEqDiff, Nat.reduceBEq, reduceAdd, reduceIte, reduceCtorEq, reduceLeDiff]
   exact hI'
 ·have h1 : ¬ (k : Int) < pts.length := by omega
  have e : (inB off 0 20 && (List.range k).all (ptAt l pts)) = fineTells l pts off := by unfold fineTells isPtsB; rw [show k = pts.length by omega]
  rw [e]
  simp only [go_sem, l47_0, h1, decide_false, reduceEqDiff, Nat.reduceBEq, reduceAdd, reduceIte, reduceCtorEq, reduceLeDiff]
  refine cp n75 (asked_pc l ok _) (SubL.refl _) ?_
  generalize hf : fineTells l pts off = fine
  cases h : isLineB l
  ·simp only [go_sem, askedA, h, extractA, Tryz.f47, reduceEqDiff, Nat.reduceBEq, reduceAdd, reduceIte, reduceCtorEq, reduceLeDiff]
   simp only [tellsA, askE, h]; rfl
  cases fine
  ·simp only [go_sem, askedA, h, extractA, Tryz.f47, reduceEqDiff, Nat.reduceBEq, reduceAdd, reduceIte, reduceCtorEq, reduceLeDiff]
   simp only [tellsA, askE, h, hf]; rfl
  cases hp : possB l
  ·simp only [go_sem, askedA, h, hp, extractA, Tryz.f47, reduceEqDiff, Nat.reduceBEq, reduceAdd, reduceIte, reduceCtorEq, reduceLeDiff]
   simp only [tellsA, askE, h, hp, hf]; rfl
  have e1 : tellsA l pts off = .tuple [.bool (tellsB l (theftsL l) pts off), .int .i64 0] := by simp only [tellsA, askE, h, hp, hf]; rfl
  rw [e1]
  have hln := isLine_iff.1 h
  unfold fineTells at hf
  rw [Bool.and_eq_true] at hf
  simp only [go_sem, askedA, h, hp, extractA, reduceEqDiff, Nat.reduceBEq, reduceAdd, reduceIte, reduceCtorEq, reduceLeDiff]
  refine cp n100 (tells_pc l hln (theftsL l) (by have := theftsL_len hln; omega) (fun t ht => by have := theft_len ht; omega) pts ⟨hl, isPts_ok hf.2⟩ off (inB_iff.1 hf.1)) (SubL.refl _) ?_
  simp only [go_sem, Tryz.f47, reduceEqDiff, Nat.reduceBEq, reduceAdd, reduceIte, reduceCtorEq, reduceLeDiff]
end Go.Av.Fx
end

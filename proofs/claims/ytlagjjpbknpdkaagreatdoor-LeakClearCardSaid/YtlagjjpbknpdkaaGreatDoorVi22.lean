/- Part 22 of the proof. -/
import Derived.Test.YtlagjjpbknpdkaaGreatDoorVi21
set_option linter.all false
set_option linter.unusedVariables false
set_option linter.unusedSimpArgs false
set_option linter.unusedSectionVars false
open Nat (reduceEqDiff reduceAdd reduceLeDiff)
section
namespace Go.Av.Fx
open Go Go.Av Go.Av.Tb Go.Proofs
theorem dec_lt {s : ByteArray} {i : Nat} (h : (s.get! i).toNat < 128) : Utf8.decode s i = ((s.get! i).toNat, 1) := by
 unfold Utf8.decode
 simp only [Nat.add_zero, if_pos h]
theorem dec_ge {s : ByteArray} {i : Nat} (h : ¬ (s.get! i).toNat < 128) : 128 ≤ (Utf8.decode s i).1 := by
 unfold Utf8.decode
 simp only [Nat.add_zero, if_neg h]
 repeat' split
 all_goals first | (show 128 ≤ 65533; decide) | (rename_i hh; simp only [Bool.and_eq_true, decide_eq_true_eq, ge_iff_le] at hh; show 128 ≤ _; omega)
def giveUp (why : ByteArray) : AV := .iface 176 (.agg [.str why])
def Gives (v : AV) : Prop := ∃ why, v = giveUp why
theorem Gives.bnd {v : AV} (h : Gives v) : v.bnd 0 0 = true := by obtain ⟨why, rfl⟩ := h; rfl
@[go_sem] theorem d176 : descOf T 176 = some ti176.desc := rfl
@[go_sem] theorem i176 : isIface ti176.desc = false := rfl
@[go_sem] theorem bd176 (a : ByteArray) : buildA T 176 [(0, .str a)] = some (.agg [.str a]) := rfl
theorem sure_ok (why : ByteArray) : PC Tryz.prog 143 [.bool true, .str why] (.pure (.tuple [])) := by
 refine PC.of_empty (AC.run (E_ok _) mix Tryz.func143 m143 rfl rfl rfl (Nat.le_of_ble_eq_true rfl) ?_) rfl rfl
 simp only [go_sem, un_not, Bool.not_true, Tryz.f143, reduceEqDiff, Nat.reduceBEq, reduceAdd, reduceIte, reduceCtorEq, reduceLeDiff]
 rfl
theorem sure_no (why : ByteArray) (S : St) : AC Tryz.prog 143 [.bool false, .str why] S fun e S' => ((∃ v, e = .ret v ∧ False) ∨ (∃ v, e = .panic v ∧ Gives v)) ∧ S' = S := by
 refine AC.of_iso (AC.run (E_ok _) mix Tryz.func143 m143 rfl rfl rfl (Nat.le_of_ble_eq_true rfl) ?_) rfl (fun _ h => h.elim) (fun _ h => h.bnd) S
 simp only [go_sem, un_not, Bool.not_false, Tryz.f143, reduceEqDiff, Nat.reduceBEq, reduceAdd, reduceIte, reduceCtorEq, reduceLeDiff]
 exact .inr ⟨_, rfl, why, rfl⟩
def isD (b : UInt8) : Bool := 48 ≤ b.toNat && b.toNat ≤ 57
def decP (x : ByteArray) : Nat → Int
 | 0 => 0
 | k + 1 => 10 * decP x k + ((x.get! k).toNat - 48)
def valW (x : ByteArray) : Int := decP x x.size
def digs (x : ByteArray) (k : Nat) : Bool := (List.range k).all fun j => isD (x.get! j)
def okW (x : ByteArray) : Bool := decide (x.size ≤ 3) && digs x x.size && decide (x.size ≠ 0) && decide (itoaB (valW x) = x)
def toldB (row : ByteArray) (kind many : Nat) : Option (List Int) :=
 if (splitL row 32).length = many + 1 ∧ (splitL row 32).head? = some (wordB kind) ∧ (splitL row 32).tail.all okW = true then some ((splitL row 32).tail.map valW) else none
theorem AC.sub {P : Program} {f : FuncId} {args : List AV} {S : St} {R R' : AEnd → St → Prop} (h : AC P f args S R) (hr : ∀ v S', R (.ret v) S' → ∃ v', Sub v v' ∧ R' (.ret v') S') (hp : ∀ v S', R (.panic v) S' → R' (.panic v) S') : AC P f args S R' := by
 intro c w vs hs hl
 refine (h c w vs hs hl).mono fun e w' ⟨ae, S', c', h1, h2, h3, h4⟩ => ?_
 cases ae with
 | ret v =>
  obtain ⟨v', s1, s2⟩ := hr v S' h2
  cases e with
  | returned x => exact ⟨.ret v', S', c', h1, s2, s1 c' x h3, h4⟩
  | panicked ch => exact h3.elim
  | outgrown => exact h3.elim
 | panic v => exact ⟨.panic v, S', c', h1, hp v S' h2, h3, h4⟩
theorem n159 : Callable Tryz.prog 159 := ⟨⟨_, Tryz.func159, by kernel_rfl, rfl⟩⟩
theorem sn {n : Nat} {S : St} {K Kp : AV → St → Prop} {h1 : Hold K} {h2 : Hold Kp} (why : ByteArray) (kp : ∀ v, Gives v → Kp v S) : sc (E n) K Kp h1 h2 (some (143, [.bool false, .str why])) S := by
 refine cac n143 (sure_no why _) (fun v S' h => ?_) (fun v S' h => ?_)
 ·obtain ⟨⟨v', _, h⟩ | ⟨v', e, _⟩, _⟩ := h
  ·exact h.elim
  ·cases e
 ·obtain ⟨⟨v', e, _⟩ | ⟨v', e, h⟩, rfl⟩ := h
  ·cases e
  ·cases e
   exact kp _ h
theorem if_congr2 {α : Type} {p q : Prop} [Decidable p] [Decidable q] {a b : α} (h : p ↔ q) : (if p then a else b) = if q then a else b := by
 by_cases hp : p
 ·rw [if_pos hp, if_pos (h.1 hp)]
 ·rw [if_neg hp, if_neg (fun hq => hp (h.2 hq))]
theorem Split_pc (s : ByteArray) (b : UInt8) (hs : s.size < 4294967281) : PC Tryz.prog 142 [.str s, .str ⟨#[b]⟩] (.pure (.slice (strs (splitL s b)) (splitL s b).length .exact)) := by
 refine PC.of_empty (AC.run (E_ok _) mix Tryz.func142 m142 rfl rfl rfl (Nat.le_of_ble_eq_true rfl) ?_) rfl (by simp [AV.bnd])
 simp only [go_sem, reduceEqDiff, Nat.reduceBEq, reduceAdd, reduceIte, reduceCtorEq, reduceLeDiff]
 refine cp n159 (genSplit_pc s b hs) (SubL.refl _) ?_
 simp only [go_sem, Tryz.f142, reduceEqDiff, Nat.reduceBEq, reduceAdd, reduceIte, reduceCtorEq, reduceLeDiff]
 rfl
theorem ba_eq (a b : ByteArray) : (a.toList == b.toList) = decide (a = b) := by
 rw [Lib.toList_data, Lib.toList_data]
 by_cases h : a = b
 ·subst h; simp
 ·rw [decide_eq_false h]
  apply beq_eq_false_iff_ne.2
  intro e
  apply h
  cases a; cases b
  simp only [ByteArray.mk.injEq]
  exact Array.toList_inj.1 e
theorem eqS (a b : ByteArray) : binA T .eql 9 (.str a) (.str b) = some (.bool (decide (a = b))) := by
 show some (AV.bool (a.toList == b.toList)) = _
 rw [ba_eq]
theorem neS (a b : ByteArray) : binA T .neq 9 (.str a) (.str b) = some (.bool (decide (a ≠ b))) := by
 show some (AV.bool !(a.toList == b.toList)) = _
 rw [ba_eq, decide_not]
theorem slS1 (a : ByteArray) (W : List ByteArray) (t : Tail) : sliceA T 141 (.slice (strs (a :: W)) (W.length + 1) t) (some (.int .i64 1)) none none = some (.slice (strs W) W.length .unk) := by
 have hd : descOf T 141 = some (.slice 9) := rfl
 have hb : bnd (some (.int .i64 1)) 0 (W.length + 1) = some 1 := by simp [bnd]; omega
 simp only [sliceA, hd, T9]
 rw [if_pos (by simp [ti9]), hb]
 rfl
theorem gro_sub (ns : List Int) : Sub (gro (ints ns)) (sl ns) := by
 cases ns with
 | nil => exact Sub.nil
 | cons a l =>
  show Sub (.slice (ints (a :: l)) ((ints l).length + 1) (.tok (ints l).length)) (.slice (ints (a :: l)) (l.length + 1) .unk)
  rw [ints_len]; exact Sub.unk _ _ _
theorem next_in {x : ByteArray} {j k : Nat} {tk : List Nat} (h : j < x.size) : Go.Av.nextA ⟨[some (.siter x j)], k, tk⟩ (.ref 0 0) = some (.write 0 (.siter x (j + (Utf8.decode x j).2)) (.tuple [.bool true, .int .i64 j, .int .i32 (Utf8.decode x j).1])) := by
 show (if j < x.size then _ else _) = _
 rw [if_pos h]
theorem next_out {x : ByteArray} {j k : Nat} {tk : List Nat} (h : ¬ j < x.size) : Go.Av.nextA ⟨[some (.siter x j)], k, tk⟩ (.ref 0 0) = some (.pure (.tuple [.bool false])) := by
 show (if j < x.size then _ else _) = _
 rw [if_neg h]
theorem wrap32 {x : Int} (h : -2147483648 ≤ x ∧ x ≤ 2147483647) : IntKind.i32.wrap x = x := by
 rw [IntKind.wrap_i32]; omega
theorem decP_pow {x : ByteArray} : ∀ {j : Nat}, digs x j = true → 0 ≤ decP x j ∧ decP x j < (10 ^ j : Nat)
 | 0, _ => by simp [decP]
 | j + 1, h => by
  unfold digs at h
  rw [List.range_succ, List.all_append, Bool.and_eq_true] at h
  have ih := decP_pow (x := x) (j := j) h.1
  have hd : 48 ≤ (x.get! j).toNat ∧ (x.get! j).toNat ≤ 57 := by simpa [isD] using h.2
  show 0 ≤ 10 * decP x j + (((x.get! j).toNat : Int) - 48) ∧ 10 * decP x j + (((x.get! j).toNat : Int) - 48) < (10 ^ (j + 1) : Nat)
  rw [Nat.pow_succ]
  omega
theorem decP_bd {x : ByteArray} {j : Nat} (h : digs x j = true) (hj : j ≤ 3) : 0 ≤ decP x j ∧ decP x j ≤ 999 := by
 have h1 := decP_pow h
 have h2 : 10 ^ j ≤ 10 ^ 3 := Nat.pow_le_pow_right (by decide) hj
 omega
theorem told_ac (row : ByteArray) (kind many : Nat) (hk : kind < 3) (hm : many ≤ 3) (hs : row.size < 4294967281) (S : St) : AC Tryz.prog 144 [.str row, .int .i64 kind, .int .i64 many] S fun e S' =>
  ((∃ v, e = .ret v ∧ ∃ ns, toldB row kind many = some ns ∧ v = sl ns) ∨ (∃ v, e = .panic v ∧ toldB row kind many = none ∧ Gives v)) ∧ S' = S := by
 refine AC.of_iso ?_ rfl (fun v ⟨ns, _, h⟩ => by subst h; simp [AV.bnd]) (fun v h => h.2.bnd) S
 refine AC.sub (R := fun e _ => (∃ v, e = .ret v ∧ ∃ ns, toldB row kind many = some ns ∧ v = gro (ints ns)) ∨ (∃ v, e = .panic v ∧ toldB row kind many = none ∧ Gives v)) ?_ ?_ ?_
 ·refine AC.run (E_ok _) mix Tryz.func144 m144 rfl rfl rfl (Nat.le_of_ble_eq_true rfl) ?_
  simp only [go_sem, reduceEqDiff, Nat.reduceBEq, reduceAdd, reduceIte, reduceCtorEq, reduceLeDiff]
  refine cp n142 (Split_pc row 32 hs) (SubL.refl _) ?_
  have w1 : IntKind.i64.wrap ((many : Int) + 1) = (many + 1 : Nat) := wrap64 (by omega)
  have hW : toldB row kind many = if (splitL row 32).length = many + 1 ∧ (splitL row 32).head? = some (wordB kind) ∧ (splitL row 32).tail.all okW = true then some ((splitL row 32).tail.map valW) else none := rfl
  rw [hW]
  clear hW
  generalize splitL row 32 = W at *
  by_cases hl : ¬ W.length = many + 1
  ·have hd : ¬ ((W.length : Int) = (many + 1 : Nat)) := by omega
   simp only [go_sem, builtinA, w1, hd, decide_false, reduceEqDiff, Nat.reduceBEq, reduceAdd, reduceIte, reduceCtorEq, reduceLeDiff]
   rw [if_neg (fun h => hl h.1)]
   exact sn row fun v h => .inr ⟨v, rfl, rfl, h⟩
  have hl : W.length = many + 1 := Decidable.not_not.1 hl
  have hd : ((W.length : Int) = (many + 1 : Nat)) := by omega
  cases W with
  | nil => simp at hl
  | cons a W =>
   have hl' : W.length = many := by simpa using hl
   have hW2 : (if (a :: W).length = many + 1 ∧ (a :: W).head? = some (wordB kind) ∧ (a :: W).tail.all okW = true then some ((a :: W).tail.map valW) else none) = if a = wordB kind ∧ W.all okW = true then some (W.map valW) else none := by
    simp [hl']
   rw [hW2]
   clear hW2
   have hd : decide (((W.length + 1 : Nat) : Int) = (many + 1 : Nat)) = true := decide_eq_true (by omega)
   have z : (0 : Int) < ((W.length + 1 : Nat) : Int) := by omega
   have hk3 : indexA T 181 (.agg [.str (wordB 0), .str (wordB 1), .str (wordB 2)]) (.int .i64 kind) = some (.str (wordB kind)) := by
    match kind, hk with
    | 0, _ => rfl
    | 1, _ => rfl
    | 2, _ => rfl
   simp only [go_sem, builtinA, w1, hd, decide_true, z, Int.le_refl, and_true, Int.toNat_zero, strs_get, Option.map_some, reduceEqDiff, Nat.reduceBEq, reduceAdd, reduceIte, reduceCtorEq, reduceLeDiff]
   refine qp n146 words_pc (SubL.refl _) ?_
   simp only [go_sem, builtinA, hk3, eqS, strs_get, Option.map_some, reduceEqDiff, Nat.reduceBEq, reduceAdd, reduceIte, reduceCtorEq, reduceLeDiff]
   by_cases ha : ¬ a = wordB kind
   ·rw [decide_eq_false ha, if_neg (fun h => ha h.1)]
    exact sn row fun v h => .inr ⟨v, rfl, rfl, h⟩
   have ha : a = wordB kind := Decidable.not_not.1 ha
   rw [decide_eq_true ha, if_congr2 (by simp [ha] : (a = wordB kind ∧ W.all okW = true) ↔ W.all okW = true)]
   refine cp n143 (sure_ok row) (SubL.refl _) ?_
   simp only [go_sem, builtinA, slS1, reduceEqDiff, Nat.reduceBEq, reduceAdd, reduceIte, reduceCtorEq, reduceLeDiff]
   clear hk3 ha hd z hl
   refine wc_forGP W.length (fun k => (W.take k).all okW = true) (fun k => [(8, gro (ints ((W.take k).map valW))), (33, .slice (strs W) W.length .unk), (34, .int .i64 W.length), (35, .int .i64 k)]) (fun k => ⟨[], k, toksN k⟩) rfl rfl rfl (fun k hk => ?_) ?_
   ·have e : (ints ((W.take k).map valW)).length = k := by simp; omega
    have e2 := gro_bnd (n := 0) (l := ints ((W.take k).map valW)) (ints_bnd _ _ _)
    rw [e] at e2
    refine ⟨Nat.zero_le _, Nat.zero_le _, by show (AV.bnd 0 k (gro (ints ((W.take k).map valW))) && bndTS 0 k _) = true; rw [e2]; simp [bndTS, AV.bnd], fun i B hB => by simp at hB, fun t ht => toksN_lt ht⟩
   intro k hkk hP I hI
   have elen : (ints ((W.take k).map valW)).length = k := by simp; omega
   by_cases h' : k < W.length
   ·have h1 : (k : Int) < W.length := by omega
    have h2 : 0 ≤ (k : Int) ∧ (k : Int) < W.length := by omega
    have h3 : W[k]? = some W[k] := List.getElem?_eq_getElem h'
    have h4 : IntKind.i64.wrap ((k : Int) + 1) = (k + 1 : Nat) := wrap64 (by omega)
    simp only [go_sem, l144_0, h1, decide_true, h2, strs_get, h3, rangeA, reduceEqDiff, Nat.reduceBEq, reduceAdd, reduceIte, reduceCtorEq, reduceLeDiff]
    have hall : okW W[k] = false → (if W.all okW = true then some (W.map valW) else none) = none := fun h => by
     rw [if_neg]
     intro ha
     rw [List.all_eq_true] at ha
     have := ha _ (List.getElem_mem h')
     rw [h] at this; cases this
    have hstep : okW W[k] = true → (W.take (k + 1)).all okW = true := fun h => by
     rw [List.take_succ_eq_append_getElem h', List.all_append, hP]; simp [h]
    have hmap : (W.take (k + 1)).map valW = (W.take k).map valW ++ [valW W[k]] := by
     rw [List.take_succ_eq_append_getElem h', List.map_append]; rfl
    rw [hmap] at hI
    generalize W[k] = x at *
    refine wc_forP x.size (fun j => digs x j = true ∧ (j ≠ 0 → x.size ≤ 3)) (fun j => [(8, gro (ints ((W.take k).map valW))), (33, .slice (strs W) W.length .unk), (34, .int .i64 W.length), (35, .int .i64 k), (10, .str x), (11, .int .i64 (decP x j)), (40, .ref 0 0)]) (fun j => ⟨[some (.siter x j)], k, toksN k⟩) ⟨rfl, fun h => absurd rfl h⟩ rfl rfl ?_
    rintro j hj ⟨hD, hS⟩ I2 hI2
    by_cases h'' : j < x.size
    ·by_cases hd : isD (x.get! j) = true
     ·have hd2 : 48 ≤ (x.get! j).toNat ∧ (x.get! j).toNat ≤ 57 := by simpa [isD] using hd
      have g1 := dec_lt (s := x) (i := j) (by omega)
      have g2 : ((x.get! j).toNat : Int) ≥ 48 := by omega
      have g3 : ((x.get! j).toNat : Int) ≤ 57 := by omega
      have hn := next_in (k := k) (tk := toksN k) h''
      rw [g1] at hn
      by_cases hs3 : x.size ≤ 3
      ·have g4 : (x.size : Int) ≤ 3 := by omega
       have hdb := decP_bd hD (by omega)
       have hnext : digs x (j + 1) = true := by unfold digs at hD ⊢; rw [List.range_succ, List.all_append, hD]; simp [hd]
       have w5 : IntKind.i64.wrap (10 * decP x j) = 10 * decP x j := wrap64 (by omega)
       have w6 : IntKind.i32.wrap (((x.get! j).toNat : Int) - 48) = ((x.get! j).toNat : Int) - 48 := wrap32 (by omega)
       have w7 : IntKind.i64.wrap (((x.get! j).toNat : Int) - 48) = ((x.get! j).toNat : Int) - 48 := wrap64 (by omega)
       have w8 : IntKind.i64.wrap (10 * decP x j + (((x.get! j).toNat : Int) - 48)) = 10 * decP x j + (((x.get! j).toNat : Int) - 48) := wrap64 (by omega)
       simp only [go_sem, l144_1, hn, extractA, builtinA, g2, g3, g4, decide_true, reduceEqDiff, Nat.reduceBEq, reduceAdd, reduceIte, reduceCtorEq, reduceLeDiff]
       refine cp n143 (sure_ok x) (SubL.refl _) ?_
       simp only [go_sem, convA, w5, w6, w7, w8, reduceEqDiff, Nat.reduceBEq, reduceAdd, reduceIte, reduceCtorEq, reduceLeDiff]
       exact hI2 h'' ⟨hnext, fun _ => hs3⟩
      ·have g4 : ¬ (x.size : Int) ≤ 3 := by omega
       have hf : okW x = false := by unfold okW; rw [decide_eq_false hs3]; rfl
       simp only [go_sem, l144_1, hn, extractA, builtinA, g2, g3, g4, decide_true, decide_false, reduceEqDiff, Nat.reduceBEq, reduceAdd, reduceIte, reduceCtorEq, reduceLeDiff]
       refine sn x fun v h => ?_
       exact .inr ⟨v, rfl, hall hf, h⟩
     ·have hd2 : ¬ (48 ≤ (x.get! j).toNat ∧ (x.get! j).toNat ≤ 57) := by simpa [isD] using hd
      have hf : okW x = false := by
       have : digs x x.size = false := by
        unfold digs
        rw [List.all_eq_false]
        exact ⟨j, List.mem_range.2 h'', hd⟩
       unfold okW; rw [this]; simp
      have hr : ¬ (48 ≤ (Utf8.decode x j).1 ∧ (Utf8.decode x j).1 ≤ 57) := by
       by_cases hb : (x.get! j).toNat < 128
       ·rw [dec_lt hb]; exact hd2
       ·have := dec_ge hb; omega
      have hn := next_in (k := k) (tk := toksN k) h''
      generalize Utf8.decode x j = D at *
      by_cases c1 : (D.1 : Int) ≥ 48
      ·have c2 : ¬ (D.1 : Int) ≤ 57 := by omega
       simp only [go_sem, l144_1, hn, extractA, builtinA, c1, c2, decide_true, decide_false, reduceEqDiff, Nat.reduceBEq, reduceAdd, reduceIte, reduceCtorEq, reduceLeDiff]
       refine sn x fun v h => ?_
       exact .inr ⟨v, rfl, hall hf, h⟩
      ·simp only [go_sem, l144_1, hn, extractA, builtinA, c1, decide_true, decide_false, reduceEqDiff, Nat.reduceBEq, reduceAdd, reduceIte, reduceCtorEq, reduceLeDiff]
       refine sn x fun v h => ?_
       exact .inr ⟨v, rfl, hall hf, h⟩
    ·have e : j = x.size := by omega
     subst e
     clear hI2 hj
     have hn := next_out (k := k) (tk := toksN k) h''
     simp only [go_sem, l144_1, hn, extractA, reduceEqDiff, Nat.reduceBEq, reduceAdd, reduceIte, reduceCtorEq, reduceLeDiff]
     have hne := neS x ⟨#[]⟩
     by_cases h0 : x.size = 0
     ·have hx : ¬ x ≠ ⟨#[]⟩ := fun hn => hn (by
       cases x with
       | mk d => simp only [ByteArray.mk.injEq]; exact Array.eq_empty_of_size_eq_zero h0)
      have hf : okW x = false := by unfold okW; rw [decide_eq_false (p := x.size ≠ 0) (fun hn => hn h0)]; simp
      rw [decide_eq_false hx] at hne
      simp only [go_sem, hne, reduceEqDiff, Nat.reduceBEq, reduceAdd, reduceIte, reduceCtorEq, reduceLeDiff]
      refine sn x fun v h => ?_
      exact .inr ⟨v, rfl, hall hf, h⟩
     have hx : x ≠ ⟨#[]⟩ := fun hn => h0 (by rw [hn]; rfl)
     rw [decide_eq_true hx] at hne
     have hs3 := hS h0
     have hdb := decP_bd hD hs3
     simp only [go_sem, hne, reduceEqDiff, Nat.reduceBEq, reduceAdd, reduceIte, reduceCtorEq, reduceLeDiff]
     refine cp n139 (Itoa_pc _ (by omega) (by omega)) (SubL.refl _) ?_
     simp only [go_sem, eqS, reduceEqDiff, Nat.reduceBEq, reduceAdd, reduceIte, reduceCtorEq, reduceLeDiff]
     by_cases hi : itoaB (decP x x.size) = x
     ·have hok : okW x = true := by unfold okW valW; rw [decide_eq_true hs3, hD, decide_eq_true h0, decide_eq_true hi]; rfl
      rw [decide_eq_true hi]
      refine cp n143 (sure_ok x) (SubL.refl _) ?_
      simp only [go_sem, builtinA, reduceEqDiff, Nat.reduceBEq, reduceAdd, reduceIte, reduceCtorEq, reduceLeDiff]
      refine sr_gro22 _ _ _ elen (by omega) ?_
      simp only [go_sem, h4, reduceEqDiff, Nat.reduceBEq, reduceAdd, reduceIte, reduceCtorEq, reduceLeDiff]
      have hI' := hI h' (hstep hok) [some (.siter x x.size)]
      rw [show ints ((W.take k).map valW ++ [valW x]) = ints ((W.take k).map valW) ++ [.int .i64 (valW x)] by simp [ints]] at hI'
      exact hI'
     ·have hf : okW x = false := by unfold okW valW; rw [decide_eq_false hi]; simp
      rw [decide_eq_false hi]
      refine sn x fun v h => ?_
      exact .inr ⟨v, rfl, hall hf, h⟩
   ·have h1 : ¬ (k : Int) < W.length := by omega
    have e : k = W.length := by omega
    subst e
    rw [List.take_length] at hP
    simp only [go_sem, l144_0, h1, decide_false, Tryz.f144, hP, List.take_length, reduceEqDiff, Nat.reduceBEq, reduceAdd, reduceIte, reduceCtorEq, reduceLeDiff]
    exact .inl ⟨_, rfl, _, rfl, rfl⟩
 ·rintro v S' (⟨v', e, ns, h1, h2⟩ | ⟨v', e, _⟩)
  ·cases e; exact ⟨sl ns, by rw [h2]; exact gro_sub ns, .inl ⟨_, rfl, ns, h1, rfl⟩⟩
  ·cases e
 ·rintro v S' (⟨v', e, _⟩ | h)
  ·cases e
  ·exact .inr h
end Go.Av.Fx
end
section
namespace Go.Av.Fx
open Go Go.Av Go.Av.Tb Go.Proofs
def stretchW (r : ByteArray) : Bool := Lib.hasPrefix r.data.toList (wordB 1).data.toList
def stepR (l : LLine) (r : ByteArray) : Option LLine :=
 if stretchW r = true then (toldB r 1 1).map fun ns => { l with gives := l.gives ++ [ns.getD 0 0] }
 else (toldB r 2 3).map fun ns => { l with counts := l.counts ++ [⟨ns.getD 0 0, ns.getD 1 0, ns.getD 2 0⟩] }
def foldR (l : LLine) : List ByteArray → Option LLine
 | [] => some l
 | r :: rs => (stepR l r).bind fun l' => foldR l' rs
def parsedB (s : ByteArray) : Option LLine :=
 if 3 ≤ (splitL s 10).length then
  (toldB ((splitL s 10).headD ByteArray.empty) 0 3).bind fun ns =>
   (foldR ⟨[], ns.getD 0 0, ns.getD 1 0, ns.getD 2 0, []⟩ ((splitL s 10).tail.take ((splitL s 10).length - 3))).bind fun l =>
    if textB l = s then some l else none
 else none
def grt (l : List AV) (n t : Nat) : AV := match n with
 | 0 => .nilS
 | n + 1 => .slice l (n + 1) (.tok t)
@[go_sem] theorem grt_one (l : List AV) (n t : Nat) : AV.one (grt l n t) = true := by cases n <;> rfl
@[go_sem] theorem grt_cl (l : List AV) (n t : Nat) : AV.cells (grt l n t) = [grt l n t] := cells_one (grt_one l n t)
theorem grt_sub (l : List AV) (n t : Nat) (h : l.length = 0 ∨ n ≠ 0) : Sub (grt l n t) (.slice l n .unk) := by
 cases n with
 | zero =>
  rcases h with h | h
  ·rw [List.eq_nil_of_length_eq_zero h]; exact Sub.nil
  ·exact absurd rfl h
 | succ n => exact Sub.unk _ _ _
structure Push (S : St) (own : Option Nat) (toks' : List Nat) : Prop where
 kept : ∀ t ∈ S.toks, own ≠ some t → t ∈ toks'
 new : S.nt ∈ toks'
 old : ∀ t ∈ toks', t = S.nt ∨ t ∈ S.toks
theorem sr_push {t e : TypeId} {ei : TI} (h1 : descOf T t = some (.slice e)) (h2 : T e = some ei) (h3 : ei.size ≠ 0) (h4 : ei.bytes ≤ 100) {S : St} {l lx : List AV} {n k : Nat} (hl : l.length = n * ei.size) (hx : lx.length = ei.size) (h6 : lx.all AV.one = true) (hn : n ≤ 100000)
  (hmem : n ≠ 0 → k ∈ S.toks) (hnil : appendA T S t .nilS (.slice lx 1 .exact) = some (.tok none fun j => .slice lx 1 (.tok j))) {K : AV → St → Prop} {hK : Hold K}
  (next : ∀ toks', Push S (if n = 0 then none else some k) toks' → K (grt (l ++ lx) (n + 1) S.nt) ⟨S.heap, S.nt + 1, toks'⟩) : sr K hK (appendA T S t (grt l n k) (.slice lx 1 .exact)) S := by
 cases n with
 | zero =>
  have : l = [] := List.eq_nil_of_length_eq_zero (by omega)
  subst this
  show sr K hK (appendA T S t .nilS _) S
  rw [hnil, sr_tok]
  exact next _ ⟨fun t ht _ => List.mem_cons_of_mem _ ht, List.mem_cons_self, fun t ht => by simpa using ht⟩
 | succ n =>
  show sr K hK (appendA T S t (.slice l (n + 1) (.tok k)) _) S
  have hh : heldA S ei.size (.slice lx 1 .exact) = some (lx, 1) := by
   show (if lx.length = 1 * ei.size then some (lx, 1) else none) = _
   rw [if_pos (by omega)]
  rw [app_gen (e := e) (ei := ei) (lx := lx) (nx := 1) h1 h2 h3 hh (by decide) h6 (by
   have : (n + 1 + 1) * ei.bytes ≤ (n + 1 + 1) * 100 := Nat.mul_le_mul_left _ h4
   omega) (by omega) hl]
  rw [sr_tok_some]
  refine ⟨hmem (by omega), next _ ⟨fun t ht hne => ?_, List.mem_cons_self, fun t ht => ?_⟩⟩
  ·have : t ≠ k := fun e => hne (by rw [e]; rfl)
   exact List.mem_cons_of_mem _ (by simp [killTok, ht, this])
  ·rcases List.mem_cons.1 ht with h | h
   ·exact .inl h
   ·exact .inr (by simp [killTok] at h; exact h.1)
theorem splitB_size (sep : ByteArray) : ∀ (k : Nat) (s r : ByteArray), r ∈ Lib.splitB sep 0 k s → r.size ≤ s.size
 | 0, s, r, h => by simp [Lib.splitB] at h; subst h; exact Nat.le_refl _
 | k + 1, s, r, h => by
  unfold Lib.splitB at h
  split at h
  ·simp at h; subst h; exact Nat.le_refl _
  ·rcases List.mem_cons.1 h with h | h
   ·subst h; rw [ByteArray.size_extract]; omega
   ·have := splitB_size sep k _ r h
    rw [ByteArray.size_extract] at this; omega
theorem splitL_size {s r : ByteArray} {b : UInt8} (h : r ∈ splitL s b) : r.size ≤ s.size := splitB_size _ _ _ _ h
theorem splitL_len (s : ByteArray) (b : UInt8) : (splitL s b).length ≤ s.size + 2 := by
 have hlen := Lib.splitB_all ⟨#[b]⟩ (Nat.le_refl 1) 0 _ s rfl
 have hle := Lib.countB_le ⟨#[b]⟩ (Nat.le_refl 1) s.size s (Nat.le_refl _)
 show (Lib.splitB ⟨#[b]⟩ 0 (Lib.countB s ⟨#[b]⟩) s).length ≤ _
 omega
theorem okW_bd {x : ByteArray} (h : okW x = true) : 0 ≤ valW x ∧ valW x ≤ 999 := by
 unfold okW at h
 simp only [Bool.and_eq_true, decide_eq_true_eq] at h
 exact decP_bd h.1.1.2 h.1.1.1
theorem toldB_some {r : ByteArray} {kind many : Nat} {ns : List Int} (h : toldB r kind many = some ns) : ns.length = many ∧ ∀ n ∈ ns, 0 ≤ n ∧ n ≤ 999 := by
 unfold toldB at h
 split at h
 ·rename_i hc
  cases h
  refine ⟨by simp; omega, fun n hn => ?_⟩
  obtain ⟨x, hx, rfl⟩ := List.mem_map.1 hn
  exact okW_bd (List.all_eq_true.1 hc.2.2 x hx)
 ·cases h
theorem slS2 (a : ByteArray) (W : List ByteArray) (t : Tail) (m : Nat) (h : W.length = m + 2) : sliceA T 141 (.slice (strs (a :: W)) (m + 2 + 1) t) (some (.int .i64 1)) (some (.int .i64 (m + 1 : Nat))) none = some (.slice (strs (W.take m)) m .unk) := by
 have hd : descOf T 141 = some (.slice 9) := rfl
 have hb : bnd (some (.int .i64 1)) 0 (m + 1) = some 1 := by simp [bnd]; omega
 have hb2 : bnd (some (.int .i64 (m + 1 : Nat))) (m + 2 + 1) (m + 2 + 1) = some (m + 1) := by
  simp only [bnd]
  rw [if_pos (by omega)]
  rfl
 simp only [sliceA, hd, T9]
 rw [if_pos (by simp [ti9, h]), hb2]
 simp only [Option.bind_some, hb, Option.map_some]
 simp [strs, ti9]
theorem foldR_app : ∀ (l : LLine) (xs ys : List ByteArray), foldR l (xs ++ ys) = (foldR l xs).bind fun l' => foldR l' ys
 | l, [], ys => rfl
 | l, x :: xs, ys => by
  simp only [List.cons_append, foldR]
  cases stepR l x with
  | none => rfl
  | some l' => simp only [Option.bind_some]; exact foldR_app l' xs ys
theorem foldR_one (l : LLine) (x : ByteArray) : foldR l [x] = stepR l x := by
 simp only [foldR]; cases stepR l x <;> rfl
theorem foldR_next {l0 l : LLine} {rows : List ByteArray} {k : Nat} (hk : k < rows.length) (h : foldR l0 (rows.take k) = some l) : foldR l0 (rows.take (k + 1)) = stepR l rows[k] := by
 rw [List.take_succ_eq_append_getElem hk, foldR_app, h, Option.bind_some, foldR_one]
theorem foldR_fail {l0 l : LLine} {rows : List ByteArray} {k : Nat} (hk : k < rows.length) (h : foldR l0 (rows.take k) = some l) (h2 : stepR l rows[k] = none) : foldR l0 rows = none := by
 rw [show rows = rows.take (k + 1) ++ rows.drop (k + 1) by simp, foldR_app, foldR_next hk h, h2]; rfl
structure Sm (l : LLine) : Prop where
 head : ∀ n ∈ [l.least, l.most, l.taps], 0 ≤ n ∧ n ≤ 999
 give : ∀ n ∈ l.gives, 0 ≤ n ∧ n ≤ 999
 count : ∀ c ∈ l.counts, ∀ n ∈ [c.point, c.low, c.high], 0 ≤ n ∧ n ≤ 999
def pG (l : LLine) (tg : Nat) : AV := grt (ints l.gives) l.gives.length tg
def pC (l : LLine) (tc : Nat) : AV := grt (cnts l.counts) l.counts.length tc
@[go_sem] theorem pG_one (l : LLine) (t : Nat) : AV.one (pG l t) = true := grt_one _ _ _
@[go_sem] theorem pC_one (l : LLine) (t : Nat) : AV.one (pC l t) = true := grt_one _ _ _
structure PI (l0 : LLine) (rows : List ByteArray) (k : Nat) (l : LLine) (tg tc : Nat) (toks : List Nat) : Prop where
 fold : foldR l0 (rows.take k) = some l
 len : l.gives.length + l.counts.length = k
 small : Sm l
 same : l.least = l0.least ∧ l.most = l0.most ∧ l.taps = l0.taps
 htg : l.gives.length ≠ 0 → tg ∈ toks
 htc : l.counts.length ≠ 0 → tc ∈ toks
 ne : l.gives.length ≠ 0 → l.counts.length ≠ 0 → tg ≠ tc
 lt : ∀ t ∈ toks, t < k
def zeroC : List AV := [.nilS, .int .i64 0, .int .i64 0, .int .i64 0, .nilS]
def pSt (l : LLine) (tg tc k : Nat) (toks : List Nat) : St := ⟨[some (.cells [.nilS, .int .i64 0, .int .i64 0, .int .i64 0, .nilS]), some (.cells [pG l tg, .int .i64 l.least, .int .i64 l.most, .int .i64 l.taps, pC l tc])], k, toks⟩
theorem line_sub (l : LLine) (tg tc : Nat) : Sub (.agg [pG l tg, .int .i64 l.least, .int .i64 l.most, .int .i64 l.taps, pC l tc]) (lineA l) := by
 refine Sub.agg (SubL.cons ?_ (SubL.cons (Sub.refl _) (SubL.cons (Sub.refl _) (SubL.cons (Sub.refl _) (SubL.cons ?_ (SubL.refl []))))))
 ·exact grt_sub _ _ _ (by cases l.gives <;> simp)
 ·exact grt_sub _ _ _ (by cases l.counts <;> simp)
theorem Sm.plain {l : LLine} (h : Sm l) (hn : l.gives.length + l.counts.length ≤ 900) : Plain l where
 gives := by omega
 counts := by omega
 head := fun n hn => by have := h.head n hn; exact ⟨by omega, by omega⟩
 give := fun n hn => by have := h.give n hn; exact ⟨by omega, by omega⟩
 count := fun c hc n hn => by have := h.count c hc n hn; exact ⟨by omega, by omega⟩
theorem PI.pushG {l0 l : LLine} {rows : List ByteArray} {k tg tc : Nat} {toks toks' : List Nat} {hh : List (Option Blk)} (h : PI l0 rows k l tg tc toks) (x : Int) (hx : 0 ≤ x ∧ x ≤ 999) (hf : foldR l0 (rows.take (k + 1)) = some { l with gives := l.gives ++ [x] }) (hp : Push ⟨hh, k, toks⟩ (if l.gives.length = 0 then none else some tg) toks') :
  PI l0 rows (k + 1) { l with gives := l.gives ++ [x] } k tc toks' where
 fold := hf
 len := by have := h.len; simp; omega
 small := ⟨h.small.head, fun n hn => by
  rcases List.mem_append.1 hn with hn | hn
  ·exact h.small.give n hn
  ·simp at hn; subst hn; exact hx, h.small.count⟩
 same := h.same
 htg := fun _ => hp.new
 htc := fun hc => hp.kept tc (h.htc hc) (by
  split
  ·intro e; cases e
  ·rename_i hg; intro e; cases e; exact h.ne hg hc rfl)
 ne := fun _ hc e => by
  have := h.lt tc (h.htc hc)
  omega
 lt := fun t ht => by
  rcases hp.old t ht with e | e
  ·have : t = k := e
   omega
  ·have := h.lt t e; omega
theorem PI.pushC {l0 l : LLine} {rows : List ByteArray} {k tg tc : Nat} {toks toks' : List Nat} {hh : List (Option Blk)} (h : PI l0 rows k l tg tc toks) (c : Cnt) (hx : ∀ n ∈ [c.point, c.low, c.high], 0 ≤ n ∧ n ≤ 999) (hf : foldR l0 (rows.take (k + 1)) = some { l with counts := l.counts ++ [c] }) (hp : Push ⟨hh, k, toks⟩ (if l.counts.length = 0 then none else some tc) toks') :
  PI l0 rows (k + 1) { l with counts := l.counts ++ [c] } tg k toks' where
 fold := hf
 len := by have := h.len; simp; omega
 small := ⟨h.small.head, h.small.give, fun n hn => by
  rcases List.mem_append.1 hn with hn | hn
  ·exact h.small.count n hn
  ·simp at hn; subst hn; exact hx⟩
 same := h.same
 htc := fun _ => hp.new
 htg := fun hc => hp.kept tg (h.htg hc) (by
  split
  ·intro e; cases e
  ·rename_i hg; intro e; cases e; exact h.ne hc hg rfl)
 ne := fun hc _ e => by
  have := h.lt tg (h.htg hc)
  omega
 lt := fun t ht => by
  rcases hp.old t ht with e | e
  ·have : t = k := e
   omega
  ·have := h.lt t e; omega
theorem parsed_ac (s : ByteArray) (hs : s.size ≤ 900) (S : St) : AC Tryz.prog 110 [.str s] S fun e S' =>
  ((∃ v, e = .ret v ∧ ∃ l, parsedB s = some l ∧ v = lineA l) ∨ (∃ v, e = .panic v ∧ parsedB s = none ∧ Gives v)) ∧ S' = S := by
 refine AC.of_iso ?_ rfl (fun v ⟨l, _, h⟩ => by subst h; simp [bndL, AV.bnd]) (fun v h => h.2.bnd) S
 refine AC.sub (R := fun e _ => (∃ v, e = .ret v ∧ ∃ l tg tc, parsedB s = some l ∧ v = .agg [pG l tg, .int .i64 l.least, .int .i64 l.most, .int .i64 l.taps, pC l tc]) ∨ (∃ v, e = .panic v ∧ parsedB s = none ∧ Gives v)) ?_ ?_ ?_
 ·refine AC.run (E_ok _) mix Tryz.func110 m110 rfl rfl rfl (Nat.le_of_ble_eq_true rfl) ?_
  simp only [go_sem, reduceEqDiff, Nat.reduceBEq, reduceAdd, reduceIte, reduceCtorEq, reduceLeDiff]
  refine cp n142 (Split_pc s 10 (by omega)) (SubL.refl _) ?_
  simp only [go_sem, builtinA, reduceEqDiff, Nat.reduceBEq, reduceAdd, reduceIte, reduceCtorEq, reduceLeDiff]
  have hR := splitL_len s 10
  have hP : parsedB s = if 3 ≤ (splitL s 10).length then
   (toldB ((splitL s 10).headD ByteArray.empty) 0 3).bind fun ns =>
    (foldR ⟨[], ns.getD 0 0, ns.getD 1 0, ns.getD 2 0, []⟩ ((splitL s 10).tail.take ((splitL s 10).length - 3))).bind fun l =>
     if textB l = s then some l else none
   else none := rfl
  rw [hP]
  clear hP
  have hsz : ∀ r ∈ splitL s 10, r.size ≤ 900 := fun r hr => Nat.le_trans (splitL_size hr) hs
  generalize splitL s 10 = R at *
  by_cases h3 : ¬ 3 ≤ R.length
  ·have h3' : ¬ (R.length : Int) ≥ 3 := by omega
   rw [if_neg h3, decide_eq_false h3']
   exact sn s fun v h => .inr ⟨v, rfl, rfl, h⟩
  have h3 : 3 ≤ R.length := Decidable.not_not.1 h3
  have h3' : (R.length : Int) ≥ 3 := by omega
  rw [if_pos h3, decide_eq_true h3']
  refine cp n143 (sure_ok s) (SubL.refl _) ?_
  cases R with
  | nil => simp at h3
  | cons r0 R =>
   have z : (0 : Int) < ((R.length + 1 : Nat) : Int) := by omega
   obtain ⟨m, hm⟩ : ∃ m, R.length = m + 2 := ⟨R.length - 2, by simp at h3; omega⟩
   have hm3 : (r0 :: R).length - 3 = m := by simp [hm]
   rw [hm3, List.tail_cons]
   simp only [go_sem, builtinA, z, Int.le_refl, Int.toNat_zero, strs_get, Option.map_some, List.headD_cons, List.tail_cons, reduceEqDiff, Nat.reduceBEq, reduceAdd, reduceIte, reduceCtorEq, reduceLeDiff]
   have h0 := hsz r0 List.mem_cons_self
   refine cac n144 (told_ac r0 0 3 (by decide) (by decide) (by omega) _) (fun v S' h => ?_) (fun v S' h => ?_)
   ·obtain ⟨⟨v', e, ns, hns, rfl⟩ | ⟨v', e, _⟩, rfl⟩ := h
    rotate_left
    ·cases e
    cases e
    obtain ⟨hn1, hn2⟩ := toldB_some hns
    rw [hns]
    match ns, hn1, hn2 with
    | [a, b, c], _, hn2 =>
     show _
     simp only [Option.bind_some, List.getD_cons_zero, List.getD_cons_succ]
     clear hns
     have q0 : 0 ≤ (0 : Int) ∧ (0 : Int) < ((3 : Nat) : Int) := by decide
     have q1 : 0 ≤ (1 : Int) ∧ (1 : Int) < ((3 : Nat) : Int) := by decide
     have q2 : 0 ≤ (2 : Int) ∧ (2 : Int) < ((3 : Nat) : Int) := by decide
     simp only [go_sem, q0, q1, q2, ints, List.map_cons, List.map_nil, Int.le_refl, Int.reduceToNat, reduceEqDiff, Nat.reduceBEq, reduceAdd, reduceIte, reduceCtorEq, reduceLeDiff]
     have hRl : R.length ≤ 902 := by simp at hR; omega
     have w1 : IntKind.i64.wrap (((R.length + 1 : Nat) : Int) - 2) = (m + 1 : Nat) := by rw [wrap64 (by omega)]; omega
     have hsl := slS2 r0 R .exact m hm
     rw [hm] at w1
     simp only [go_sem, builtinA, hm, w1, hsl, reduceEqDiff, Nat.reduceBEq, reduceAdd, reduceIte, reduceCtorEq, reduceLeDiff]
     have hrs : ∀ r ∈ R.take m, r.size ≤ 900 := fun r hr => hsz r (List.mem_cons_of_mem _ (List.mem_of_mem_take hr))
     have hrl : (R.take m).length = m := by simp [hm]
     have hm9 : m ≤ 900 := by omega
     have hhead : ∀ n ∈ [a, b, c], 0 ≤ n ∧ n ≤ 999 := hn2
     clear hsl w1 hm hm3 hsz hR h3 h3' z h0 q0 q1 q2 hn2
     generalize hrows : R.take m = rows at *
     clear hrows hRl
     generalize hl0 : (⟨[], a, b, c, []⟩ : LLine) = l0
     refine wc_loop (fun n ts' S' => ∃ k l tg tc toks, PI l0 rows k l tg tc toks ∧ k ≤ m ∧ n = m - k ∧ ts' = [(0, .str s), (2, .ref 0 0), (5, .ref 1 0), (35, .slice (strs rows) m .unk), (36, .int .i64 m), (37, .int .i64 k)] ∧ S' = pSt l tg tc k toks) m ⟨0, l0, 0, 0, [], ?_, Nat.zero_le _, rfl, rfl, by subst hl0; rfl⟩ ?_
     ·subst hl0
      exact ⟨rfl, rfl, ⟨hhead, fun n h => (by cases h), fun c h => (by cases h)⟩, ⟨rfl, rfl, rfl⟩, fun h => absurd rfl h, fun h => absurd rfl h, fun h => absurd rfl h, fun t h => (by cases h)⟩
     rintro n ts' S' ⟨k, l, tg, tc, toks, hI, hk, rfl, rfl, rfl⟩
     unfold pSt
     by_cases h' : k < m
     ·have h1 : (k : Int) < m := by omega
      have h2 : 0 ≤ (k : Int) ∧ (k : Int) < m := by omega
      have hkr : k < rows.length := by omega
      have h3 : rows[k]? = some rows[k] := List.getElem?_eq_getElem hkr
      have h4 : IntKind.i64.wrap ((k : Int) + 1) = (k + 1 : Nat) := wrap64 (by omega)
      have hsz := hrs _ (List.getElem_mem hkr)
      simp only [go_sem, l110_0, builtinA, h1, decide_true, h2, strs_get, h3, reduceEqDiff, Nat.reduceBEq, reduceAdd, reduceIte, reduceCtorEq, reduceLeDiff]
      refine cp n146 words_pc (SubL.refl _) ?_
      simp only [go_sem, reduceEqDiff, Nat.reduceBEq, reduceAdd, reduceIte, reduceCtorEq, reduceLeDiff]
      refine cp n145 (HasPrefix_pc _ _) (SubL.refl _) ?_
      have hpre : Lib.hasPrefix rows[k].data.toList (wordB 1).data.toList = stretchW rows[k] := rfl
      rw [hpre]
      have hfail := fun h => foldR_fail hkr hI.fold h
      have hnxt := foldR_next hkr hI.fold
      unfold stepR at hfail hnxt
      generalize rows[k] = r at *
      have q0 : 0 ≤ (0 : Int) ∧ (0 : Int) < ((1 : Nat) : Int) := by decide
      cases hw : stretchW r
      ·rw [hw, if_neg (by decide)] at hfail hnxt
       have q0 : 0 ≤ (0 : Int) ∧ (0 : Int) < ((3 : Nat) : Int) := by decide
       have q1 : 0 ≤ (1 : Int) ∧ (1 : Int) < ((3 : Nat) : Int) := by decide
       have q2 : 0 ≤ (2 : Int) ∧ (2 : Int) < ((3 : Nat) : Int) := by decide
       simp only [go_sem, reduceEqDiff, Nat.reduceBEq, reduceAdd, reduceIte, reduceCtorEq, reduceLeDiff]
       refine cac n144 (told_ac r 2 3 (by decide) (by decide) (by omega) _) (fun v S' h => ?_) (fun v S' h => ?_)
       ·obtain ⟨⟨v', e, ns, hns, rfl⟩ | ⟨v', e, _⟩, rfl⟩ := h
        rotate_left
        ·cases e
        cases e
        obtain ⟨hn1, hn2⟩ := toldB_some hns
        rw [hns] at hnxt
        match ns, hn1, hn2 with
        | [x, y, z], _, hn2 =>
         simp only [Option.map_some, List.getD_cons_zero, List.getD_cons_succ] at hnxt
         simp only [go_sem, q0, q1, q2, ints, List.map_cons, List.map_nil, Int.reduceToNat, builtinA, reduceEqDiff, Nat.reduceBEq, reduceAdd, reduceIte, reduceCtorEq, reduceLeDiff]
         refine sr_push (t := 23) (e := 82) (ei := ti82) rfl rfl (by decide) (by decide) (l := cnts l.counts) (lx := [.int .i64 x, .int .i64 y, .int .i64 z]) (n := l.counts.length) (k := tc) (by simp [ti82]; omega) rfl rfl (by have := hI.len; omega) hI.htc rfl fun toks' hp => ?_
         simp only [go_sem, h4, put_eq, reduceEqDiff, Nat.reduceBEq, reduceAdd, reduceIte, reduceCtorEq, reduceLeDiff]
         refine again_here (m - (k + 1)) (by omega) ⟨k + 1, { l with counts := l.counts ++ [⟨x, y, z⟩] }, tg, k, toks', hI.pushC ⟨x, y, z⟩ hn2 hnxt hp, h', rfl, rfl, ?_⟩
         simp [pG, pC, cnts, cntC]
       ·obtain ⟨⟨v', e, _⟩ | ⟨v', e, hn, h⟩, rfl⟩ := h
        ·cases e
        ·cases e
         rw [hn] at hfail
         exact .inr ⟨_, rfl, by rw [hfail rfl]; rfl, h⟩
      ·rw [hw, if_pos rfl] at hfail hnxt
       simp only [go_sem, reduceEqDiff, Nat.reduceBEq, reduceAdd, reduceIte, reduceCtorEq, reduceLeDiff]
       refine cac n144 (told_ac r 1 1 (by decide) (by decide) (by omega) _) (fun v S' h => ?_) (fun v S' h => ?_)
       ·obtain ⟨⟨v', e, ns, hns, rfl⟩ | ⟨v', e, _⟩, rfl⟩ := h
        rotate_left
        ·cases e
        cases e
        obtain ⟨hn1, hn2⟩ := toldB_some hns
        rw [hns] at hnxt
        match ns, hn1, hn2 with
        | [x], _, hn2 =>
         simp only [Option.map_some, List.getD_cons_zero] at hnxt
         simp only [go_sem, q0, ints, List.map_cons, List.map_nil, Int.reduceToNat, builtinA, reduceEqDiff, Nat.reduceBEq, reduceAdd, reduceIte, reduceCtorEq, reduceLeDiff]
         refine sr_push (t := 22) (e := 3) (ei := ti3) rfl rfl (by decide) (by decide) (l := ints l.gives) (lx := [.int .i64 x]) (n := l.gives.length) (k := tg) (by simp [ti3]) rfl rfl (by have := hI.len; omega) hI.htg rfl fun toks' hp => ?_
         simp only [go_sem, h4, put_eq, reduceEqDiff, Nat.reduceBEq, reduceAdd, reduceIte, reduceCtorEq, reduceLeDiff]
         refine again_here (m - (k + 1)) (by omega) ⟨k + 1, { l with gives := l.gives ++ [x] }, k, tc, toks', hI.pushG x (hn2 x List.mem_cons_self) hnxt hp, h', rfl, rfl, ?_⟩
         simp [pG, pC, ints]
       ·obtain ⟨⟨v', e, _⟩ | ⟨v', e, hn, h⟩, rfl⟩ := h
        ·cases e
        ·cases e
         rw [hn] at hfail
         exact .inr ⟨_, rfl, by rw [hfail rfl]; rfl, h⟩
     ·have h1 : ¬ (k : Int) < m := by omega
      have e : k = m := by omega
      subst e
      simp only [go_sem, l110_0, builtinA, h1, decide_false, reduceEqDiff, Nat.reduceBEq, reduceAdd, reduceIte, reduceCtorEq, reduceLeDiff]
      have hfold := hI.fold
      rw [← hrl, List.take_length] at hfold
      rw [hfold, Option.bind_some]
      have hlen := hI.len
      refine cp n107 (text_pc l (hI.small.plain (by omega))) (SubL.cons (line_sub l tg tc) (SubL.refl [])) ?_
      simp only [go_sem, eqS, reduceEqDiff, Nat.reduceBEq, reduceAdd, reduceIte, reduceCtorEq, reduceLeDiff]
      by_cases ht : textB l = s
      ·rw [decide_eq_true ht, if_pos ht]
       refine cp n143 (sure_ok s) (SubL.refl _) ?_
       simp only [go_sem, Tryz.f110, reduceEqDiff, Nat.reduceBEq, reduceAdd, reduceIte, reduceCtorEq, reduceLeDiff]
       exact .inl ⟨_, rfl, l, tg, tc, rfl, rfl⟩
      ·rw [decide_eq_false ht, if_neg ht]
       exact sn s fun v h => .inr ⟨v, rfl, rfl, h⟩
   ·obtain ⟨⟨v', e, _⟩ | ⟨v', e, hn, h⟩, rfl⟩ := h
    ·cases e
    ·cases e
     exact .inr ⟨_, rfl, by rw [hn]; rfl, h⟩
 ·rintro v S' (⟨v', e, l, tg, tc, h1, h2⟩ | ⟨v', e, _⟩)
  ·cases e
   refine ⟨lineA l, ?_, .inl ⟨_, rfl, l, h1, rfl⟩⟩
   rw [h2]; exact line_sub l tg tc
  ·cases e
 ·rintro v S' (⟨v', e, _⟩ | h)
  ·cases e
  ·exact .inr h
def readA (s : ByteArray) : AV :=
 if s.size ≤ 300 then
  match parsedB s with
  | some l => if isLineB l = true then .tuple [lineA l, .int .i64 0] else .tuple [.agg zeroC, .int .i64 2]
  | none => .tuple [.agg zeroC, .int .i64 4]
 else .tuple [.agg zeroC, .int .i64 3]
theorem readA_bnd (s : ByteArray) : (readA s).bnd 0 0 = true := by
 unfold readA
 repeat' split
 all_goals simp [bndL, AV.bnd, zeroC]
theorem Read1_ac (s : ByteArray) (hs : s.size ≤ 900) (S : St) (i j : Nat) (z0 z1 z2 z3 z4 : AV) (h1 : cellsAt S.heap i = some [.str s]) (h2 : cellsAt S.heap j = some [z0, z1, z2, z3, z4]) : AC Tryz.prog 109 [.ref i 0, .ref j 0] S fun e S' =>
  (∃ l, parsedB s = some l ∧ e = .ret (.tuple []) ∧ S' = ⟨setH S.heap j (.cells (lineC l)), S.nt, S.toks⟩) ∨ (parsedB s = none ∧ (∃ v, e = .panic v ∧ Gives v) ∧ S' = S) := by
 refine AC.run (Es_ok _ S) mix Tryz.func109 m109 rfl rfl rfl (Nat.le_of_ble_eq_true rfl) ?_
 simp only [go_sem, h1, h2, reduceEqDiff, Nat.reduceBEq, reduceAdd, reduceIte, reduceCtorEq, reduceLeDiff]
 refine call_ac (E := Es _ S) n110 (parsed_ac s hs _) (fun v S' h => ?_) (fun v S' h => ?_)
 ·obtain ⟨⟨v', e, l, hl, rfl⟩ | ⟨v', e, _⟩, rfl⟩ := h
  ·cases e
   simp only [go_sem, h2, put_eq, Tryz.f109, reduceEqDiff, Nat.reduceBEq, reduceAdd, reduceIte, reduceCtorEq, reduceLeDiff]
   exact .inl ⟨l, hl, rfl, rfl⟩
  ·cases e
 ·obtain ⟨⟨v', e, _⟩ | ⟨v', e, hn, h⟩, rfl⟩ := h
  ·cases e
  ·cases e
   exact .inr ⟨hn, ⟨_, rfl, h⟩, rfl⟩
theorem cellsAt_setH {h : List (Option Blk)} {b : Nat} {l l' : List AV} (hb : cellsAt h b = some l) : cellsAt (setH h b (.cells l')) b = some l' := by
 have := cellsAt_set (l' := l') hb []
 rwa [List.append_nil] at this
theorem stepR_len {l l' : LLine} {r : ByteArray} (h : stepR l r = some l') : l'.gives.length + l'.counts.length = l.gives.length + l.counts.length + 1 := by
 unfold stepR at h
 split at h
 ·cases hx : toldB r 1 1 with
  | none => rw [hx] at h; cases h
  | some ns => rw [hx] at h; cases h; simp; omega
 ·cases hx : toldB r 2 3 with
  | none => rw [hx] at h; cases h
  | some ns => rw [hx] at h; cases h; simp; omega
theorem foldR_len : ∀ {rows : List ByteArray} {l l' : LLine}, foldR l rows = some l' → l'.gives.length + l'.counts.length = l.gives.length + l.counts.length + rows.length
 | [], l, l', h => by cases h; rfl
 | r :: rows, l, l', h => by
  unfold foldR at h
  cases hx : stepR l r with
  | none => rw [hx] at h; cases h
  | some l1 =>
   rw [hx] at h
   have h1 := stepR_len hx
   have h2 := foldR_len h
   simp only [List.length_cons]; omega
theorem parsedB_some {s : ByteArray} {l : LLine} (h : parsedB s = some l) : 3 ≤ (splitL s 10).length ∧ textB l = s ∧ ∃ ns, toldB ((splitL s 10).headD ByteArray.empty) 0 3 = some ns ∧ foldR ⟨[], ns.getD 0 0, ns.getD 1 0, ns.getD 2 0, []⟩ ((splitL s 10).tail.take ((splitL s 10).length - 3)) = some l := by
 unfold parsedB at h
 split at h
 ·rename_i h3
  refine ⟨h3, ?_⟩
  cases hx : toldB ((splitL s 10).headD ByteArray.empty) 0 3 with
  | none => rw [hx] at h; cases h
  | some ns =>
   rw [hx, Option.bind_some] at h
   cases hy : foldR ⟨[], ns.getD 0 0, ns.getD 1 0, ns.getD 2 0, []⟩ ((splitL s 10).tail.take ((splitL s 10).length - 3)) with
   | none => rw [hy] at h; cases h
   | some l1 =>
    rw [hy, Option.bind_some] at h
    split at h
    ·rename_i ht
     cases h
     exact ⟨ht, ns, rfl, hy⟩
    ·cases h
 ·cases h
theorem parsedB_ok {s : ByteArray} {l : LLine} (h : parsedB s = some l) (hs : s.size ≤ 900) : okLine l := by
 obtain ⟨_, _, ns, _, hf⟩ := parsedB_some h
 have h1 := foldR_len hf
 have h2 := splitL_len s 10
 simp at h1
 constructor <;> (unfold okL; omega)
theorem Read_pc (s : ByteArray) (hs : s.size < 9223372036854775807) : PC Tryz.prog 61 [.str s] (.pure (readA s)) := by
 refine PC.of_empty (AC.run (E_ok _) mix Tryz.func61 m61 rfl rfl rfl (Nat.le_of_ble_eq_true rfl) ?_) rfl (readA_bnd s)
 unfold readA
 by_cases h3 : ¬ s.size ≤ 300
 ·have h3' : (s.size : Int) > 300 := by omega
  rw [if_neg h3]
  simp only [go_sem, boxA, builtinA, h3', decide_true, Tryz.f61, reduceEqDiff, Nat.reduceBEq, reduceAdd, reduceIte, reduceCtorEq, reduceLeDiff]
  rfl
 have h3 : s.size ≤ 300 := Decidable.not_not.1 h3
 have h3' : ¬ (s.size : Int) > 300 := by omega
 rw [if_pos h3]
 simp only [go_sem, boxA, builtinA, h3', decide_false, reduceEqDiff, Nat.reduceBEq, reduceAdd, reduceIte, reduceCtorEq, reduceLeDiff]
 refine cac n108 (try_ac (R := fun e S' => ∃ k : Int, e = .ret (.int .i64 k) ∧ ((∃ l, parsedB s = some l ∧ k = 0 ∧ cellsAt S'.heap 1 = some zeroC ∧ cellsAt S'.heap 2 = some (lineC l)) ∨ (parsedB s = none ∧ k = 4 ∧ cellsAt S'.heap 1 = some zeroC))) n109 (Read1_ac s (by omega) _ 0 2 _ _ _ _ _ rfl rfl) ?_ ?_) ?_ ?_
 ·rintro v S' (⟨l, hl, e, rfl⟩ | ⟨_, ⟨v', e, _⟩, _⟩)
  ·exact ⟨rfl, 0, rfl, .inl ⟨l, hl, rfl, rfl, rfl⟩⟩
  ·cases e
 ·rintro v S' (⟨l, hl, e, rfl⟩ | ⟨hn, ⟨v', e, why, rfl⟩, rfl⟩)
  ·cases e
  ·cases e
   exact ⟨rfl, .inr ⟨why, rfl, 4, rfl, .inr ⟨hn, rfl, rfl⟩⟩⟩
 ·rintro v S' ⟨k, e, ⟨l, hl, rfl, hc1, hc2⟩ | ⟨hn, rfl, hc1⟩⟩
  ·cases e
   rw [hl]
   unfold zeroC at hc1
   have z0 : ¬ ((0 : Int) ≠ 0) := by decide
   simp only [go_sem, z0, decide_false, hc1, hc2, reduceEqDiff, Nat.reduceBEq, reduceAdd, reduceIte, reduceCtorEq, reduceLeDiff]
   refine cp n82 (isLine_pc l (parsedB_ok hl (by omega))) (SubL.refl _) ?_
   have hp := fun l' => cellsAt_setH (l' := l') hc1
   cases hb : isLineB l
   ·simp only [go_sem, un_not, Bool.not_false, hc1, put_eq, Tryz.f61, hp, reduceEqDiff, Nat.reduceBEq, reduceAdd, reduceIte, reduceCtorEq, reduceLeDiff]
    rfl
   ·simp only [go_sem, un_not, Bool.not_true, hc1, hc2, put_eq, Tryz.f61, hp, reduceEqDiff, Nat.reduceBEq, reduceAdd, reduceIte, reduceCtorEq, reduceLeDiff]
  ·cases e
   rw [hn]
   unfold zeroC at hc1
   have z0 : ((4 : Int) ≠ 0) := by decide
   have hp := fun l' => cellsAt_setH (l' := l') hc1
   simp only [go_sem, z0, decide_true, hc1, put_eq, Tryz.f61, hp, reduceEqDiff, Nat.reduceBEq, reduceAdd, reduceIte, reduceCtorEq, reduceLeDiff]
   rfl
 ·rintro v S' ⟨k, e, _⟩
  cases e
end Go.Av.Fx
end

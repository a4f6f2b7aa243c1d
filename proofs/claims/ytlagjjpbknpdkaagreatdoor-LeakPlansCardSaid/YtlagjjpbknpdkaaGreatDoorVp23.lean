/- Part 23 of the proof. -/
import Derived.Test.YtlagjjpbknpdkaaGreatDoorVp22
import Derived.Test.YtlagjjpbknpdkaaGreatDoorVp21
set_option linter.all false
set_option linter.unusedVariables false
set_option linter.unusedSimpArgs false
set_option linter.unusedSectionVars false
open Nat (reduceEqDiff reduceAdd reduceLeDiff)
section
namespace Go.Av.Fx
open Go Go.Av Go.Av.Tb Go.Proofs
def stretchW (r : ByteArray) : Bool := Lib.hasPrefix r.data.toList (wordB 1).data.toList
def stepR (l : LLine) (r : ByteArray) : Option LLine :=
 if stretchW r = true then (toldB r 1 1).map fun ns => { l with gives := l.gives ++ [ns.getD 0 0] }
 else (toldB r 2 3).map fun ns => { l with counts := l.counts ++ [⟨ns.getD 0 0, ns.getD 1 0, ns.getD 2 0⟩] }
def foldR (l : LLine) : List ByteArray → Option LLine
 | [] => some l
 | r :: rs => (stepR l r).bind fun l' => foldR l' rs
def parsedB (s : ByteArray) : Option LLine :=
 if 3 ≤ (splitL s 10).length then
  (toldB ((splitL s 10).headD ByteArray.empty) 0 3).bind fun ns =>
   (foldR ⟨[], ns.getD 0 0, ns.getD 1 0, ns.getD 2 0, []⟩ ((splitL s 10).tail.take ((splitL s 10).length - 3))).bind fun l =>
    if textB l = s then some l else none
 else none
def grt (l : List AV) (n t : Nat) : AV := match n with
 | 0 => .nilS
 | n + 1 => .slice l (n + 1) (.tok t)
@[go_sem] theorem grt_one (l : List AV) (n t : Nat) : AV.one (grt l n t) = true := by cases n <;> rfl
@[go_sem] theorem grt_cl (l : List AV) (n t : Nat) : AV.cells (grt l n t) = [grt l n t] := cells_one (grt_one l n t)
theorem grt_sub (l : List AV) (n t : Nat) (h : l.length = 0 ∨ n ≠ 0) : Sub (grt l n t) (.slice l n .unk) := by
 cases n with
 | zero =>
  rcases h with h | h
  ·rw [List.eq_nil_of_length_eq_zero h]; exact Sub.nil
  ·exact absurd rfl h
 | succ n => exact Sub.unk _ _ _
structure Push (S : St) (own : Option Nat) (toks' : List Nat) : Prop where
 kept : ∀ t ∈ S.toks, own ≠ some t → t ∈ toks'
 new : S.nt ∈ toks'
 old : ∀ t ∈ toks', t = S.nt ∨ t ∈ S.toks
theorem sr_push {t e : TypeId} {ei : TI} (h1 : descOf T t = some (.slice e)) (h2 : T e = some ei) (h3 : ei.size ≠ 0) (h4 : ei.bytes ≤ 100) {S : St} {l lx : List AV} {n k : Nat} (hl : l.length = n * ei.size) (hx : lx.length = ei.size) (h6 : lx.all AV.one = true) (hn : n ≤ 100000)
  (hmem : n ≠ 0 → k ∈ S.toks) (hnil : appendA T S t .nilS (.slice lx 1 .exact) = some (.tok none fun j => .slice lx 1 (.tok j))) {K : AV → St → Prop} {hK : Hold K}
  (next : ∀ toks', Push S (if n = 0 then none else some k) toks' → K (grt (l ++ lx) (n + 1) S.nt) ⟨S.heap, S.nt + 1, toks'⟩) : sr K hK (appendA T S t (grt l n k) (.slice lx 1 .exact)) S := by
 cases n with
 | zero =>
  have : l = [] := List.eq_nil_of_length_eq_zero (by omega)
  subst this
  show sr K hK (appendA T S t .nilS _) S
  rw [hnil, sr_tok]
  exact next _ ⟨fun t ht _ => List.mem_cons_of_mem _ ht, List.mem_cons_self, fun t ht => by simpa using ht⟩
 | succ n =>
  show sr K hK (appendA T S t (.slice l (n + 1) (.tok k)) _) S
  have hh : heldA S ei.size (.slice lx 1 .exact) = some (lx, 1) := by
   show (if lx.length = 1 * ei.size then some (lx, 1) else none) = _
   rw [if_pos (by omega)]
  rw [app_gen (e := e) (ei := ei) (lx := lx) (nx := 1) h1 h2 h3 hh (by decide) h6 (by
   have : (n + 1 + 1) * ei.bytes ≤ (n + 1 + 1) * 100 := Nat.mul_le_mul_left _ h4
   omega) (by omega) hl]
  rw [sr_tok_some]
  refine ⟨hmem (by omega), next _ ⟨fun t ht hne => ?_, List.mem_cons_self, fun t ht => ?_⟩⟩
  ·have : t ≠ k := fun e => hne (by rw [e]; rfl)
   exact List.mem_cons_of_mem _ (by simp [killTok, ht, this])
  ·rcases List.mem_cons.1 ht with h | h
   ·exact .inl h
   ·exact .inr (by simp [killTok] at h; exact h.1)
theorem splitB_size (sep : ByteArray) : ∀ (k : Nat) (s r : ByteArray), r ∈ Lib.splitB sep 0 k s → r.size ≤ s.size
 | 0, s, r, h => by simp [Lib.splitB] at h; subst h; exact Nat.le_refl _
 | k + 1, s, r, h => by
  unfold Lib.splitB at h
  split at h
  ·simp at h; subst h; exact Nat.le_refl _
  ·rcases List.mem_cons.1 h with h | h
   ·subst h; rw [ByteArray.size_extract]; omega
   ·have := splitB_size sep k _ r h
    rw [ByteArray.size_extract] at this; omega
theorem splitL_size {s r : ByteArray} {b : UInt8} (h : r ∈ splitL s b) : r.size ≤ s.size := splitB_size _ _ _ _ h
theorem splitL_len (s : ByteArray) (b : UInt8) : (splitL s b).length ≤ s.size + 2 := by
 have hlen := Lib.splitB_all ⟨#[b]⟩ (Nat.le_refl 1) 0 _ s rfl
 have hle := Lib.countB_le ⟨#[b]⟩ (Nat.le_refl 1) s.size s (Nat.le_refl _)
 show (Lib.splitB ⟨#[b]⟩ 0 (Lib.countB s ⟨#[b]⟩) s).length ≤ _
 omega
theorem okW_bd {x : ByteArray} (h : okW x = true) : 0 ≤ valW x ∧ valW x ≤ 999 := by
 unfold okW at h
 simp only [Bool.and_eq_true, decide_eq_true_eq] at h
 exact decP_bd h.1.1.2 h.1.1.1
theorem toldB_some {r : ByteArray} {kind many : Nat} {ns : List Int} (h : toldB r kind many = some ns) : ns.length = many ∧ ∀ n ∈ ns, 0 ≤ n ∧ n ≤ 999 := by
 unfold toldB at h
 split at h
 ·rename_i hc
  cases h
  refine ⟨by simp; omega, fun n hn => ?_⟩
  obtain ⟨x, hx, rfl⟩ := List.mem_map.1 hn
  exact okW_bd (List.all_eq_true.1 hc.2.2 x hx)
 ·cases h
theorem slS2 (a : ByteArray) (W : List ByteArray) (t : Tail) (m : Nat) (h : W.length = m + 2) : sliceA T 141 (.slice (strs (a :: W)) (m + 2 + 1) t) (some (.int .i64 1)) (some (.int .i64 (m + 1 : Nat))) none = some (.slice (strs (W.take m)) m .unk) := by
 have hd : descOf T 141 = some (.slice 9) := rfl
 have hb : bnd (some (.int .i64 1)) 0 (m + 1) = some 1 := by simp [bnd]; omega
 have hb2 : bnd (some (.int .i64 (m + 1 : Nat))) (m + 2 + 1) (m + 2 + 1) = some (m + 1) := by
  simp only [bnd]
  rw [if_pos (by omega)]
  rfl
 simp only [sliceA, hd, T9]
 rw [if_pos (by simp [ti9, h]), hb2]
 simp only [Option.bind_some, hb, Option.map_some]
 simp [strs, ti9]
theorem foldR_app : ∀ (l : LLine) (xs ys : List ByteArray), foldR l (xs ++ ys) = (foldR l xs).bind fun l' => foldR l' ys
 | l, [], ys => rfl
 | l, x :: xs, ys => by
  simp only [List.cons_append, foldR]
  cases stepR l x with
  | none => rfl
  | some l' => simp only [Option.bind_some]; exact foldR_app l' xs ys
theorem foldR_one (l : LLine) (x : ByteArray) : foldR l [x] = stepR l x := by
 simp only [foldR]; cases stepR l x <;> rfl
theorem foldR_next {l0 l : LLine} {rows : List ByteArray} {k : Nat} (hk : k < rows.length) (h : foldR l0 (rows.take k) = some l) : foldR l0 (rows.take (k + 1)) = stepR l rows[k] := by
 rw [List.take_succ_eq_append_getElem hk, foldR_app, h, Option.bind_some, foldR_one]
theorem foldR_fail {l0 l : LLine} {rows : List ByteArray} {k : Nat} (hk : k < rows.length) (h : foldR l0 (rows.take k) = some l) (h2 : stepR l rows[k] = none) : foldR l0 rows = none := by
 rw [show rows = rows.take (k + 1) ++ rows.drop (k + 1) by simp, foldR_app, foldR_next hk h, h2]; rfl
structure Sm (l : LLine) : Prop where
 head : ∀ n ∈ [l.least, l.most, l.taps], 0 ≤ n ∧ n ≤ 999
 give : ∀ n ∈ l.gives, 0 ≤ n ∧ n ≤ 999
 count : ∀ c ∈ l.counts, ∀ n ∈ [c.point, c.low, c.high], 0 ≤ n ∧ n ≤ 999
def pG (l : LLine) (tg : Nat) : AV := grt (ints l.gives) l.gives.length tg
def pC (l : LLine) (tc : Nat) : AV := grt (cnts l.counts) l.counts.length tc
@[go_sem] theorem pG_one (l : LLine) (t : Nat) : AV.one (pG l t) = true := grt_one _ _ _
@[go_sem] theorem pC_one (l : LLine) (t : Nat) : AV.one (pC l t) = true := grt_one _ _ _
structure PI (l0 : LLine) (rows : List ByteArray) (k : Nat) (l : LLine) (tg tc : Nat) (toks : List Nat) : Prop where
 fold : foldR l0 (rows.take k) = some l
 len : l.gives.length + l.counts.length = k
 small : Sm l
 same : l.least = l0.least ∧ l.most = l0.most ∧ l.taps = l0.taps
 htg : l.gives.length ≠ 0 → tg ∈ toks
 htc : l.counts.length ≠ 0 → tc ∈ toks
 ne : l.gives.length ≠ 0 → l.counts.length ≠ 0 → tg ≠ tc
 lt : ∀ t ∈ toks, t < k
def zeroC : List AV := [.nilS, .int .i64 0, .int .i64 0, .int .i64 0, .nilS]
def pSt (l : LLine) (tg tc k : Nat) (toks : List Nat) : St := ⟨[some (.cells [.nilS, .int .i64 0, .int .i64 0, .int .i64 0, .nilS]), some (.cells [pG l tg, .int .i64 l.least, .int .i64 l.most, .int .i64 l.taps, pC l tc])], k, toks⟩
theorem line_sub (l : LLine) (tg tc : Nat) : Sub (.agg [pG l tg, .int .i64 l.least, .int .i64 l.most, .int .i64 l.taps, pC l tc]) (lineA l) := by
 refine Sub.agg (SubL.cons ?_ (SubL.cons (Sub.refl _) (SubL.cons (Sub.refl _) (SubL.cons (Sub.refl _) (SubL.cons ?_ (SubL.refl []))))))
 ·exact grt_sub _ _ _ (by cases l.gives <;> simp)
 ·exact grt_sub _ _ _ (by cases l.counts <;> simp)
theorem Sm.plain {l : LLine} (h : Sm l) (hn : l.gives.length + l.counts.length ≤ 900) : Plain l where
 gives := by omega
 counts := by omega
 head := fun n hn => by have := h.head n hn; exact ⟨by omega, by omega⟩
 give := fun n hn => by have := h.give n hn; exact ⟨by omega, by omega⟩
 count := fun c hc n hn => by have := h.count c hc n hn; exact ⟨by omega, by omega⟩
theorem PI.pushG {l0 l : LLine} {rows : List ByteArray} {k tg tc : Nat} {toks toks' : List Nat} {hh : List (Option Blk)} (h : PI l0 rows k l tg tc toks) (x : Int) (hx : 0 ≤ x ∧ x ≤ 999) (hf : foldR l0 (rows.take (k + 1)) = some { l with gives := l.gives ++ [x] }) (hp : Push ⟨hh, k, toks⟩ (if l.gives.length = 0 then none else some tg) toks') :
  PI l0 rows (k + 1) { l with gives := l.gives ++ [x] } k tc toks' where
 fold := hf
 len := by have := h.len; simp; omega
 small := ⟨h.small.head, fun n hn => by
  rcases List.mem_append.1 hn with hn | hn
  ·exact h.small.give n hn
  ·simp at hn; subst hn; exact hx, h.small.count⟩
 same := h.same
 htg := fun _ => hp.new
 htc := fun hc => hp.kept tc (h.htc hc) (by
  split
  ·intro e; cases e
  ·rename_i hg; intro e; cases e; exact h.ne hg hc rfl)
 ne := fun _ hc e => by
  have := h.lt tc (h.htc hc)
  omega
 lt := fun t ht => by
  rcases hp.old t ht with e | e
  ·have : t = k := e
   omega
  ·have := h.lt t e; omega
theorem PI.pushC {l0 l : LLine} {rows : List ByteArray} {k tg tc : Nat} {toks toks' : List Nat} {hh : List (Option Blk)} (h : PI l0 rows k l tg tc toks) (c : Cnt) (hx : ∀ n ∈ [c.point, c.low, c.high], 0 ≤ n ∧ n ≤ 999) (hf : foldR l0 (rows.take (k + 1)) = some { l with counts := l.counts ++ [c] }) (hp : Push ⟨hh, k, toks⟩ (if l.counts.length = 0 then none else some tc) toks') :
  PI l0 rows (k + 1) { l with counts := l.counts ++ [c] } tg k toks' where
 fold := hf
 len := by have := h.len; simp; omega
 small := ⟨h.small.head, h.small.give, fun n hn => by
  rcases List.mem_append.1 hn with hn | hn
  ·exact h.small.count n hn
  ·simp at hn; subst hn; exact hx⟩
 same := h.same
 htc := fun _ => hp.new
 htg := fun hc => hp.kept tg (h.htg hc) (by
  split
  ·intro e; cases e
  ·rename_i hg; intro e; cases e; exact h.ne hc hg rfl)
 ne := fun hc _ e => by
  have := h.lt tg (h.htg hc)
  omega
 lt := fun t ht => by
  rcases hp.old t ht with e | e
  ·have : t = k := e
   omega
  ·have := h.lt t e; omega
theorem parsed_ac (s : ByteArray) (hs : s.size ≤ 900) (S : St) : AC Tryz.prog 110 [.str s] S fun e S' =>
  ((∃ v, e = .ret v ∧ ∃ l, parsedB s = some l ∧ v = lineA l) ∨ (∃ v, e = .panic v ∧ parsedB s = none ∧ Gives v)) ∧ S' = S := by
 refine AC.of_iso ?_ rfl (fun v ⟨l, _, h⟩ => by subst h; simp [bndL, AV.bnd]) (fun v h => h.2.bnd) S
 refine AC.sub (R := fun e _ => (∃ v, e = .ret v ∧ ∃ l tg tc, parsedB s = some l ∧ v = .agg [pG l tg, .int .i64 l.least, .int .i64 l.most, .int .i64 l.taps, pC l tc]) ∨ (∃ v, e = .panic v ∧ parsedB s = none ∧ Gives v)) ?_ ?_ ?_
 ·refine AC.run (E_ok _) mix Tryz.func110 m110 rfl rfl rfl (Nat.le_of_ble_eq_true rfl) ?_
  simp only [go_sem, reduceEqDiff, Nat.reduceBEq, reduceAdd, reduceIte, reduceCtorEq, reduceLeDiff]
  refine cp n142 (Split_pc s 10 (by omega)) (SubL.refl _) ?_
  simp only [go_sem, builtinA, reduceEqDiff, Nat.reduceBEq, reduceAdd, reduceIte, reduceCtorEq, reduceLeDiff]
  have hR := splitL_len s 10
  have hP : parsedB s = if 3 ≤ (splitL s 10).length then
   (toldB ((splitL s 10).headD ByteArray.empty) 0 3).bind fun ns =>
    (foldR ⟨[], ns.getD 0 0, ns.getD 1 0, ns.getD 2 0, []⟩ ((splitL s 10).tail.take ((splitL s 10).length - 3))).bind fun l =>
     if textB l = s then some l else none
   else none := rfl
  rw [hP]
  clear hP
  have hsz : ∀ r ∈ splitL s 10, r.size ≤ 900 := fun r hr => Nat.le_trans (splitL_size hr) hs
  generalize splitL s 10 = R at *
  by_cases h3 : ¬ 3 ≤ R.length
  ·have h3' : ¬ (R.length : Int) ≥ 3 := by omega
   rw [if_neg h3, decide_eq_false h3']
   exact sn s fun v h => .inr ⟨v, rfl, rfl, h⟩
  have h3 : 3 ≤ R.length := Decidable.not_not.1 h3
  have h3' : (R.length : Int) ≥ 3 := by omega
  rw [if_pos h3, decide_eq_true h3']
  refine cp n143 (sure_ok s) (SubL.refl _) ?_
  cases R with
  | nil => simp at h3
  | cons r0 R =>
   have z : (0 : Int) < ((R.length + 1 : Nat) : Int) := by omega
   obtain ⟨m, hm⟩ : ∃ m, R.length = m + 2 := ⟨R.length - 2, by simp at h3; omega⟩
   have hm3 : (r0 :: R).length - 3 = m := by simp [hm]
   rw [hm3, List.tail_cons]
   simp only [go_sem, builtinA, z, Int.le_refl, Int.toNat_zero, strs_get, Option.map_some, List.headD_cons, List.tail_cons, reduceEqDiff, Nat.reduceBEq, reduceAdd, reduceIte, reduceCtorEq, reduceLeDiff]
   have h0 := hsz r0 List.mem_cons_self
   refine cac n144 (told_ac r0 0 3 (by decide) (by decide) (by omega) _) (fun v S' h => ?_) (fun v S' h => ?_)
   ·obtain ⟨⟨v', e, ns, hns, rfl⟩ | ⟨v', e, _⟩, rfl⟩ := h
    rotate_left
    ·cases e
    cases e
    obtain ⟨hn1, hn2⟩ := toldB_some hns
    rw [hns]
    match ns, hn1, hn2 with
    | [a, b, c], _, hn2 =>
     show _
     simp only [Option.bind_some, List.getD_cons_zero, List.getD_cons_succ]
     clear hns
     have q0 : 0 ≤ (0 : Int) ∧ (0 : Int) < ((3 : Nat) : Int) := by decide
     have q1 : 0 ≤ (1 : Int) ∧ (1 : Int) < ((3 : Nat) : Int) := by decide
     have q2 : 0 ≤ (2 : Int) ∧ (2 : Int) < ((3 : Nat) : Int) := by decide
     simp only [go_sem, q0, q1, q2, ints, List.map_cons, List.map_nil, Int.le_refl, Int.reduceToNat, reduceEqDiff, Nat.reduceBEq, reduceAdd, reduceIte, reduceCtorEq, reduceLeDiff]
     have hRl : R.length ≤ 902 := by simp at hR; omega
     have w1 : IntKind.i64.wrap (((R.length + 1 : Nat) : Int) - 2) = (m + 1 : Nat) := by rw [wrap64 (by omega)]; omega
     have hsl := slS2 r0 R .exact m hm
     rw [hm] at w1
     simp only [go_sem, builtinA, hm, w1, hsl, reduceEqDiff, Nat.reduceBEq, reduceAdd, reduceIte, reduceCtorEq, reduceLeDiff]
     have hrs : ∀ r ∈ R.take m, r.size ≤ 900 := fun r hr => hsz r (List.mem_cons_of_mem _ (List.mem_of_mem_take hr))
     have hrl : (R.take m).length = m := by simp [hm]
     have hm9 : m ≤ 900 := by omega
     have hhead : ∀ n ∈ [a, b, c], 0 ≤ n ∧ n ≤ 999 := hn2
     clear hsl w1 hm hm3 hsz hR h3 h3' z h0 q0 q1 q2 hn2
     generalize hrows : R.take m = rows at *
     clear hrows hRl
     generalize hl0 : (⟨[], a, b, c, []⟩ : LLine) = l0
     refine wc_loop (fun n ts' S' => ∃ k l tg tc toks, PI l0 rows k l tg tc toks ∧ k ≤ m ∧ n = m - k ∧ ts' = [(0, .str s), (2, .ref 0 0), (5, .ref 1 0), (35, .slice (strs rows) m .unk), (36, .int .i64 m), (37, .int .i64 k)] ∧ S' = pSt l tg tc k toks) m ⟨0, l0, 0, 0, [], ?_, Nat.zero_le _, rfl, rfl, by subst hl0; rfl⟩ ?_
     ·subst hl0
      exact ⟨rfl, rfl, ⟨hhead, fun n h => (by cases h), fun c h => (by cases h)⟩, ⟨rfl, rfl, rfl⟩, fun h => absurd rfl h, fun h => absurd rfl h, fun h => absurd rfl h, fun t h => (by cases h)⟩
     rintro n ts' S' ⟨k, l, tg, tc, toks, hI, hk, rfl, rfl, rfl⟩
     unfold pSt
     by_cases h' : k < m
     ·have h1 : (k : Int) < m := by omega
      have h2 : 0 ≤ (k : Int) ∧ (k : Int) < m := by omega
      have hkr : k < rows.length := by omega
      have h3 : rows[k]? = some rows[k] := List.getElem?_eq_getElem hkr
      have h4 : IntKind.i64.wrap ((k : Int) + 1) = (k + 1 : Nat) := wrap64 (by omega)
      have hsz := hrs _ (List.getElem_mem hkr)
      simp only [go_sem, l110_0, builtinA, h1, decide_true, h2, strs_get, h3, reduceEqDiff, Nat.reduceBEq, reduceAdd, reduceIte, reduceCtorEq, reduceLeDiff]
      refine cp n146 words_pc (SubL.refl _) ?_
      simp only [go_sem, reduceEqDiff, Nat.reduceBEq, reduceAdd, reduceIte, reduceCtorEq, reduceLeDiff]
      refine cp n145 (HasPrefix_pc _ _) (SubL.refl _) ?_
      have hpre : Lib.hasPrefix rows[k].data.toList (wordB 1).data.toList = stretchW rows[k] := rfl
      rw [hpre]
      have hfail := fun h => foldR_fail hkr hI.fold h
      have hnxt := foldR_next hkr hI.fold
      unfold stepR at hfail hnxt
      generalize rows[k] = r at *
      have q0 : 0 ≤ (0 : Int) ∧ (0 : Int) < ((1 : Nat) : Int) := by decide
      cases hw : stretchW r
      ·rw [hw, if_neg (by decide)] at hfail hnxt
       have q0 : 0 ≤ (0 : Int) ∧ (0 : Int) < ((3 : Nat) : Int) := by decide
       have q1 : 0 ≤ (1 : Int) ∧ (1 : Int) < ((3 : Nat) : Int) := by decide
       have q2 : 0 ≤ (2 : Int) ∧ (2 : Int) < ((3 : Nat) : Int) := by decide
       simp only [go_sem, reduceEqDiff, Nat.reduceBEq, reduceAdd, reduceIte, reduceCtorEq, reduceLeDiff]
       refine cac n144 (told_ac r 2 3 (by decide) (by decide) (by omega) _) (fun v S' h => ?_) (fun v S' h => ?_)
       ·obtain ⟨⟨v', e, ns, hns, rfl⟩ | ⟨v', e, _⟩, rfl⟩ := h
        rotate_left
        ·cases e
        cases e
        obtain ⟨hn1, hn2⟩ := toldB_some hns
        rw [hns] at hnxt
        match ns, hn1, hn2 with
        | [x, y, z], _, hn2 =>
         simp only [Option.map_some, List.getD_cons_zero, List.getD_cons_succ] at hnxt
         simp only [go_sem, q0, q1, q2, ints, List.map_cons, List.map_nil, Int.reduceToNat, builtinA, reduceEqDiff, Nat.reduceBEq, reduceAdd, reduceIte, reduceCtorEq, reduceLeDiff]
         refine sr_push (t := 23) (e := 82) (ei := ti82) rfl rfl (by decide) (by decide) (l := cnts l.counts) (lx := [.int .i64 x, .int .i64 y, .int .i64 z]) (n := l.counts.length) (k := tc) (by simp [ti82]; omega) rfl rfl (by have := hI.len; omega) hI.htc rfl fun toks' hp => ?_
         simp only [go_sem, h4, put_eq, reduceEqDiff, Nat.reduceBEq, reduceAdd, reduceIte, reduceCtorEq, reduceLeDiff]
         refine again_here (m - (k + 1)) (by omega) ⟨k + 1, { l with counts := l.counts ++ [⟨x, y, z⟩] }, tg, k, toks', hI.pushC ⟨x, y, z⟩ hn2 hnxt hp, h', rfl, rfl, ?_⟩
         simp [pG, pC, cnts, cntC]
       ·obtain ⟨⟨v', e, _⟩ | ⟨v', e, hn, h⟩, rfl⟩ := h
        ·cases e
        ·cases e
         rw [hn] at hfail
         exact .inr ⟨_, rfl, by rw [hfail rfl]; rfl, h⟩
      ·rw [hw, if_pos rfl] at hfail hnxt
       simp only [go_sem, reduceEqDiff, Nat.reduceBEq, reduceAdd, reduceIte, reduceCtorEq, reduceLeDiff]
       refine cac n144 (told_ac r 1 1 (by decide) (by decide) (by omega) _) (fun v S' h => ?_) (fun v S' h => ?_)
       ·obtain ⟨⟨v', e, ns, hns, rfl⟩ | ⟨v', e, _⟩, rfl⟩ := h
        rotate_left
        ·cases e
        cases e
        obtain ⟨hn1, hn2⟩ := toldB_some hns
        rw [hns] at hnxt
        match ns, hn1, hn2 with
        | [x], _, hn2 =>
         simp only [Option.map_some, List.getD_cons_zero] at hnxt
         simp only [go_sem, q0, ints, List.map_cons, List.map_nil, Int.reduceToNat, builtinA, reduceEqDiff, Nat.reduceBEq, reduceAdd, reduceIte, reduceCtorEq, reduceLeDiff]
         refine sr_push (t := 22) (e := 3) (ei := ti3) rfl rfl (by decide) (by decide) (l := ints l.gives) (lx := [.int .i64 x]) (n := l.gives.length) (k := tg) (by simp [ti3]) rfl rfl (by have := hI.len; omega) hI.htg rfl fun toks' hp => ?_
         simp only [go_sem, h4, put_eq, reduceEqDiff, Nat.reduceBEq, reduceAdd, reduceIte, reduceCtorEq, reduceLeDiff]
         refine again_here (m - (k + 1)) (by omega) ⟨k + 1, { l with gives := l.gives ++ [x] }, k, tc, toks', hI.pushG x (hn2 x List.mem_cons_self) hnxt hp, h', rfl, rfl, ?_⟩
         simp [pG, pC, ints]
       ·obtain ⟨⟨v', e, _⟩ | ⟨v', e, hn, h⟩, rfl⟩ := h
        ·cases e
        ·cases e
         rw [hn] at hfail
         exact .inr ⟨_, rfl, by rw [hfail rfl]; rfl, h⟩
     ·have h1 : ¬ (k : Int) < m := by omega
      have e : k = m := by omega
      subst e
      simp only [go_sem, l110_0, builtinA, h1, decide_false, reduceEqDiff, Nat.reduceBEq, reduceAdd, reduceIte, reduceCtorEq, reduceLeDiff]
      have hfold := hI.fold
      rw [← hrl, List.take_length] at hfold
      rw [hfold, Option.bind_some]
      have hlen := hI.len
      refine cp n107 (text_pc l (hI.small.plain (by omega))) (SubL.cons (line_sub l tg tc) (SubL.refl [])) ?_
      simp only [go_sem, eqS, reduceEqDiff, Nat.reduceBEq, reduceAdd, reduceIte, reduceCtorEq, reduceLeDiff]
      by_cases ht : textB l = s
      ·rw [decide_eq_true ht, if_pos ht]
       refine cp n143 (sure_ok s) (SubL.refl _) ?_
       simp only [go_sem, Tryz.f110, reduceEqDiff, Nat.reduceBEq, reduceAdd, reduceIte, reduceCtorEq, reduceLeDiff]
       exact .inl ⟨_, rfl, l, tg, tc, rfl, rfl⟩
      ·rw [decide_eq_false ht, if_neg ht]
       exact sn s fun v h => .inr ⟨v, rfl, rfl, h⟩
   ·obtain ⟨⟨v', e, _⟩ | ⟨v', e, hn, h⟩, rfl⟩ := h
    ·cases e
    ·cases e
     exact .inr ⟨_, rfl, by rw [hn]; rfl, h⟩
 ·rintro v S' (⟨v', e, l, tg, tc, h1, h2⟩ | ⟨v', e, _⟩)
  ·cases e
   refine ⟨lineA l, ?_, .inl ⟨_, rfl, l, h1, rfl⟩⟩
   rw [h2]; exact line_sub l tg tc
  ·cases e
 ·rintro v S' (⟨v', e, _⟩ | h)
  ·cases e
  ·exact .inr h
def readA (s : ByteArray) : AV :=
 if s.size ≤ 300 then
  match parsedB s with
  | some l => if isLineB l = true then .tuple [lineA l, .int .i64 0] else .tuple [.agg zeroC, .int .i64 2]
  | none => .tuple [.agg zeroC, .int .i64 4]
 else .tuple [.agg zeroC, .int .i64 3]
theorem readA_bnd (s : ByteArray) : (readA s).bnd 0 0 = true := by
 unfold readA
 repeat' split
 all_goals simp [bndL, AV.bnd, zeroC]
theorem Read1_ac (s : ByteArray) (hs : s.size ≤ 900) (S : St) (i j : Nat) (z0 z1 z2 z3 z4 : AV) (h1 : cellsAt S.heap i = some [.str s]) (h2 : cellsAt S.heap j = some [z0, z1, z2, z3, z4]) : AC Tryz.prog 109 [.ref i 0, .ref j 0] S fun e S' =>
  (∃ l, parsedB s = some l ∧ e = .ret (.tuple []) ∧ S' = ⟨setH S.heap j (.cells (lineC l)), S.nt, S.toks⟩) ∨ (parsedB s = none ∧ (∃ v, e = .panic v ∧ Gives v) ∧ S' = S) := by
 refine AC.run (Es_ok _ S) mix Tryz.func109 m109 rfl rfl rfl (Nat.le_of_ble_eq_true rfl) ?_
 simp only [go_sem, h1, h2, reduceEqDiff, Nat.reduceBEq, reduceAdd, reduceIte, reduceCtorEq, reduceLeDiff]
 refine call_ac (E := Es _ S) n110 (parsed_ac s hs _) (fun v S' h => ?_) (fun v S' h => ?_)
 ·obtain ⟨⟨v', e, l, hl, rfl⟩ | ⟨v', e, _⟩, rfl⟩ := h
  ·cases e
   simp only [go_sem, h2, put_eq, Tryz.f109, reduceEqDiff, Nat.reduceBEq, reduceAdd, reduceIte, reduceCtorEq, reduceLeDiff]
   exact .inl ⟨l, hl, rfl, rfl⟩
  ·cases e
 ·obtain ⟨⟨v', e, _⟩ | ⟨v', e, hn, h⟩, rfl⟩ := h
  ·cases e
  ·cases e
   exact .inr ⟨hn, ⟨_, rfl, h⟩, rfl⟩
theorem cellsAt_setH {h : List (Option Blk)} {b : Nat} {l l' : List AV} (hb : cellsAt h b = some l) : cellsAt (setH h b (.cells l')) b = some l' := by
 have := cellsAt_set (l' := l') hb []
 rwa [List.append_nil] at this
theorem stepR_len {l l' : LLine} {r : ByteArray} (h : stepR l r = some l') : l'.gives.length + l'.counts.length = l.gives.length + l.counts.length + 1 := by
 unfold stepR at h
 split at h
 ·cases hx : toldB r 1 1 with
  | none => rw [hx] at h; cases h
  | some ns => rw [hx] at h; cases h; simp; omega
 ·cases hx : toldB r 2 3 with
  | none => rw [hx] at h; cases h
  | some ns => rw [hx] at h; cases h; simp; omega
theorem foldR_len : ∀ {rows : List ByteArray} {l l' : LLine}, foldR l rows = some l' → l'.gives.length + l'.counts.length = l.gives.length + l.counts.length + rows.length
 | [], l, l', h => by cases h; rfl
 | r :: rows, l, l', h => by
  unfold foldR at h
  cases hx : stepR l r with
  | none => rw [hx] at h; cases h
  | some l1 =>
   rw [hx] at h
   have h1 := stepR_len hx
   have h2 := foldR_len h
   simp only [List.length_cons]; omega
theorem parsedB_some {s : ByteArray} {l : LLine} (h : parsedB s = some l) : 3 ≤ (splitL s 10).length ∧ textB l = s ∧ ∃ ns, toldB ((splitL s 10).headD ByteArray.empty) 0 3 = some ns ∧ foldR ⟨[], ns.getD 0 0, ns.getD 1 0, ns.getD 2 0, []⟩ ((splitL s 10).tail.take ((splitL s 10).length - 3)) = some l := by
 unfold parsedB at h
 split at h
 ·rename_i h3
  refine ⟨h3, ?_⟩
  cases hx : toldB ((splitL s 10).headD ByteArray.empty) 0 3 with
  | none => rw [hx] at h; cases h
  | some ns =>
   rw [hx, Option.bind_some] at h
   cases hy : foldR ⟨[], ns.getD 0 0, ns.getD 1 0, ns.getD 2 0, []⟩ ((splitL s 10).tail.take ((splitL s 10).length - 3)) with
   | none => rw [hy] at h; cases h
   | some l1 =>
    rw [hy, Option.bind_some] at h
    split at h
    ·rename_i ht
     cases h
     exact ⟨ht, ns, rfl, hy⟩
    ·cases h
 ·cases h
theorem parsedB_ok {s : ByteArray} {l : LLine} (h : parsedB s = some l) (hs : s.size ≤ 900) : okLine l := by
 obtain ⟨_, _, ns, _, hf⟩ := parsedB_some h
 have h1 := foldR_len hf
 have h2 := splitL_len s 10
 simp at h1
 constructor <;> (unfold okL; omega)
theorem Read_pc (s : ByteArray) (hs : s.size < 9223372036854775807) : PC Tryz.prog 61 [.str s] (.pure (readA s)) := by
 refine PC.of_empty (AC.run (E_ok _) mix Tryz.func61 m61 rfl rfl rfl (Nat.le_of_ble_eq_true rfl) ?_) rfl (readA_bnd s)
 unfold readA
 by_cases h3 : ¬ s.size ≤ 300
 ·have h3' : (s.size : Int) > 300 := by omega
  rw [if_neg h3]
  simp only [go_sem, boxA, builtinA, h3', decide_true, Tryz.f61, reduceEqDiff, Nat.reduceBEq, reduceAdd, reduceIte, reduceCtorEq, reduceLeDiff]
  rfl
 have h3 : s.size ≤ 300 := Decidable.not_not.1 h3
 have h3' : ¬ (s.size : Int) > 300 := by omega
 rw [if_pos h3]
 simp only [go_sem, boxA, builtinA, h3', decide_false, reduceEqDiff, Nat.reduceBEq, reduceAdd, reduceIte, reduceCtorEq, reduceLeDiff]
 refine cac n108 (try_ac (R := fun e S' => ∃ k : Int, e = .ret (.int .i64 k) ∧ ((∃ l, parsedB s = some l ∧ k = 0 ∧ cellsAt S'.heap 1 = some zeroC ∧ cellsAt S'.heap 2 = some (lineC l)) ∨ (parsedB s = none ∧ k = 4 ∧ cellsAt S'.heap 1 = some zeroC))) n109 (Read1_ac s (by omega) _ 0 2 _ _ _ _ _ rfl rfl) ?_ ?_) ?_ ?_
 ·rintro v S' (⟨l, hl, e, rfl⟩ | ⟨_, ⟨v', e, _⟩, _⟩)
  ·exact ⟨rfl, 0, rfl, .inl ⟨l, hl, rfl, rfl, rfl⟩⟩
  ·cases e
 ·rintro v S' (⟨l, hl, e, rfl⟩ | ⟨hn, ⟨v', e, why, rfl⟩, rfl⟩)
  ·cases e
  ·cases e
   exact ⟨rfl, .inr ⟨why, rfl, 4, rfl, .inr ⟨hn, rfl, rfl⟩⟩⟩
 ·rintro v S' ⟨k, e, ⟨l, hl, rfl, hc1, hc2⟩ | ⟨hn, rfl, hc1⟩⟩
  ·cases e
   rw [hl]
   unfold zeroC at hc1
   have z0 : ¬ ((0 : Int) ≠ 0) := by decide
   simp only [go_sem, z0, decide_false, hc1, hc2, reduceEqDiff, Nat.reduceBEq, reduceAdd, reduceIte, reduceCtorEq, reduceLeDiff]
   refine cp n82 (isLine_pc l (parsedB_ok hl (by omega))) (SubL.refl _) ?_
   have hp := fun l' => cellsAt_setH (l' := l') hc1
   cases hb : isLineB l
   ·simp only [go_sem, un_not, Bool.not_false, hc1, put_eq, Tryz.f61, hp, reduceEqDiff, Nat.reduceBEq, reduceAdd, reduceIte, reduceCtorEq, reduceLeDiff]
    rfl
   ·simp only [go_sem, un_not, Bool.not_true, hc1, hc2, put_eq, Tryz.f61, hp, reduceEqDiff, Nat.reduceBEq, reduceAdd, reduceIte, reduceCtorEq, reduceLeDiff]
  ·cases e
   rw [hn]
   unfold zeroC at hc1
   have z0 : ((4 : Int) ≠ 0) := by decide
   have hp := fun l' => cellsAt_setH (l' := l') hc1
   simp only [go_sem, z0, decide_true, hc1, put_eq, Tryz.f61, hp, reduceEqDiff, Nat.reduceBEq, reduceAdd, reduceIte, reduceCtorEq, reduceLeDiff]
   rfl
 ·rintro v S' ⟨k, e, _⟩
  cases e
end Go.Av.Fx
end
section
namespace Go.Av.Fx
open Go Go.Av Go.Av.Tb Go.Proofs
theorem rin_pc (x lo hi : Int) : PC Tryz.prog 80 [.int .i64 x, .int .i64 lo, .int .i64 hi] (.pure (.bool (inB x lo hi))) := by
 refine PC.of_empty (AC.run (E_ok 15) mix Tryz.func80 m80 rfl rfl rfl (Nat.le_of_ble_eq_true rfl) ?_) rfl rfl
 unfold inB
 simp only [go_sem, reduceEqDiff, Nat.reduceBEq, reduceAdd, reduceIte, reduceCtorEq, reduceLeDiff]
 refine sg_dec (fun h => ?_) (fun h => ?_)
 ·simp only [go_sem, h, decide_true, Tryz.f80, Bool.true_and, reduceEqDiff, Nat.reduceBEq, reduceAdd, reduceIte, reduceCtorEq, reduceLeDiff]
 ·simp only [go_sem, h, decide_false, Tryz.f80, Bool.false_and, reduceEqDiff, Nat.reduceBEq, reduceAdd, reduceIte, reduceCtorEq, reduceLeDiff]
theorem rPoint_pc (l : LLine) (n : Int) : PC Tryz.prog 37 [lineA l, .int .i64 n] (.pure (.bool (inB n 0 l.gives.length))) := by
 refine PC.of_empty (AC.run (E_ok _) mix Tryz.func37 m37 rfl rfl rfl (Nat.le_of_ble_eq_true rfl) ?_) (by simp [bndL, AV.bnd]) rfl
 simp only [go_sem, boxA, builtinA, reduceEqDiff, Nat.reduceBEq, reduceAdd, reduceIte, reduceCtorEq, reduceLeDiff]
 refine cp n80 (rin_pc _ _ _) (SubL.refl _) ?_
 simp only [go_sem, Tryz.f37, reduceEqDiff, Nat.reduceBEq, reduceAdd, reduceIte, reduceCtorEq, reduceLeDiff]
theorem rOff_pc (n : Int) : PC Tryz.prog 44 [.int .i64 n] (.pure (.bool (inB n 0 20))) := by
 refine PC.of_empty (AC.run (E_ok _) mix Tryz.func44 m44 rfl rfl rfl (Nat.le_of_ble_eq_true rfl) ?_) rfl rfl
 simp only [go_sem, reduceEqDiff, Nat.reduceBEq, reduceAdd, reduceIte, reduceCtorEq, reduceLeDiff]
 refine cp n80 (rin_pc _ _ _) (SubL.refl _) ?_
 simp only [go_sem, Tryz.f44, reduceEqDiff, Nat.reduceBEq, reduceAdd, reduceIte, reduceCtorEq, reduceLeDiff]
def cntR (l : LLine) (c : Cnt) : Bool := inB c.point 0 l.gives.length && inB c.low 0 400 && inB c.high c.low 400
theorem rCount_pc (l : LLine) (c : Cnt) : PC Tryz.prog 81 [lineA l, .agg (cntC c)] (.pure (.bool (cntR l c))) := by
 refine PC.of_empty (AC.run (E_ok _) mix Tryz.func81 m81 rfl rfl rfl (Nat.le_of_ble_eq_true rfl) ?_) (by simp [bndL, AV.bnd]) rfl
 unfold cntR
 simp only [go_sem, boxA, reduceEqDiff, Nat.reduceBEq, reduceAdd, reduceIte, reduceCtorEq, reduceLeDiff]
 refine cp n37 (rPoint_pc l _) (SubL.refl _) ?_
 cases h1 : inB c.point 0 l.gives.length
 ·simp only [go_sem, Tryz.f81, Bool.false_and, reduceEqDiff, Nat.reduceBEq, reduceAdd, reduceIte, reduceCtorEq, reduceLeDiff]
 ·simp only [go_sem, reduceEqDiff, Nat.reduceBEq, reduceAdd, reduceIte, reduceCtorEq, reduceLeDiff]
  refine cp n80 (rin_pc _ _ _) (SubL.refl _) ?_
  cases h2 : inB c.low 0 400
  ·simp only [go_sem, Tryz.f81, Bool.false_and, Bool.true_and, reduceEqDiff, Nat.reduceBEq, reduceAdd, reduceIte, reduceCtorEq, reduceLeDiff]
  ·simp only [go_sem, reduceEqDiff, Nat.reduceBEq, reduceAdd, reduceIte, reduceCtorEq, reduceLeDiff]
   refine cp n80 (rin_pc _ _ _) (SubL.refl _) ?_
   simp only [go_sem, Tryz.f81, Bool.true_and, reduceEqDiff, Nat.reduceBEq, reduceAdd, reduceIte, reduceCtorEq, reduceLeDiff]
theorem list_ext {α : Type} {a b : List α} (hl : a.length = b.length) (h : ∀ i (h1 : i < a.length) (h2 : i < b.length), a[i] = b[i]) : a = b :=
 List.ext_getElem hl fun i h1 h2 => h i h1 h2
theorem Same_pc (a b : List Int) (ha : okL a.length) (hb : okL b.length) : PC Tryz.prog 50 [sl a, sl b] (.pure (.bool (decide (a = b)))) := by
 refine PC.of_empty (AC.run (E_ok _) mix Tryz.func50 m50 rfl rfl rfl (Nat.le_of_ble_eq_true rfl) ?_) (by simp [bndL, AV.bnd]) rfl
 by_cases hl : a.length = b.length
 ·have hn : ¬ ((a.length : Int) ≠ b.length) := fun h => h (by omega)
  simp only [go_sem, builtinA, hn, decide_false, reduceEqDiff, Nat.reduceBEq, reduceAdd, reduceIte, reduceCtorEq, reduceLeDiff]
  refine wc_forP a.length (fun k => ∀ i (h1 : i < k) (h2 : i < a.length) (h3 : i < b.length), a[i] = b[i]) (fun k => [(0, sl a), (1, sl b), (5, .int .i64 k)]) (fun _ => St.empty) (fun i hi => absurd hi (Nat.not_lt_zero _)) rfl rfl ?_
  intro k hk hP I hI
  by_cases h : k < a.length
  ·have h' : (k : Int) < a.length := by omega
   have h2 : 0 ≤ (k : Int) ∧ (k : Int) < a.length := by omega
   have h2' : 0 ≤ (k : Int) ∧ (k : Int) < b.length := by omega
   have hkb : k < b.length := by omega
   have h3 : a[k]? = some a[k] := List.getElem?_eq_getElem h
   have h3' : b[k]? = some b[k] := List.getElem?_eq_getElem hkb
   have h4 : IntKind.i64.wrap ((k : Int) + 1) = (k + 1 : Nat) := wrap64 (by omega)
   by_cases hb : a[k] = b[k]
   ·have hq : ¬ a[k] ≠ b[k] := fun h => h hb
    simp only [go_sem, l50_0, builtinA, h', decide_true, h2, h2', ints_get, h3, h3', hq, decide_false, h4, reduceEqDiff, Nat.reduceBEq, reduceAdd, reduceIte, reduceCtorEq, reduceLeDiff]
    refine hI h fun i hi hi2 hi3 => ?_
    by_cases e : i = k
    ·subst e; exact hb
    ·exact hP i (by omega) hi2 hi3
   ·have hd : decide (a[k] ≠ b[k]) = true := decide_eq_true hb
    simp only [go_sem, l50_0, builtinA, h', decide_true, h2, h2', ints_get, h3, h3', hd, Tryz.f50, reduceEqDiff, Nat.reduceBEq, reduceAdd, reduceIte, reduceCtorEq, reduceLeDiff]
    rw [decide_eq_false (fun e => hb (by subst e; rfl))]
  ·have h' : ¬ (k : Int) < a.length := by omega
   simp only [go_sem, l50_0, builtinA, h', decide_false, Tryz.f50, reduceEqDiff, Nat.reduceBEq, reduceAdd, reduceIte, reduceCtorEq, reduceLeDiff]
   rw [decide_eq_true (list_ext hl fun i h1 h2 => hP i (by omega) h1 h2)]
 ·have hn : ((a.length : Int) ≠ b.length) := fun h => hl (by omega)
  have hd := decide_eq_true hn
  simp only [go_sem, builtinA, hd, Tryz.f50, reduceEqDiff, Nat.reduceBEq, reduceAdd, reduceIte, reduceCtorEq, reduceLeDiff]
  rw [decide_eq_false (fun e => hl (by rw [e]))]
theorem SameWords_pc (a b : List Int) (ha : okL a.length) (hb : okL b.length) : PC Tryz.prog 24 [sl a, sl b] (.pure (.bool (decide (a = b)))) := by
 refine PC.of_empty (AC.run (E_ok _) mix Tryz.func24 m24 rfl rfl rfl (Nat.le_of_ble_eq_true rfl) ?_) (by simp [bndL, AV.bnd]) rfl
 by_cases hl : a.length = b.length
 ·have hn : ¬ ((a.length : Int) ≠ b.length) := fun h => h (by omega)
  simp only [go_sem, builtinA, hn, decide_false, reduceEqDiff, Nat.reduceBEq, reduceAdd, reduceIte, reduceCtorEq, reduceLeDiff]
  refine wc_forP a.length (fun k => ∀ i (h1 : i < k) (h2 : i < a.length) (h3 : i < b.length), a[i] = b[i]) (fun k => [(0, sl a), (1, sl b), (5, .int .i64 k)]) (fun _ => St.empty) (fun i hi => absurd hi (Nat.not_lt_zero _)) rfl rfl ?_
  intro k hk hP I hI
  by_cases h : k < a.length
  ·have h' : (k : Int) < a.length := by omega
   have h2 : 0 ≤ (k : Int) ∧ (k : Int) < a.length := by omega
   have h2' : 0 ≤ (k : Int) ∧ (k : Int) < b.length := by omega
   have hkb : k < b.length := by omega
   have h3 : a[k]? = some a[k] := List.getElem?_eq_getElem h
   have h3' : b[k]? = some b[k] := List.getElem?_eq_getElem hkb
   have h4 : IntKind.i64.wrap ((k : Int) + 1) = (k + 1 : Nat) := wrap64 (by omega)
   by_cases hb : a[k] = b[k]
   ·have hq : ¬ a[k] ≠ b[k] := fun h => h hb
    simp only [go_sem, l24_0, builtinA, h', decide_true, h2, h2', ints_get, h3, h3', hq, decide_false, h4, reduceEqDiff, Nat.reduceBEq, reduceAdd, reduceIte, reduceCtorEq, reduceLeDiff]
    refine hI h fun i hi hi2 hi3 => ?_
    by_cases e : i = k
    ·subst e; exact hb
    ·exact hP i (by omega) hi2 hi3
   ·have hd : decide (a[k] ≠ b[k]) = true := decide_eq_true hb
    simp only [go_sem, l24_0, builtinA, h', decide_true, h2, h2', ints_get, h3, h3', hd, Tryz.f24, reduceEqDiff, Nat.reduceBEq, reduceAdd, reduceIte, reduceCtorEq, reduceLeDiff]
    rw [decide_eq_false (fun e => hb (by subst e; rfl))]
  ·have h' : ¬ (k : Int) < a.length := by omega
   simp only [go_sem, l24_0, builtinA, h', decide_false, Tryz.f24, reduceEqDiff, Nat.reduceBEq, reduceAdd, reduceIte, reduceCtorEq, reduceLeDiff]
   rw [decide_eq_true (list_ext hl fun i h1 h2 => hP i (by omega) h1 h2)]
 ·have hn : ((a.length : Int) ≠ b.length) := fun h => hl (by omega)
  have hd := decide_eq_true hn
  simp only [go_sem, builtinA, hd, Tryz.f24, reduceEqDiff, Nat.reduceBEq, reduceAdd, reduceIte, reduceCtorEq, reduceLeDiff]
  rw [decide_eq_false (fun e => hl (by rw [e]))]
def sls (L : List (List Int)) : List AV := L.map sl
abbrev sll (L : List (List Int)) : AV := .slice (sls L) L.length .unk
@[simp] theorem sls_get (L : List (List Int)) (i : Nat) : (sls L)[i]? = (L[i]?).map sl := by simp [sls]
@[simp] theorem sls_bnd (n k : Nat) (L : List (List Int)) : bndL n k (sls L) = true := bndL_map _ (fun _ => by simp [AV.bnd]) _
theorem SameSets_pc (a b : List (List Int)) (ha : okL a.length) (hb : okL b.length) (hA : ∀ x ∈ a, okL x.length) (hB : ∀ x ∈ b, okL x.length) : PC Tryz.prog 26 [sll a, sll b] (.pure (.bool (decide (a = b)))) := by
 refine PC.of_empty (AC.run (E_ok _) mix Tryz.func26 m26 rfl rfl rfl (Nat.le_of_ble_eq_true rfl) ?_) (by simp [bndL, AV.bnd]) rfl
 by_cases hl : a.length = b.length
 ·have hn : ¬ ((a.length : Int) ≠ b.length) := fun h => h (by omega)
  simp only [go_sem, builtinA, hn, decide_false, reduceEqDiff, Nat.reduceBEq, reduceAdd, reduceIte, reduceCtorEq, reduceLeDiff]
  refine wc_forP a.length (fun k => ∀ i (h1 : i < k) (h2 : i < a.length) (h3 : i < b.length), a[i] = b[i]) (fun k => [(0, sll a), (1, sll b), (5, .int .i64 k)]) (fun _ => St.empty) (fun i hi => absurd hi (Nat.not_lt_zero _)) rfl rfl ?_
  intro k hk hP I hI
  by_cases h : k < a.length
  ·have h' : (k : Int) < a.length := by omega
   have h2 : 0 ≤ (k : Int) ∧ (k : Int) < a.length := by omega
   have h2' : 0 ≤ (k : Int) ∧ (k : Int) < b.length := by omega
   have hkb : k < b.length := by omega
   have h3 : a[k]? = some a[k] := List.getElem?_eq_getElem h
   have h3' : b[k]? = some b[k] := List.getElem?_eq_getElem hkb
   have h4 : IntKind.i64.wrap ((k : Int) + 1) = (k + 1 : Nat) := wrap64 (by omega)
   have hS := Same_pc a[k] b[k] (hA _ (List.getElem_mem h)) (hB _ (List.getElem_mem hkb))
   simp only [go_sem, l26_0, builtinA, h', decide_true, h2, h2', sls_get, h3, h3', Option.map_some, reduceEqDiff, Nat.reduceBEq, reduceAdd, reduceIte, reduceCtorEq, reduceLeDiff]
   refine cp n50 hS (SubL.refl _) ?_
   by_cases hb : a[k] = b[k]
   ·rw [decide_eq_true hb]
    simp only [go_sem, un_not, Bool.not_true, h4, reduceEqDiff, Nat.reduceBEq, reduceAdd, reduceIte, reduceCtorEq, reduceLeDiff]
    refine hI h fun i hi hi2 hi3 => ?_
    by_cases e : i = k
    ·subst e; exact hb
    ·exact hP i (by omega) hi2 hi3
   ·rw [decide_eq_false hb]
    simp only [go_sem, un_not, Bool.not_false, Tryz.f26, reduceEqDiff, Nat.reduceBEq, reduceAdd, reduceIte, reduceCtorEq, reduceLeDiff]
    rw [decide_eq_false (fun e => hb (by subst e; rfl))]
  ·have h' : ¬ (k : Int) < a.length := by omega
   simp only [go_sem, l26_0, builtinA, h', decide_false, Tryz.f26, reduceEqDiff, Nat.reduceBEq, reduceAdd, reduceIte, reduceCtorEq, reduceLeDiff]
   rw [decide_eq_true (list_ext hl fun i h1 h2 => hP i (by omega) h1 h2)]
 ·have hn : ((a.length : Int) ≠ b.length) := fun h => hl (by omega)
  have hd := decide_eq_true hn
  simp only [go_sem, builtinA, hd, Tryz.f26, reduceEqDiff, Nat.reduceBEq, reduceAdd, reduceIte, reduceCtorEq, reduceLeDiff]
  rw [decide_eq_false (fun e => hl (by rw [e]))]
def lineR (l : LLine) : Bool := l.gives.all (fun g => inB g 0 60) && l.counts.all (cntR l) && (inB l.gives.length 1 5 && inB l.least 1 60 && inB l.most l.least 60 && inB l.taps 0 2 && decide ((l.counts.length : Int) ≤ 8))
theorem lineR_iff {l : LLine} : lineR l = true ↔ Ln l := by
 unfold lineR cntR
 simp only [Bool.and_eq_true, List.all_eq_true, inB_iff, decide_eq_true_eq]
 constructor
 ·rintro ⟨⟨h1, h2⟩, ⟨⟨⟨h3, h4⟩, h5⟩, h6⟩, h7⟩
  exact ⟨by omega, by omega, by omega, by omega, by omega, h1, fun c hc => by have := h2 c hc; omega⟩
 ·intro h
  have h1 := h.pts; have h2 := h.cts; have h3 := h.least; have h4 := h.most; have h5 := h.taps
  exact ⟨⟨h.gives, fun c hc => by have := h.counts c hc; omega⟩, ⟨⟨⟨by omega, by omega⟩, by omega⟩, by omega⟩, by omega⟩
theorem lineR_eq (l : LLine) : lineR l = isLineB l := by
 rw [Bool.eq_iff_iff, lineR_iff, isLine_iff]
theorem rLine_pc (l : LLine) (ok : okLine l) : PC Tryz.prog 28 [lineA l] (.pure (.bool (isLineB l))) := by
 rw [← lineR_eq]
 refine PC.of_empty (AC.run (E_ok _) mix Tryz.func28 m28 rfl rfl rfl (Nat.le_of_ble_eq_true rfl) ?_) (by simp [bndL, AV.bnd]) rfl
 obtain ⟨ok1, ok2⟩ := ok
 unfold okL at ok1 ok2
 simp only [go_sem, boxA, builtinA, reduceEqDiff, Nat.reduceBEq, reduceAdd, reduceIte, reduceCtorEq, reduceLeDiff]
 refine wc_forP l.gives.length (fun k => ∀ i (h1 : i < k) (h2 : i < l.gives.length), inB l.gives[i] 0 60 = true) (fun k => [(1, .ref 0 0), (3, .int .i64 k)]) (fun _ => ⟨[some (.cells (lineC l))], 0, []⟩) (fun i hi => absurd hi (Nat.not_lt_zero _)) rfl rfl ?_
 intro k hk hP I hI
 by_cases h : k < l.gives.length
 ·have h' : (k : Int) < l.gives.length := by omega
  have h2 : 0 ≤ (k : Int) ∧ (k : Int) < l.gives.length := by omega
  have h3 : l.gives[k]? = some l.gives[k] := List.getElem?_eq_getElem h
  have h4 : IntKind.i64.wrap ((k : Int) + 1) = (k + 1 : Nat) := wrap64 (by omega)
  simp only [go_sem, l28_0, builtinA, h', decide_true, h2, ints_get, h3, reduceEqDiff, Nat.reduceBEq, reduceAdd, reduceIte, reduceCtorEq, reduceLeDiff]
  refine cp n80 (rin_pc _ _ _) (SubL.refl _) ?_
  cases hb : inB l.gives[k] 0 60
  ·simp only [go_sem, un_not, Bool.not_false, Tryz.f28, reduceEqDiff, Nat.reduceBEq, reduceAdd, reduceIte, reduceCtorEq, reduceLeDiff]
   have : l.gives.all (fun g => inB g 0 60) = false := by
    rw [List.all_eq_false]; exact ⟨_, List.getElem_mem h, by rw [hb]; decide⟩
   unfold lineR; rw [this]; rfl
  ·simp only [go_sem, un_not, Bool.not_true, h4, reduceEqDiff, Nat.reduceBEq, reduceAdd, reduceIte, reduceCtorEq, reduceLeDiff]
   refine hI h fun i hi hi2 => ?_
   by_cases e : i = k
   ·subst e; exact hb
   ·exact hP i (by omega) hi2
 have h' : ¬ (k : Int) < l.gives.length := by omega
 have e : k = l.gives.length := by omega
 subst e
 have hall : l.gives.all (fun g => inB g 0 60) = true := by
  rw [List.all_eq_true]; intro g hg
  obtain ⟨i, hi, rfl⟩ := List.getElem_of_mem hg
  exact hP i hi hi
 clear hI hP h hk
 simp only [go_sem, l28_0, builtinA, h', decide_false, reduceEqDiff, Nat.reduceBEq, reduceAdd, reduceIte, reduceCtorEq, reduceLeDiff]
 refine wc_forP l.counts.length (fun k => ∀ i (h1 : i < k) (h2 : i < l.counts.length), cntR l l.counts[i] = true) (fun k => [(1, .ref 0 0), (4, .int .i64 k)]) (fun _ => ⟨[some (.cells (lineC l))], 0, []⟩) (fun i hi => absurd hi (Nat.not_lt_zero _)) rfl rfl ?_
 intro k hk hP I hI
 by_cases h : k < l.counts.length
 ·have h' : (k : Int) < l.counts.length := by omega
  have h2 : 0 ≤ (k : Int) ∧ (k : Int) < l.counts.length := by omega
  have h3 : k * 3 + 3 ≤ (cnts l.counts).length := by rw [cnts_len]; omega
  have h5 := cnts_at l.counts k h
  have h4 : IntKind.i64.wrap ((k : Int) + 1) = (k + 1 : Nat) := wrap64 (by omega)
  simp only [go_sem, l28_1, builtinA, h', decide_true, h2, h3, h5, reduceEqDiff, Nat.reduceBEq, reduceAdd, reduceIte, reduceCtorEq, reduceLeDiff]
  refine cp n81 (rCount_pc l l.counts[k]) (SubL.refl _) ?_
  cases hb : cntR l l.counts[k]
  ·simp only [go_sem, un_not, Bool.not_false, Tryz.f28, reduceEqDiff, Nat.reduceBEq, reduceAdd, reduceIte, reduceCtorEq, reduceLeDiff]
   have : l.counts.all (cntR l) = false := by
    rw [List.all_eq_false]; exact ⟨_, List.getElem_mem h, by rw [hb]; decide⟩
   unfold lineR; rw [hall, this]; rfl
  ·simp only [go_sem, un_not, Bool.not_true, h4, reduceEqDiff, Nat.reduceBEq, reduceAdd, reduceIte, reduceCtorEq, reduceLeDiff]
   refine hI h fun i hi hi2 => ?_
   by_cases e : i = k
   ·subst e; exact hb
   ·exact hP i (by omega) hi2
 have h' : ¬ (k : Int) < l.counts.length := by omega
 have e : k = l.counts.length := by omega
 subst e
 have hall2 : l.counts.all (cntR l) = true := by
  rw [List.all_eq_true]; intro g hg
  obtain ⟨i, hi, rfl⟩ := List.getElem_of_mem hg
  exact hP i hi hi
 clear hI hP h hk
 unfold lineR
 rw [hall, hall2]
 simp only [go_sem, l28_1, builtinA, h', decide_false, reduceEqDiff, Nat.reduceBEq, reduceAdd, reduceIte, reduceCtorEq, reduceLeDiff]
 refine cp n80 (rin_pc _ _ _) (SubL.refl _) ?_
 cases h1 : inB l.gives.length 1 5
 ·simp only [go_sem, Tryz.f28, Bool.false_and, Bool.true_and, reduceEqDiff, Nat.reduceBEq, reduceAdd, reduceIte, reduceCtorEq, reduceLeDiff]
 simp only [go_sem, reduceEqDiff, Nat.reduceBEq, reduceAdd, reduceIte, reduceCtorEq, reduceLeDiff]
 refine cp n80 (rin_pc _ _ _) (SubL.refl _) ?_
 cases h2 : inB l.least 1 60
 ·simp only [go_sem, Tryz.f28, Bool.false_and, Bool.true_and, reduceEqDiff, Nat.reduceBEq, reduceAdd, reduceIte, reduceCtorEq, reduceLeDiff]
 simp only [go_sem, reduceEqDiff, Nat.reduceBEq, reduceAdd, reduceIte, reduceCtorEq, reduceLeDiff]
 refine cp n80 (rin_pc _ _ _) (SubL.refl _) ?_
 cases h3 : inB l.most l.least 60
 ·simp only [go_sem, Tryz.f28, Bool.false_and, Bool.true_and, reduceEqDiff, Nat.reduceBEq, reduceAdd, reduceIte, reduceCtorEq, reduceLeDiff]
 simp only [go_sem, reduceEqDiff, Nat.reduceBEq, reduceAdd, reduceIte, reduceCtorEq, reduceLeDiff]
 refine cp n80 (rin_pc _ _ _) (SubL.refl _) ?_
 cases h4 : inB l.taps 0 2
 ·simp only [go_sem, Tryz.f28, Bool.false_and, Bool.true_and, reduceEqDiff, Nat.reduceBEq, reduceAdd, reduceIte, reduceCtorEq, reduceLeDiff]
 simp only [go_sem, builtinA, Tryz.f28, Bool.true_and, reduceEqDiff, Nat.reduceBEq, reduceAdd, reduceIte, reduceCtorEq, reduceLeDiff]
end Go.Av.Fx
end
section
namespace Go.Av.Fx
open Go Go.Av Go.Av.Tb Go.Proofs
theorem short_pc (l : LLine) : PC Tryz.prog 19 [lineA l] (.pure (.bool (decide ((l.gives.length : Int) ≤ 7) && decide ((l.counts.length : Int) ≤ 10)))) := by
 refine PC.of_empty (AC.run (E_ok _) mix Tryz.func19 m19 rfl rfl rfl (Nat.le_of_ble_eq_true rfl) ?_) (by simp [bndL, AV.bnd]) rfl
 by_cases h : (l.gives.length : Int) ≤ 7
 ·simp only [go_sem, boxA, builtinA, h, decide_true, Tryz.f19, Bool.true_and, reduceEqDiff, Nat.reduceBEq, reduceAdd, reduceIte, reduceCtorEq, reduceLeDiff]
 ·simp only [go_sem, boxA, builtinA, h, decide_false, Tryz.f19, Bool.false_and, reduceEqDiff, Nat.reduceBEq, reduceAdd, reduceIte, reduceCtorEq, reduceLeDiff]
end Go.Av.Fx
end
section
namespace Go.Av.Fx
open Go Go.Av Go.Av.Tb Go.Proofs
open Go.Fw (Sq ent Bd Mat)
@[go_sem] theorem bs32_1s (l : List AV) (n : Nat) (t : Tail) : buildSliceA T 32 1 [(0, .slice l n t)] = some (.slice [.slice l n t] 1 .exact) := rfl
def R2 (m i j : Nat) : List (List Int) := ones m ++ ((List.range i).flatMap (twosAt m) ++ (List.range j).map fun (j : Nat) => [(i : Int), ((i + 1 + j : Nat) : Int)])
end Go.Av.Fx
end

/- Part 22 of the proof. -/
import Derived.Test.YtlagjjpbknpdkaaGreatDoorVp21
import Derived.Lib.ItoaLen
set_option linter.all false
set_option linter.unusedVariables false
set_option linter.unusedSimpArgs false
set_option linter.unusedSectionVars false
open Nat (reduceEqDiff reduceAdd reduceLeDiff)
section
namespace Go.Av.Fx
open Go Go.Av Go.Av.Tb Go.Proofs
def meths (t : TypeId) (s : String) : Option FuncId := if s = "quinaria/leak.numbers" then (if t = 167 then some 210 else if t = 168 then some 211 else if t = 170 then some 212 else none) else none
theorem meths_ok : ∀ t name f, meths t name = some f → ∀ v w, (Go.method (Tryz.prog.types.size + Made.depth) t v name).run Tryz.prog w = Result.ok (f, v) w := by
 intro t name f h v w
 unfold meths at h
 split at h
 ·rename_i e; subst e
  split at h
  ·rename_i e; subst e; cases h; kernel_rfl
  split at h
  ·rename_i e; subst e; cases h; kernel_rfl
  split at h
  ·rename_i e; subst e; cases h; kernel_rfl
  ·cases h
 ·cases h
noncomputable def Em (n : Nat) : Env := { E n with M := meths }
theorem Em_ok (n : Nat) : (Em n).Ok := ⟨(E_ok n).T, meths_ok, (E_ok n).Cle, (E_ok n).Y⟩
@[go_sem] theorem Em_T (n : Nat) : (Em n).T = T := rfl
@[go_sem] theorem Em_P (n : Nat) : (Em n).P = Tryz.prog := rfl
@[go_sem] theorem Em_M (n : Nat) : (Em n).M = meths := rfl
@[go_sem] theorem ta168_0 (v : AV) : typeAssertA T (.iface 167 v) 168 true = some (.tuple [.int .i64 0, .bool false]) := rfl
@[go_sem] theorem ta168_1 (v : AV) : typeAssertA T (.iface 168 v) 168 true = some (.tuple [v, .bool true]) := rfl
@[go_sem] theorem ta168_2 (v : AV) : typeAssertA T (.iface 170 v) 168 true = some (.tuple [.int .i64 0, .bool false]) := rfl
@[go_sem] theorem ta170_0 (v : AV) : typeAssertA T (.iface 167 v) 170 true = some (.tuple [.agg [.int .i64 0, .int .i64 0, .int .i64 0], .bool false]) := rfl
@[go_sem] theorem ta170_2 (v : AV) : typeAssertA T (.iface 170 v) 170 true = some (.tuple [v, .bool true]) := rfl
@[go_sem] theorem ix181_0 (a b c : AV) : indexA T 181 (.agg [a, b, c]) (.int .i64 0) = some a := rfl
@[go_sem] theorem ix181_1 (a b c : AV) : indexA T 181 (.agg [a, b, c]) (.int .i64 1) = some b := rfl
@[go_sem] theorem ix181_2 (a b c : AV) : indexA T 181 (.agg [a, b, c]) (.int .i64 2) = some c := rfl
def wordB (k : Nat) : ByteArray := [⟨#[108, 105, 110, 101]⟩, ⟨#[115, 116, 114, 101, 116, 99, 104]⟩, ⟨#[99, 111, 117, 110, 116]⟩].getD k ByteArray.empty
theorem words_pc : PC Tryz.prog 146 [] (.pure (.agg [.str (wordB 0), .str (wordB 1), .str (wordB 2)])) := by
 refine PC.of_empty (AC.run (E_ok _) mix Tryz.func146 m146 rfl rfl rfl (Nat.le_of_ble_eq_true rfl) ?_) rfl rfl
 have hb : buildA T 181 [(0, AV.str ⟨#[108, 105, 110, 101]⟩), (1, AV.str ⟨#[115, 116, 114, 101, 116, 99, 104]⟩), (2, AV.str ⟨#[99, 111, 117, 110, 116]⟩)] = some (.agg [.str (wordB 0), .str (wordB 1), .str (wordB 2)]) := by rfl
 simp only [go_sem, hb, Tryz.f146, reduceEqDiff, Nat.reduceBEq, reduceAdd, reduceIte, reduceCtorEq, reduceLeDiff]
theorem head_pc (l : LLine) : PC Tryz.prog 210 [.agg (lineC l)] (.pure (.slice [.int .i64 l.least, .int .i64 l.most, .int .i64 l.taps] 3 .exact)) := by
 refine PC.of_empty (AC.run (E_ok _) mix Tryz.func210 m210 rfl rfl rfl (Nat.le_of_ble_eq_true rfl) ?_) (by simp [bndL, AV.bnd]) rfl
 simp only [go_sem, boxA, Tryz.f210, reduceEqDiff, Nat.reduceBEq, reduceAdd, reduceIte, reduceCtorEq, reduceLeDiff]
theorem stretch_pc (n : Int) : PC Tryz.prog 211 [.int .i64 n] (.pure (.slice [.int .i64 n] 1 .exact)) := by
 refine PC.of_empty (AC.run (E_ok _) mix Tryz.func211 m211 rfl rfl rfl (Nat.le_of_ble_eq_true rfl) ?_) (by simp [bndL, AV.bnd]) rfl
 simp only [go_sem, boxA, Tryz.f211, reduceEqDiff, Nat.reduceBEq, reduceAdd, reduceIte, reduceCtorEq, reduceLeDiff]
theorem count_pc (c : Cnt) : PC Tryz.prog 212 [.agg [.int .i64 c.point, .int .i64 c.low, .int .i64 c.high]] (.pure (.slice [.int .i64 c.point, .int .i64 c.low, .int .i64 c.high] 3 .exact)) := by
 refine PC.of_empty (AC.run (E_ok _) mix Tryz.func212 m212 rfl rfl rfl (Nat.le_of_ble_eq_true rfl) ?_) (by simp [bndL, AV.bnd]) rfl
 simp only [go_sem, boxA, Tryz.f212, reduceEqDiff, Nat.reduceBEq, reduceAdd, reduceIte, reduceCtorEq, reduceLeDiff]
inductive Ent where
 | head (l : LLine)
 | stretch (n : Int)
 | count (c : Cnt)
def Ent.av : Ent → AV
 | .head l => .iface 167 (.agg (lineC l))
 | .stretch n => .iface 168 (.int .i64 n)
 | .count c => .iface 170 (.agg (cntC c))
def Ent.k : Ent → Nat
 | .head _ => 0
 | .stretch _ => 1
 | .count _ => 2
def Ent.ns : Ent → List Int
 | .head l => [l.least, l.most, l.taps]
 | .stretch n => [n]
 | .count c => [c.point, c.low, c.high]
def i64 (n : Int) : Prop := -9223372036854775808 ≤ n ∧ n ≤ 9223372036854775807
def sp : ByteArray := ⟨#[32]⟩
def rowN (o : ByteArray) (ns : List Int) : ByteArray := ns.foldl (fun o n => o ++ (sp ++ itoaB n)) o
def rowB (k : Nat) (ns : List Int) : ByteArray := rowN (wordB k) ns
@[go_sem] theorem meths0 : meths 167 "quinaria/leak.numbers" = some 210 := rfl
@[go_sem] theorem meths1 : meths 168 "quinaria/leak.numbers" = some 211 := rfl
@[go_sem] theorem meths2 : meths 170 "quinaria/leak.numbers" = some 212 := rfl
theorem itoaB_size {n : Int} (h : i64 n) : (itoaB n).size ≤ 21 := by
 have := Lib.itoa_length_le n h.1 h.2
 simpa [itoaB, ByteArray.size] using this
theorem rowN_size : ∀ (ns : List Int) (o : ByteArray), (∀ n ∈ ns, i64 n) → (rowN o ns).size ≤ o.size + 22 * ns.length
 | [], o, _ => Nat.le_refl _
 | n :: ns, o, h => by
  have h1 := rowN_size ns (o ++ (sp ++ itoaB n)) fun m hm => h m (List.mem_cons_of_mem _ hm)
  have h2 := itoaB_size (h n List.mem_cons_self)
  have h3 : (o ++ (sp ++ itoaB n)).size = o.size + (1 + (itoaB n).size) := by rw [ByteArray.size_append, ByteArray.size_append]; rfl
  show (rowN (o ++ (sp ++ itoaB n)) ns).size ≤ _
  simp only [List.length_cons]; omega
theorem rowN_take (o : ByteArray) (ns : List Int) (k : Nat) (h : k < ns.length) : rowN o (ns.take (k + 1)) = rowN o (ns.take k) ++ (sp ++ itoaB ns[k]) := by
 unfold rowN
 rw [List.take_add_one, List.getElem?_eq_getElem h, List.foldl_append]
 rfl
theorem wordB_size (k : Nat) : (wordB k).size ≤ 7 := by
 match k with
 | 0 => decide
 | 1 => decide
 | 2 => decide
 | k + 3 => simp [wordB]
theorem addS {a b : ByteArray} (h : a.size + b.size ≤ 4611686018427387904) : binA T .add 9 (.str a) (.str b) = some (.str (a ++ b)) := by
 show (if a.size + b.size ≤ 4611686018427387904 then some (AV.str (a ++ b)) else none) = _
 rw [if_pos h]
theorem row_loop (kk : Nat) (ns : List Int) (hn : ns.length ≤ 3) (h : ∀ n ∈ ns, i64 n) (Q : AQ)
  (hQ : Q (.exit 1) [(4, .str (rowB kk ns)), (18, .slice (ints ns) ns.length .exact), (19, .int .i64 ns.length), (20, .int .i64 ns.length), (21, .bool false)] St.empty) :
  WC (Em 31) (.loop l138_0) Q [(4, .str (wordB kk)), (18, .slice (ints ns) ns.length .exact), (19, .int .i64 ns.length), (20, .int .i64 0)] St.empty := by
 refine wc_for ns.length (fun k => [(4, .str (rowN (wordB kk) (ns.take k))), (18, .slice (ints ns) ns.length .exact), (19, .int .i64 ns.length), (20, .int .i64 k)]) (fun _ => St.empty) rfl rfl ?_
 intro k hk I hI
 by_cases h' : k < ns.length
 ·have h1 : (k : Int) < ns.length := by omega
  have h2 : 0 ≤ (k : Int) ∧ (k : Int) < ns.length := by omega
  have h3 : ns[k]? = some ns[k] := List.getElem?_eq_getElem h'
  have h4 : IntKind.i64.wrap ((k : Int) + 1) = (k + 1 : Nat) := wrap64 (by omega)
  have hm := h _ (List.getElem_mem h')
  have h5 := itoaB_size hm
  have h6 := rowN_size (ns.take k) (wordB kk) fun m hm => h m (List.mem_of_mem_take hm)
  have h7 := wordB_size kk
  have h8 : (ns.take k).length ≤ 3 := by simp; omega
  have h9 : sp.size + (itoaB ns[k]).size ≤ 4611686018427387904 := by show 1 + _ ≤ _; omega
  have h10 : (rowN (wordB kk) (ns.take k)).size + (sp ++ itoaB ns[k]).size ≤ 4611686018427387904 := by rw [ByteArray.size_append]; show _ + (1 + _) ≤ _; omega
  simp only [go_sem, l138_0, builtinA, h1, decide_true, h2, ints_get, h3, reduceEqDiff, Nat.reduceBEq, reduceAdd, reduceIte, reduceCtorEq, reduceLeDiff]
  refine call_pure (E := Em _) n139 (Itoa_pc _ hm.1 hm.2) (SubL.refl _) ?_
  have h11 : binA T .add 9 (.str ⟨#[32]⟩) (.str (itoaB ns[k])) = some (.str (sp ++ itoaB ns[k])) := addS h9
  have h12 := addS h10
  simp only [go_sem, h11, h12, h4, reduceEqDiff, Nat.reduceBEq, reduceAdd, reduceIte, reduceCtorEq, reduceLeDiff]
  have := hI h'
  rw [rowN_take _ _ _ h'] at this
  exact this
 ·have h1 : ¬ (k : Int) < ns.length := by omega
  have e : k = ns.length := by omega
  subst e
  simp only [go_sem, l138_0, builtinA, h1, decide_false, List.take_length, reduceEqDiff, Nat.reduceBEq, reduceAdd, reduceIte, reduceCtorEq, reduceLeDiff]
  exact hQ
theorem row_pc (e : Ent) (h : ∀ n ∈ e.ns, i64 n) : PC Tryz.prog 138 [e.av] (.pure (.str (rowB e.k e.ns))) := by
 refine PC.of_empty (AC.run (Em_ok _) mix Tryz.func138 m138 rfl rfl rfl (Nat.le_of_ble_eq_true rfl) ?_) (by cases e <;> simp [bndL, AV.bnd, Ent.av]) rfl
 cases e with
 | head l =>
  simp only [go_sem, Ent.av, extractA, reduceEqDiff, Nat.reduceBEq, reduceAdd, reduceIte, reduceCtorEq, reduceLeDiff]
  refine call_pure (E := Em _) n146 words_pc (SubL.refl _) ?_
  simp only [go_sem, Ent.av, extractA, reduceEqDiff, Nat.reduceBEq, reduceAdd, reduceIte, reduceCtorEq, reduceLeDiff]
  refine call_pure (E := Em _) n210 (head_pc l) (SubL.refl _) ?_
  simp only [go_sem, Ent.av, extractA, builtinA, reduceEqDiff, Nat.reduceBEq, reduceAdd, reduceIte, reduceCtorEq, reduceLeDiff]
  refine row_loop 0 [l.least, l.most, l.taps] (Nat.le_refl _) h _ ?_
  simp only [go_sem, Tryz.f138, reduceEqDiff, Nat.reduceBEq, reduceAdd, reduceIte, reduceCtorEq, reduceLeDiff]
  rfl
 | stretch n =>
  simp only [go_sem, Ent.av, extractA, reduceEqDiff, Nat.reduceBEq, reduceAdd, reduceIte, reduceCtorEq, reduceLeDiff]
  refine call_pure (E := Em _) n146 words_pc (SubL.refl _) ?_
  simp only [go_sem, Ent.av, extractA, reduceEqDiff, Nat.reduceBEq, reduceAdd, reduceIte, reduceCtorEq, reduceLeDiff]
  refine call_pure (E := Em _) n211 (stretch_pc n) (SubL.refl _) ?_
  simp only [go_sem, Ent.av, extractA, builtinA, reduceEqDiff, Nat.reduceBEq, reduceAdd, reduceIte, reduceCtorEq, reduceLeDiff]
  refine row_loop 1 [n] (Nat.le_of_ble_eq_true rfl) h _ ?_
  simp only [go_sem, Tryz.f138, reduceEqDiff, Nat.reduceBEq, reduceAdd, reduceIte, reduceCtorEq, reduceLeDiff]
  rfl
 | count c =>
  simp only [go_sem, Ent.av, extractA, reduceEqDiff, Nat.reduceBEq, reduceAdd, reduceIte, reduceCtorEq, reduceLeDiff]
  refine call_pure (E := Em _) n146 words_pc (SubL.refl _) ?_
  simp only [go_sem, Ent.av, extractA, reduceEqDiff, Nat.reduceBEq, reduceAdd, reduceIte, reduceCtorEq, reduceLeDiff]
  refine call_pure (E := Em _) n212 (count_pc c) (SubL.refl _) ?_
  simp only [go_sem, Ent.av, extractA, builtinA, reduceEqDiff, Nat.reduceBEq, reduceAdd, reduceIte, reduceCtorEq, reduceLeDiff]
  refine row_loop 2 [c.point, c.low, c.high] (Nat.le_refl _) h _ ?_
  simp only [go_sem, Tryz.f138, reduceEqDiff, Nat.reduceBEq, reduceAdd, reduceIte, reduceCtorEq, reduceLeDiff]
  rfl
end Go.Av.Fx
end
section
namespace Go.Av.Fx
open Go Go.Av Go.Av.Tb Go.Proofs
def lf : ByteArray := ⟨#[10]⟩
def strs (l : List ByteArray) : List AV := l.map .str
@[simp] theorem strs_len (l : List ByteArray) : (strs l).length = l.length := by simp [strs]
@[simp] theorem strs_get (l : List ByteArray) (i : Nat) : (strs l)[i]? = (l[i]?).map .str := by simp [strs]
@[simp] theorem strs_bnd (n k : Nat) (l : List ByteArray) : bndL n k (strs l) = true := bndL_map _ (fun _ => rfl) l
def rowsL (l : LLine) : List ByteArray := rowB 0 [l.least, l.most, l.taps] :: (l.gives.map (fun n => rowB 1 [n]) ++ l.counts.map fun c => rowB 2 [c.point, c.low, c.high])
def rs (r : ByteArray) : Nat → Int
 | 0 => 0
 | k + 1 => rs r k + (((r[k]?).getD 0).toNat : Int) * (k + 1 : Nat)
def ck (rows : List ByteArray) : Nat → Int
 | 0 => 0
 | i + 1 => ck rows i + rs (rows.getD i ByteArray.empty) (rows.getD i ByteArray.empty).size * (i + 1 : Nat)
def endW : ByteArray := ⟨#[101, 110, 100, 32]⟩
def endB (c : Int) : ByteArray := ((endW ++ itoaB (c.tdiv 100)) ++ itoaB ((c.tdiv 10).tmod 10)) ++ itoaB (c.tmod 10)
def ckL (l : LLine) : Int := (ck (rowsL l) (rowsL l).length).tmod 157
def textB (l : LLine) : ByteArray := joinB (rowsL l ++ [endB (ckL l)]) lf ++ lf
@[go_sem] theorem bs141_1 (a : ByteArray) : buildSliceA T 141 1 [(0, .str a)] = some (.slice [.str a] 1 .exact) := rfl
@[go_sem] theorem bd167 (l : LLine) : buildA T 167 [(0, .agg (lineC l))] = some (.agg (lineC l)) := rfl
@[go_sem] theorem bd170 (c : Cnt) : buildA T 170 [(0, .agg (cntC c))] = some (.agg (cntC c)) := rfl
theorem sr_app141 {K : AV → St → Prop} {hK : Hold K} {h : List (Option Blk)} {k n : Nat} {l : List ByteArray} (x : ByteArray) (hn : l.length = n) (h7 : n ≤ 1000000)
  (next : K (.slice (strs (l ++ [x])) (n + 1) (tailN (k + 1))) ⟨h, k + 1, toksN (k + 1)⟩) : sr K hK (appendA T ⟨h, k, toksN k⟩ 141 (.slice (strs l) n (tailN k)) (.slice [.str x] 1 .exact)) ⟨h, k, toksN k⟩ := by
 subst hn
 have e : strs (l ++ [x]) = strs l ++ [.str x] := by simp [strs]
 rw [e] at next
 rw [app_gen (e := 9) (ei := ti9) (lx := [.str x]) (nx := 1) rfl rfl (by decide) (by simp [heldA, ti9]) (by decide) rfl (by show (l.length + 1) * 16 ≤ _; omega) (by omega) (by simp [ti9])]
 cases k with
 | zero => rw [tailN, sr_tok]; exact next
 | succ k =>
  rw [tailN, sr_tok_some]
  refine ⟨List.mem_cons_self, ?_⟩
  have : killTok (toksN (k + 1)) (some k) = [] := by simp [killTok, toksN]
  show K (.slice (strs l ++ [.str x]) (l.length + 1) (.tok (k + 1))) ⟨h, k + 1 + 1, (k + 1) :: killTok (toksN (k + 1)) (some k)⟩
  rw [this]; exact next
structure Plain (l : LLine) : Prop where
 gives : l.gives.length ≤ 1000
 counts : l.counts.length ≤ 1000
 head : ∀ n ∈ [l.least, l.most, l.taps], i64 n
 give : ∀ n ∈ l.gives, i64 n
 count : ∀ c ∈ l.counts, ∀ n ∈ [c.point, c.low, c.high], i64 n
@[go_sem] theorem d167 : descOf T 167 = some ti167.desc := rfl
@[go_sem] theorem i167 : isIface ti167.desc = false := rfl
@[go_sem] theorem d168 : descOf T 168 = some ti168.desc := rfl
@[go_sem] theorem i168 : isIface ti168.desc = false := rfl
@[go_sem] theorem d170 : descOf T 170 = some ti170.desc := rfl
@[go_sem] theorem i170 : isIface ti170.desc = false := rfl
@[go_sem] theorem isIface_int (k : IntKind) : isIface (.int k) = false := rfl
def headR (l : LLine) : ByteArray := rowB 0 [l.least, l.most, l.taps]
def gsR (l : LLine) (k : Nat) : List ByteArray := (l.gives.take k).map fun n => rowB 1 [n]
def csR (l : LLine) (k : Nat) : List ByteArray := (l.counts.take k).map fun c => rowB 2 [c.point, c.low, c.high]
theorem gsR_succ (l : LLine) (k : Nat) (h : k < l.gives.length) : gsR l (k + 1) = gsR l k ++ [rowB 1 [l.gives[k]]] := by
 unfold gsR; rw [List.take_succ_eq_append_getElem h, List.map_append]; rfl
theorem csR_succ (l : LLine) (k : Nat) (h : k < l.counts.length) : csR l (k + 1) = csR l k ++ [rowB 2 [l.counts[k].point, l.counts[k].low, l.counts[k].high]] := by
 unfold csR; rw [List.take_succ_eq_append_getElem h, List.map_append]; rfl
theorem gsR_len (l : LLine) (k : Nat) (h : k ≤ l.gives.length) : (gsR l k).length = k := by simp [gsR]; omega
theorem csR_len (l : LLine) (k : Nat) (h : k ≤ l.counts.length) : (csR l k).length = k := by simp [csR]; omega
theorem rowsL_eq (l : LLine) : rowsL l = (headR l :: gsR l l.gives.length) ++ csR l l.counts.length := by simp [rowsL, headR, gsR, csR]
theorem rowsL_len (l : LLine) : (rowsL l).length = 1 + l.gives.length + l.counts.length := by simp [rowsL]; omega
theorem rs_bd (r : ByteArray) : ∀ k, 0 ≤ rs r k ∧ rs r k ≤ 255 * (k * k : Nat)
 | 0 => ⟨Int.le_refl _, by simp [rs]⟩
 | k + 1 => by
  have ih := rs_bd r k
  have hb : ((r[k]?).getD 0).toNat ≤ 255 := Nat.le_of_lt_succ (UInt8.toNat_lt _)
  have h1 : ((r[k]?).getD 0).toNat * (k + 1) ≤ 255 * (k + 1) := Nat.mul_le_mul_right _ hb
  have h2 : rs r (k + 1) = rs r k + ((((r[k]?).getD 0).toNat * (k + 1) : Nat) : Int) := by simp [rs]
  have h3 : (k + 1) * (k + 1) = k * k + 2 * k + 1 := by rw [Nat.add_mul, Nat.mul_add]; omega
  rw [h2, h3]; omega
theorem rs_bd100 (r : ByteArray) {k : Nat} (h : k ≤ 100) : 0 ≤ rs r k ∧ rs r k ≤ 2550000 := by
 have h1 := rs_bd r k
 have h2 : k * k ≤ 100 * 100 := Nat.mul_le_mul h h
 omega
theorem ck_bd {R : List ByteArray} (h : ∀ r ∈ R, r.size ≤ 100) : ∀ i, i ≤ 3000 → 0 ≤ ck R i ∧ ck R i ≤ 7650000000 * i
 | 0, _ => ⟨Int.le_refl _, by simp [ck]⟩
 | i + 1, hi => by
  have ih := ck_bd h i (by omega)
  have hs : (R.getD i ByteArray.empty).size ≤ 100 := by
   rw [List.getD_eq_getElem?_getD]
   cases e : R[i]? with
   | none => exact Nat.zero_le _
   | some r => exact h r (List.mem_of_getElem? e)
  have h1 := rs_bd100 (R.getD i ByteArray.empty) hs
  have h2 : 0 ≤ rs (R.getD i ByteArray.empty) (R.getD i ByteArray.empty).size * (i + 1 : Nat) := Int.mul_nonneg h1.1 (by omega)
  have h3 : rs (R.getD i ByteArray.empty) (R.getD i ByteArray.empty).size * (i + 1 : Nat) ≤ 2550000 * (3000 : Int) := Int.mul_le_mul h1.2 (by omega) (by omega) (by omega)
  show 0 ≤ ck R i + _ ∧ ck R i + _ ≤ _
  omega
theorem rowsL_size {l : LLine} (h : Plain l) : ∀ r ∈ rowsL l, r.size ≤ 100 := by
 have key : ∀ k ns, ns.length ≤ 3 → (∀ n ∈ ns, i64 n) → (rowB k ns).size ≤ 100 := by
  intro k ns h1 h2
  have a := rowN_size ns (wordB k) h2
  have b := wordB_size k
  show (rowN (wordB k) ns).size ≤ _
  omega
 intro r hr
 simp only [rowsL, List.mem_cons, List.mem_append, List.mem_map] at hr
 rcases hr with rfl | ⟨n, hn, rfl⟩ | ⟨c, hc, rfl⟩
 ·exact key _ _ (Nat.le_refl _) h.head
 ·exact key _ _ (Nat.le_of_ble_eq_true rfl) fun m hm => by simp at hm; subst hm; exact h.give _ hn
 ·exact key _ _ (Nat.le_refl _) (h.count c hc)
theorem joinTail_len (sep : ByteArray) : ∀ (R : List ByteArray) (n : Nat), (∀ r ∈ R, r.size ≤ n) → (Lib.joinTail sep.data.toList (R.map (·.data.toList))).length ≤ (n + sep.size) * R.length
 | [], n, _ => by simp [Lib.joinTail]
 | a :: R, n, h => by
  have h1 := joinTail_len sep R n fun r hr => h r (List.mem_cons_of_mem _ hr)
  have h2 : a.data.toList.length ≤ n := h a List.mem_cons_self
  have h3 : sep.data.toList.length = sep.size := rfl
  simp only [Lib.joinTail, List.map_cons, List.flatten_cons, List.length_append, List.length_cons, Nat.mul_add, Nat.mul_one] at h1 ⊢
  omega
theorem join_len (sep : ByteArray) (R : List ByteArray) (n : Nat) (h : ∀ r ∈ R, r.size ≤ n) : (Lib.join (R.map (·.data.toList)) sep.data.toList).length ≤ (n + sep.size) * R.length := by
 cases R with
 | nil => simp [Lib.join_nil]
 | cons a R =>
  have h1 := joinTail_len sep R n fun r hr => h r (List.mem_cons_of_mem _ hr)
  have h2 : a.data.toList.length ≤ n := h a List.mem_cons_self
  rw [List.map_cons, Lib.join_cons]
  simp only [List.length_append, List.length_cons, Nat.mul_add, Nat.mul_one]
  omega
theorem text_pc (l : LLine) (h : Plain l) : PC Tryz.prog 107 [lineA l] (.pure (.str (textB l))) := by
 have hG := h.gives
 have hC := h.counts
 refine PC.of_empty (AC.run (E_ok _) mix Tryz.func107 m107 rfl rfl rfl (Nat.le_of_ble_eq_true rfl) ?_) (by simp [bndL, AV.bnd]) rfl
 simp only [go_sem, boxA, reduceEqDiff, Nat.reduceBEq, reduceAdd, reduceIte, reduceCtorEq, reduceLeDiff]
 refine cp n138 (row_pc (.head l) h.head) (SubL.refl _) ?_
 simp only [go_sem, builtinA, reduceEqDiff, Nat.reduceBEq, reduceAdd, reduceIte, reduceCtorEq, reduceLeDiff]
 refine wc_for l.gives.length (fun k => [(1, .ref 0 0), (3, .slice (strs (headR l :: gsR l k)) (headR l :: gsR l k).length (tailN k)), (18, sl l.gives), (19, .int .i64 l.gives.length), (20, .int .i64 k)]) (fun k => ⟨[some (.cells (lineC l))], k, toksN k⟩) rfl rfl ?_
 intro k hk I hI
 have eg := gsR_len l k hk
 by_cases h' : k < l.gives.length
 ·have h1 : (k : Int) < l.gives.length := by omega
  have h2 : 0 ≤ (k : Int) ∧ (k : Int) < l.gives.length := by omega
  have h3 : l.gives[k]? = some l.gives[k] := List.getElem?_eq_getElem h'
  have h4 : IntKind.i64.wrap ((k : Int) + 1) = (k + 1 : Nat) := wrap64 (by omega)
  simp only [go_sem, l107_0, builtinA, h1, decide_true, h2, ints_get, h3, reduceEqDiff, Nat.reduceBEq, reduceAdd, reduceIte, reduceCtorEq, reduceLeDiff]
  refine cp n138 (row_pc (.stretch l.gives[k]) (by intro n hn; simp [Ent.ns] at hn; subst hn; exact h.give _ (List.getElem_mem h'))) (SubL.refl _) ?_
  simp only [go_sem, builtinA, reduceEqDiff, Nat.reduceBEq, reduceAdd, reduceIte, reduceCtorEq, reduceLeDiff]
  refine sr_app141 (l := headR l :: gsR l k) _ rfl (by simp; omega) ?_
  simp only [go_sem, builtinA, h4, reduceEqDiff, Nat.reduceBEq, reduceAdd, reduceIte, reduceCtorEq, reduceLeDiff]
  have := hI h'
  rw [gsR_succ l k h'] at this
  simp only [List.length_cons, List.length_append, List.length_nil] at this
  exact this
 have h1 : ¬ (k : Int) < l.gives.length := by omega
 have e : k = l.gives.length := by omega
 subst e
 clear hI hk h'
 simp only [go_sem, l107_0, builtinA, h1, decide_false, reduceEqDiff, Nat.reduceBEq, reduceAdd, reduceIte, reduceCtorEq, reduceLeDiff]
 rw [eg]
 refine wc_forG l.counts.length (fun k => [(3, .slice (strs ((headR l :: gsR l l.gives.length) ++ csR l k)) (l.gives.length + 1 + k) (tailN (l.gives.length + k))), (32, .slice (cnts l.counts) l.counts.length .unk), (33, .int .i64 l.counts.length), (34, .int .i64 k)]) (fun k => ⟨[some (.cells (lineC l))], l.gives.length + k, toksN (l.gives.length + k)⟩) (by simp [csR]) rfl (fun k hk => ?_) ?_
 ·refine ⟨Nat.zero_le _, Nat.zero_le _, by cases h : l.gives.length + k <;> simp [bndTS, AV.bnd, tailN], fun i B hB => ?_, fun t ht => toksN_lt ht⟩
  cases i with
  | zero => simp at hB; subst hB; simp [Blk.bnd, bndL, AV.bnd]
  | succ i => simp at hB
 intro k hk I hI
 have ec := csR_len l k hk
 by_cases h' : k < l.counts.length
 ·have h1 : (k : Int) < l.counts.length := by omega
  have h2 : 0 ≤ (k : Int) ∧ (k : Int) < l.counts.length := by omega
  have h3 : k * 3 + 3 ≤ (cnts l.counts).length := by rw [cnts_len]; omega
  have h5 := cnts_at l.counts k h'
  have h4 : IntKind.i64.wrap ((k : Int) + 1) = (k + 1 : Nat) := wrap64 (by omega)
  have hm := List.getElem_mem h'
  simp only [go_sem, l107_1, builtinA, h1, decide_true, h2, h3, h5, reduceEqDiff, Nat.reduceBEq, reduceAdd, reduceIte, reduceCtorEq, reduceLeDiff]
  refine cp n138 (row_pc (.count l.counts[k]) (h.count _ hm)) (SubL.refl _) ?_
  simp only [go_sem, builtinA, reduceEqDiff, Nat.reduceBEq, reduceAdd, reduceIte, reduceCtorEq, reduceLeDiff]
  refine sr_app141 (k := l.gives.length + k) (l := (headR l :: gsR l l.gives.length) ++ csR l k) _ (by simp [eg, ec]; omega) (by omega) ?_
  simp only [go_sem, builtinA, h4, reduceEqDiff, Nat.reduceBEq, reduceAdd, reduceIte, reduceCtorEq, reduceLeDiff]
  have := hI h' [some (.cells (cntC l.counts[k]))]
  rw [csR_succ l k h'] at this
  simp only [← Nat.add_assoc, List.append_assoc, List.cons_append, List.nil_append] at this
  exact this
 have h1 : ¬ (k : Int) < l.counts.length := by omega
 have e : k = l.counts.length := by omega
 subst e
 clear hI hk h'
 rw [← rowsL_eq, show l.gives.length + 1 + l.counts.length = (rowsL l).length by rw [rowsL_len]; omega]
 simp only [go_sem, l107_1, builtinA, h1, decide_false, reduceEqDiff, Nat.reduceBEq, reduceAdd, reduceIte, reduceCtorEq, reduceLeDiff]
 have hR : ∀ r ∈ rowsL l, r.size ≤ 100 := rowsL_size h
 have hN := rowsL_len l
 have hfin : textB l = joinB (rowsL l ++ [endB ((ck (rowsL l) (rowsL l).length).tmod 157)]) lf ++ lf := rfl
 rw [hfin]
 clear hfin
 generalize l.gives.length + l.counts.length = m at *
 generalize rowsL l = R at *
 refine wc_for R.length (fun i => [(3, .slice (strs R) R.length (tailN m)), (8, .int .i64 (ck R i)), (46, .slice (strs R) R.length (tailN m)), (47, .int .i64 R.length), (48, .int .i64 i)]) (fun _ => ⟨[some (.cells (lineC l))], m, toksN m⟩) rfl rfl ?_
 intro i hi I hI
 by_cases h' : i < R.length
 ·have h1 : (i : Int) < R.length := by omega
  have h2 : 0 ≤ (i : Int) ∧ (i : Int) < R.length := by omega
  have h3 : R[i]? = some R[i] := List.getElem?_eq_getElem h'
  have h4 : IntKind.i64.wrap ((i : Int) + 1) = (i + 1 : Nat) := wrap64 (by omega)
  have hr := hR _ (List.getElem_mem h')
  simp only [go_sem, l107_2, builtinA, h1, decide_true, h2, strs_get, h3, reduceEqDiff, Nat.reduceBEq, reduceAdd, reduceIte, reduceCtorEq, reduceLeDiff]
  have hck : ck R (i + 1) = ck R i + rs R[i] R[i].size * (i + 1 : Nat) := by
   show ck R i + rs (R.getD i _) (R.getD i _).size * _ = _
   rw [List.getD_eq_getElem?_getD, h3]; rfl
  have hb := ck_bd hR i (by omega)
  generalize R[i] = r at *
  refine wc_for r.size (fun k => [(3, .slice (strs R) R.length (tailN m)), (8, .int .i64 (ck R i + rs r k * (i + 1 : Nat))), (46, .slice (strs R) R.length (tailN m)), (47, .int .i64 R.length), (48, .int .i64 i), (9, .int .i64 i), (10, .str r), (54, .int .i64 r.size), (55, .int .i64 k)]) (fun _ => ⟨[some (.cells (lineC l))], m, toksN m⟩) (by simp only [rs, Int.zero_mul, Int.add_zero]; rfl) rfl ?_
  intro k hk I2 hI2
  by_cases h'' : k < r.size
  ·have g1 : (k : Int) < r.size := by omega
   have g4 : IntKind.i64.wrap ((k : Int) + 1) = (k + 1 : Nat) := wrap64 (by omega)
   simp only [go_sem, l107_3, g1, decide_true, reduceEqDiff, Nat.reduceBEq, reduceAdd, reduceIte, reduceCtorEq, reduceLeDiff]
   have hbt : r[k]? = some r[k] := by simp [h'']
   have hB : r[k].toNat ≤ 255 := Nat.le_of_lt_succ (UInt8.toNat_lt _)
   have hrs : rs r (k + 1) = rs r k + (r[k].toNat : Int) * (k + 1 : Nat) := by
    show rs r k + (((r[k]?).getD 0).toNat : Int) * _ = _
    rw [hbt]; rfl
   have hb2 := rs_bd100 r (k := k) (by omega)
   have p1 : 0 ≤ (r[k].toNat : Int) * (k + 1 : Nat) := Int.mul_nonneg (by omega) (by omega)
   have p2 : (r[k].toNat : Int) * (k + 1 : Nat) ≤ 255 * (100 : Int) := Int.mul_le_mul (by omega) (by omega) (by omega) (by omega)
   have p3 : 0 ≤ (r[k].toNat : Int) * (k + 1 : Nat) * (i + 1 : Nat) := Int.mul_nonneg p1 (by omega)
   have p4 : (r[k].toNat : Int) * (k + 1 : Nat) * (i + 1 : Nat) ≤ 25500 * (3000 : Int) := Int.mul_le_mul (by omega) (by omega) (by omega) (by omega)
   have p5 : 0 ≤ rs r k * (i + 1 : Nat) := Int.mul_nonneg hb2.1 (by omega)
   have p6 : rs r k * (i + 1 : Nat) ≤ 2550000 * (3000 : Int) := Int.mul_le_mul hb2.2 (by omega) (by omega) (by omega)
   have w1 : IntKind.i64.wrap (r[k].toNat : Int) = r[k].toNat := wrap64 (by omega)
   have w2 : IntKind.i64.wrap ((r[k].toNat : Int) * (k + 1 : Nat)) = (r[k].toNat : Int) * (k + 1 : Nat) := wrap64 (by omega)
   have w3 : IntKind.i64.wrap ((r[k].toNat : Int) * (k + 1 : Nat) * (i + 1 : Nat)) = (r[k].toNat : Int) * (k + 1 : Nat) * (i + 1 : Nat) := wrap64 (by omega)
   have w4 : IntKind.i64.wrap (ck R i + rs r k * (i + 1 : Nat) + (r[k].toNat : Int) * (k + 1 : Nat) * (i + 1 : Nat)) = ck R i + rs r k * (i + 1 : Nat) + (r[k].toNat : Int) * (k + 1 : Nat) * (i + 1 : Nat) := wrap64 (by omega)
   have hz : 0 ≤ (k : Int) := by omega
   simp only [go_sem, hz, hbt, convA, w1, w2, w3, w4, g4, h4, reduceEqDiff, Nat.reduceBEq, reduceAdd, reduceIte, reduceCtorEq, reduceLeDiff]
   have := hI2 h''
   rw [hrs, Int.add_mul, ← Int.add_assoc] at this
   exact this
  have g1 : ¬ (k : Int) < r.size := by omega
  have e : k = r.size := by omega
  subst e
  clear hI2 hk h''
  simp only [go_sem, l107_3, builtinA, g1, decide_false, h4, reduceEqDiff, Nat.reduceBEq, reduceAdd, reduceIte, reduceCtorEq, reduceLeDiff]
  have := hI h'
  rw [hck] at this
  exact this
 have h1 : ¬ (i : Int) < R.length := by omega
 have e : i = R.length := by omega
 subst e
 clear hI hi h'
 simp only [go_sem, l107_2, builtinA, h1, decide_false, reduceEqDiff, Nat.reduceBEq, reduceAdd, reduceIte, reduceCtorEq, reduceLeDiff]
 have hb := ck_bd hR R.length (by omega)
 generalize ck R R.length = C at *
 have e1 : intOp .rem .i64 C 157 = some (.int .i64 (C.tmod 157)) := rfl
 have hc0 : 0 ≤ C.tmod 157 := Int.tmod_nonneg _ hb.1
 have hc1 : C.tmod 157 < 157 := Int.tmod_lt_of_pos _ (by decide)
 generalize C.tmod 157 = c at *
 have d1 : c.tdiv 100 = c / 100 := Int.tdiv_eq_ediv_of_nonneg hc0
 have d2 : c.tdiv 10 = c / 10 := Int.tdiv_eq_ediv_of_nonneg hc0
 have d3 : (c.tdiv 10).tmod 10 = c / 10 % 10 := by rw [d2]; exact Int.tmod_eq_emod_of_nonneg (by omega)
 have d4 : c.tmod 10 = c % 10 := Int.tmod_eq_emod_of_nonneg hc0
 have e2 : intOp .quo .i64 c 100 = some (.int .i64 (c.tdiv 100)) := by
  show some (AV.int .i64 (IntKind.i64.wrap (c.tdiv 100))) = _
  rw [wrap64 (by omega)]
 have e3 : intOp .quo .i64 c 10 = some (.int .i64 (c.tdiv 10)) := by
  show some (AV.int .i64 (IntKind.i64.wrap (c.tdiv 10))) = _
  rw [wrap64 (by omega)]
 have e4 : intOp .rem .i64 (c.tdiv 10) 10 = some (.int .i64 ((c.tdiv 10).tmod 10)) := rfl
 have e5 : intOp .rem .i64 c 10 = some (.int .i64 (c.tmod 10)) := rfl
 have i1 : i64 (c.tdiv 100) := ⟨by omega, by omega⟩
 have i2 : i64 ((c.tdiv 10).tmod 10) := ⟨by omega, by omega⟩
 have i3 : i64 (c.tmod 10) := ⟨by omega, by omega⟩
 have z1 := itoaB_size i1
 have z2 := itoaB_size i2
 have z3 := itoaB_size i3
 have s1 : endW.size + (itoaB (c.tdiv 100)).size ≤ 4611686018427387904 := by show 4 + _ ≤ _; omega
 have s2 : (endW ++ itoaB (c.tdiv 100)).size + (itoaB ((c.tdiv 10).tmod 10)).size ≤ 4611686018427387904 := by rw [ByteArray.size_append]; show 4 + _ + _ ≤ _; omega
 have s3 : (endW ++ itoaB (c.tdiv 100) ++ itoaB ((c.tdiv 10).tmod 10)).size + (itoaB (c.tmod 10)).size ≤ 4611686018427387904 := by rw [ByteArray.size_append, ByteArray.size_append]; show 4 + _ + _ + _ ≤ _; omega
 have hend : (endB c).size ≤ 100 := by unfold endB; rw [ByteArray.size_append, ByteArray.size_append, ByteArray.size_append]; show 4 + _ + _ + _ ≤ _; omega
 have a1 : binA T .add 9 (.str ⟨#[101, 110, 100, 32]⟩) (.str (itoaB (c.tdiv 100))) = some (.str (endW ++ itoaB (c.tdiv 100))) := addS s1
 have a2 := addS s2
 have a3 := addS s3
 simp only [go_sem, e1, e2, e3, e4, e5, reduceEqDiff, Nat.reduceBEq, reduceAdd, reduceIte, reduceCtorEq, reduceLeDiff]
 refine cp n139 (Itoa_pc _ i1.1 i1.2) (SubL.refl _) ?_
 simp only [go_sem, e1, e2, e3, e4, e5, a1, reduceEqDiff, Nat.reduceBEq, reduceAdd, reduceIte, reduceCtorEq, reduceLeDiff]
 refine cp n139 (Itoa_pc _ i2.1 i2.2) (SubL.refl _) ?_
 simp only [go_sem, e1, e2, e3, e4, e5, a2, reduceEqDiff, Nat.reduceBEq, reduceAdd, reduceIte, reduceCtorEq, reduceLeDiff]
 refine cp n139 (Itoa_pc _ i3.1 i3.2) (SubL.refl _) ?_
 simp only [go_sem, e1, e2, e3, e4, e5, a3, builtinA, reduceEqDiff, Nat.reduceBEq, reduceAdd, reduceIte, reduceCtorEq, reduceLeDiff]
 refine sr_app141 (l := R) (endB c) rfl (by omega) ?_
 simp only [go_sem, reduceEqDiff, Nat.reduceBEq, reduceAdd, reduceIte, reduceCtorEq, reduceLeDiff]
 have hR2 : ∀ r ∈ R ++ [endB c], r.size ≤ 100 := by
  intro r hr
  rcases List.mem_append.1 hr with hr | hr
  ·exact hR r hr
  ·simp at hr; subst hr; exact hend
 have hlen : (R ++ [endB c]).length = R.length + 1 := by simp
 have hj := join_len lf (R ++ [endB c]) 100 hR2
 have hj2 : 101 * (R ++ [endB c]).length ≤ 101 * 3000 := Nat.mul_le_mul_left _ (by omega)
 have hj3 : lf.size = 1 := rfl
 rw [hj3] at hj
 have hjp := Join_pc (R ++ [endB c]) lf (tailN (m + 1)) (by omega) (by omega)
 rw [hlen] at hjp
 refine cp n140 hjp (SubL.refl _) ?_
 have hjs : (joinB (R ++ [endB c]) lf).size + lf.size ≤ 4611686018427387904 := by
  have : (joinB (R ++ [endB c]) lf).size = (Lib.join ((R ++ [endB c]).map (·.data.toList)) lf.data.toList).length := by simp [joinB, ByteArray.size]
  omega
 have a4 : binA T .add 9 (.str (joinB (R ++ [endB c]) lf)) (.str ⟨#[10]⟩) = some (.str (joinB (R ++ [endB c]) lf ++ lf)) := addS hjs
 simp only [go_sem, a4, Tryz.f107, reduceEqDiff, Nat.reduceBEq, reduceAdd, reduceIte, reduceCtorEq, reduceLeDiff]
theorem Ln.plain {l : LLine} (h : Ln l) : Plain l where
 gives := by have := h.pts; omega
 counts := by have := h.cts; omega
 head := by
  intro n hn
  have h1 := h.least; have h2 := h.most; have h3 := h.taps
  simp only [List.mem_cons, List.not_mem_nil, or_false] at hn
  rcases hn with rfl | rfl | rfl <;> exact ⟨by omega, by omega⟩
 give := fun n hn => by have := h.gives n hn; exact ⟨by omega, by omega⟩
 count := fun c hc n hn => by
  have := h.counts c hc
  have := h.pts
  simp only [List.mem_cons, List.not_mem_nil, or_false] at hn
  rcases hn with rfl | rfl | rfl <;> exact ⟨by omega, by omega⟩
end Go.Av.Fx
end
section
namespace Go.Av.Fx
open Go Go.Av Go.Av.Tb Go.Proofs
theorem dec_lt {s : ByteArray} {i : Nat} (h : (s.get! i).toNat < 128) : Utf8.decode s i = ((s.get! i).toNat, 1) := by
 unfold Utf8.decode
 simp only [Nat.add_zero, if_pos h]
theorem dec_ge {s : ByteArray} {i : Nat} (h : ¬ (s.get! i).toNat < 128) : 128 ≤ (Utf8.decode s i).1 := by
 unfold Utf8.decode
 simp only [Nat.add_zero, if_neg h]
 repeat' split
 all_goals first | (show 128 ≤ 65533; decide) | (rename_i hh; simp only [Bool.and_eq_true, decide_eq_true_eq, ge_iff_le] at hh; show 128 ≤ _; omega)
def giveUp (why : ByteArray) : AV := .iface 176 (.agg [.str why])
def Gives (v : AV) : Prop := ∃ why, v = giveUp why
theorem Gives.bnd {v : AV} (h : Gives v) : v.bnd 0 0 = true := by obtain ⟨why, rfl⟩ := h; rfl
@[go_sem] theorem d176 : descOf T 176 = some ti176.desc := rfl
@[go_sem] theorem i176 : isIface ti176.desc = false := rfl
@[go_sem] theorem bd176 (a : ByteArray) : buildA T 176 [(0, .str a)] = some (.agg [.str a]) := rfl
theorem sure_ok (why : ByteArray) : PC Tryz.prog 143 [.bool true, .str why] (.pure (.tuple [])) := by
 refine PC.of_empty (AC.run (E_ok _) mix Tryz.func143 m143 rfl rfl rfl (Nat.le_of_ble_eq_true rfl) ?_) rfl rfl
 simp only [go_sem, un_not, Bool.not_true, Tryz.f143, reduceEqDiff, Nat.reduceBEq, reduceAdd, reduceIte, reduceCtorEq, reduceLeDiff]
 rfl
theorem sure_no (why : ByteArray) (S : St) : AC Tryz.prog 143 [.bool false, .str why] S fun e S' => ((∃ v, e = .ret v ∧ False) ∨ (∃ v, e = .panic v ∧ Gives v)) ∧ S' = S := by
 refine AC.of_iso (AC.run (E_ok _) mix Tryz.func143 m143 rfl rfl rfl (Nat.le_of_ble_eq_true rfl) ?_) rfl (fun _ h => h.elim) (fun _ h => h.bnd) S
 simp only [go_sem, un_not, Bool.not_false, Tryz.f143, reduceEqDiff, Nat.reduceBEq, reduceAdd, reduceIte, reduceCtorEq, reduceLeDiff]
 exact .inr ⟨_, rfl, why, rfl⟩
def isD (b : UInt8) : Bool := 48 ≤ b.toNat && b.toNat ≤ 57
def decP (x : ByteArray) : Nat → Int
 | 0 => 0
 | k + 1 => 10 * decP x k + ((x.get! k).toNat - 48)
def valW (x : ByteArray) : Int := decP x x.size
def digs (x : ByteArray) (k : Nat) : Bool := (List.range k).all fun j => isD (x.get! j)
def okW (x : ByteArray) : Bool := decide (x.size ≤ 3) && digs x x.size && decide (x.size ≠ 0) && decide (itoaB (valW x) = x)
def toldB (row : ByteArray) (kind many : Nat) : Option (List Int) :=
 if (splitL row 32).length = many + 1 ∧ (splitL row 32).head? = some (wordB kind) ∧ (splitL row 32).tail.all okW = true then some ((splitL row 32).tail.map valW) else none
theorem AC.sub {P : Program} {f : FuncId} {args : List AV} {S : St} {R R' : AEnd → St → Prop} (h : AC P f args S R) (hr : ∀ v S', R (.ret v) S' → ∃ v', Sub v v' ∧ R' (.ret v') S') (hp : ∀ v S', R (.panic v) S' → R' (.panic v) S') : AC P f args S R' := by
 intro c w vs hs hl
 refine (h c w vs hs hl).mono fun e w' ⟨ae, S', c', h1, h2, h3, h4⟩ => ?_
 cases ae with
 | ret v =>
  obtain ⟨v', s1, s2⟩ := hr v S' h2
  cases e with
  | returned x => exact ⟨.ret v', S', c', h1, s2, s1 c' x h3, h4⟩
  | panicked ch => exact h3.elim
  | outgrown => exact h3.elim
 | panic v => exact ⟨.panic v, S', c', h1, hp v S' h2, h3, h4⟩
theorem n159 : Callable Tryz.prog 159 := ⟨⟨_, Tryz.func159, by kernel_rfl, rfl⟩⟩
theorem sn {n : Nat} {S : St} {K Kp : AV → St → Prop} {h1 : Hold K} {h2 : Hold Kp} (why : ByteArray) (kp : ∀ v, Gives v → Kp v S) : sc (E n) K Kp h1 h2 (some (143, [.bool false, .str why])) S := by
 refine cac n143 (sure_no why _) (fun v S' h => ?_) (fun v S' h => ?_)
 ·obtain ⟨⟨v', _, h⟩ | ⟨v', e, _⟩, _⟩ := h
  ·exact h.elim
  ·cases e
 ·obtain ⟨⟨v', e, _⟩ | ⟨v', e, h⟩, rfl⟩ := h
  ·cases e
  ·cases e
   exact kp _ h
theorem if_congr2 {α : Type} {p q : Prop} [Decidable p] [Decidable q] {a b : α} (h : p ↔ q) : (if p then a else b) = if q then a else b := by
 by_cases hp : p
 ·rw [if_pos hp, if_pos (h.1 hp)]
 ·rw [if_neg hp, if_neg (fun hq => hp (h.2 hq))]
theorem Split_pc (s : ByteArray) (b : UInt8) (hs : s.size < 4294967281) : PC Tryz.prog 142 [.str s, .str ⟨#[b]⟩] (.pure (.slice (strs (splitL s b)) (splitL s b).length .exact)) := by
 refine PC.of_empty (AC.run (E_ok _) mix Tryz.func142 m142 rfl rfl rfl (Nat.le_of_ble_eq_true rfl) ?_) rfl (by simp [AV.bnd])
 simp only [go_sem, reduceEqDiff, Nat.reduceBEq, reduceAdd, reduceIte, reduceCtorEq, reduceLeDiff]
 refine cp n159 (genSplit_pc s b hs) (SubL.refl _) ?_
 simp only [go_sem, Tryz.f142, reduceEqDiff, Nat.reduceBEq, reduceAdd, reduceIte, reduceCtorEq, reduceLeDiff]
 rfl
theorem ba_eq (a b : ByteArray) : (a.toList == b.toList) = decide (a = b) := by
 rw [Lib.toList_data, Lib.toList_data]
 by_cases h : a = b
 ·subst h; simp
 ·rw [decide_eq_false h]
  apply beq_eq_false_iff_ne.2
  intro e
  apply h
  cases a; cases b
  simp only [ByteArray.mk.injEq]
  exact Array.toList_inj.1 e
theorem eqS (a b : ByteArray) : binA T .eql 9 (.str a) (.str b) = some (.bool (decide (a = b))) := by
 show some (AV.bool (a.toList == b.toList)) = _
 rw [ba_eq]
theorem neS (a b : ByteArray) : binA T .neq 9 (.str a) (.str b) = some (.bool (decide (a ≠ b))) := by
 show some (AV.bool !(a.toList == b.toList)) = _
 rw [ba_eq, decide_not]
theorem slS1 (a : ByteArray) (W : List ByteArray) (t : Tail) : sliceA T 141 (.slice (strs (a :: W)) (W.length + 1) t) (some (.int .i64 1)) none none = some (.slice (strs W) W.length .unk) := by
 have hd : descOf T 141 = some (.slice 9) := rfl
 have hb : bnd (some (.int .i64 1)) 0 (W.length + 1) = some 1 := by simp [bnd]; omega
 simp only [sliceA, hd, T9]
 rw [if_pos (by simp [ti9]), hb]
 rfl
theorem gro_sub (ns : List Int) : Sub (gro (ints ns)) (sl ns) := by
 cases ns with
 | nil => exact Sub.nil
 | cons a l =>
  show Sub (.slice (ints (a :: l)) ((ints l).length + 1) (.tok (ints l).length)) (.slice (ints (a :: l)) (l.length + 1) .unk)
  rw [ints_len]; exact Sub.unk _ _ _
theorem next_in {x : ByteArray} {j k : Nat} {tk : List Nat} (h : j < x.size) : Go.Av.nextA ⟨[some (.siter x j)], k, tk⟩ (.ref 0 0) = some (.write 0 (.siter x (j + (Utf8.decode x j).2)) (.tuple [.bool true, .int .i64 j, .int .i32 (Utf8.decode x j).1])) := by
 show (if j < x.size then _ else _) = _
 rw [if_pos h]
theorem next_out {x : ByteArray} {j k : Nat} {tk : List Nat} (h : ¬ j < x.size) : Go.Av.nextA ⟨[some (.siter x j)], k, tk⟩ (.ref 0 0) = some (.pure (.tuple [.bool false])) := by
 show (if j < x.size then _ else _) = _
 rw [if_neg h]
theorem wrap32 {x : Int} (h : -2147483648 ≤ x ∧ x ≤ 2147483647) : IntKind.i32.wrap x = x := by
 rw [IntKind.wrap_i32]; omega
theorem decP_pow {x : ByteArray} : ∀ {j : Nat}, digs x j = true → 0 ≤ decP x j ∧ decP x j < (10 ^ j : Nat)
 | 0, _ => by simp [decP]
 | j + 1, h => by
  unfold digs at h
  rw [List.range_succ, List.all_append, Bool.and_eq_true] at h
  have ih := decP_pow (x := x) (j := j) h.1
  have hd : 48 ≤ (x.get! j).toNat ∧ (x.get! j).toNat ≤ 57 := by simpa [isD] using h.2
  show 0 ≤ 10 * decP x j + (((x.get! j).toNat : Int) - 48) ∧ 10 * decP x j + (((x.get! j).toNat : Int) - 48) < (10 ^ (j + 1) : Nat)
  rw [Nat.pow_succ]
  omega
theorem decP_bd {x : ByteArray} {j : Nat} (h : digs x j = true) (hj : j ≤ 3) : 0 ≤ decP x j ∧ decP x j ≤ 999 := by
 have h1 := decP_pow h
 have h2 : 10 ^ j ≤ 10 ^ 3 := Nat.pow_le_pow_right (by decide) hj
 omega
theorem told_ac (row : ByteArray) (kind many : Nat) (hk : kind < 3) (hm : many ≤ 3) (hs : row.size < 4294967281) (S : St) : AC Tryz.prog 144 [.str row, .int .i64 kind, .int .i64 many] S fun e S' =>
  ((∃ v, e = .ret v ∧ ∃ ns, toldB row kind many = some ns ∧ v = sl ns) ∨ (∃ v, e = .panic v ∧ toldB row kind many = none ∧ Gives v)) ∧ S' = S := by
 refine AC.of_iso ?_ rfl (fun v ⟨ns, _, h⟩ => by subst h; simp [AV.bnd]) (fun v h => h.2.bnd) S
 refine AC.sub (R := fun e _ => (∃ v, e = .ret v ∧ ∃ ns, toldB row kind many = some ns ∧ v = gro (ints ns)) ∨ (∃ v, e = .panic v ∧ toldB row kind many = none ∧ Gives v)) ?_ ?_ ?_
 ·refine AC.run (E_ok _) mix Tryz.func144 m144 rfl rfl rfl (Nat.le_of_ble_eq_true rfl) ?_
  simp only [go_sem, reduceEqDiff, Nat.reduceBEq, reduceAdd, reduceIte, reduceCtorEq, reduceLeDiff]
  refine cp n142 (Split_pc row 32 hs) (SubL.refl _) ?_
  have w1 : IntKind.i64.wrap ((many : Int) + 1) = (many + 1 : Nat) := wrap64 (by omega)
  have hW : toldB row kind many = if (splitL row 32).length = many + 1 ∧ (splitL row 32).head? = some (wordB kind) ∧ (splitL row 32).tail.all okW = true then some ((splitL row 32).tail.map valW) else none := rfl
  rw [hW]
  clear hW
  generalize splitL row 32 = W at *
  by_cases hl : ¬ W.length = many + 1
  ·have hd : ¬ ((W.length : Int) = (many + 1 : Nat)) := by omega
   simp only [go_sem, builtinA, w1, hd, decide_false, reduceEqDiff, Nat.reduceBEq, reduceAdd, reduceIte, reduceCtorEq, reduceLeDiff]
   rw [if_neg (fun h => hl h.1)]
   exact sn row fun v h => .inr ⟨v, rfl, rfl, h⟩
  have hl : W.length = many + 1 := Decidable.not_not.1 hl
  have hd : ((W.length : Int) = (many + 1 : Nat)) := by omega
  cases W with
  | nil => simp at hl
  | cons a W =>
   have hl' : W.length = many := by simpa using hl
   have hW2 : (if (a :: W).length = many + 1 ∧ (a :: W).head? = some (wordB kind) ∧ (a :: W).tail.all okW = true then some ((a :: W).tail.map valW) else none) = if a = wordB kind ∧ W.all okW = true then some (W.map valW) else none := by
    simp [hl']
   rw [hW2]
   clear hW2
   have hd : decide (((W.length + 1 : Nat) : Int) = (many + 1 : Nat)) = true := decide_eq_true (by omega)
   have z : (0 : Int) < ((W.length + 1 : Nat) : Int) := by omega
   have hk3 : indexA T 181 (.agg [.str (wordB 0), .str (wordB 1), .str (wordB 2)]) (.int .i64 kind) = some (.str (wordB kind)) := by
    match kind, hk with
    | 0, _ => rfl
    | 1, _ => rfl
    | 2, _ => rfl
   simp only [go_sem, builtinA, w1, hd, decide_true, z, Int.le_refl, and_true, Int.toNat_zero, strs_get, Option.map_some, reduceEqDiff, Nat.reduceBEq, reduceAdd, reduceIte, reduceCtorEq, reduceLeDiff]
   refine qp n146 words_pc (SubL.refl _) ?_
   simp only [go_sem, builtinA, hk3, eqS, strs_get, Option.map_some, reduceEqDiff, Nat.reduceBEq, reduceAdd, reduceIte, reduceCtorEq, reduceLeDiff]
   by_cases ha : ¬ a = wordB kind
   ·rw [decide_eq_false ha, if_neg (fun h => ha h.1)]
    exact sn row fun v h => .inr ⟨v, rfl, rfl, h⟩
   have ha : a = wordB kind := Decidable.not_not.1 ha
   rw [decide_eq_true ha, if_congr2 (by simp [ha] : (a = wordB kind ∧ W.all okW = true) ↔ W.all okW = true)]
   refine cp n143 (sure_ok row) (SubL.refl _) ?_
   simp only [go_sem, builtinA, slS1, reduceEqDiff, Nat.reduceBEq, reduceAdd, reduceIte, reduceCtorEq, reduceLeDiff]
   clear hk3 ha hd z hl
   refine wc_forGP W.length (fun k => (W.take k).all okW = true) (fun k => [(8, gro (ints ((W.take k).map valW))), (33, .slice (strs W) W.length .unk), (34, .int .i64 W.length), (35, .int .i64 k)]) (fun k => ⟨[], k, toksN k⟩) rfl rfl rfl (fun k hk => ?_) ?_
   ·have e : (ints ((W.take k).map valW)).length = k := by simp; omega
    have e2 := gro_bnd (n := 0) (l := ints ((W.take k).map valW)) (ints_bnd _ _ _)
    rw [e] at e2
    refine ⟨Nat.zero_le _, Nat.zero_le _, by show (AV.bnd 0 k (gro (ints ((W.take k).map valW))) && bndTS 0 k _) = true; rw [e2]; simp [bndTS, AV.bnd], fun i B hB => by simp at hB, fun t ht => toksN_lt ht⟩
   intro k hkk hP I hI
   have elen : (ints ((W.take k).map valW)).length = k := by simp; omega
   by_cases h' : k < W.length
   ·have h1 : (k : Int) < W.length := by omega
    have h2 : 0 ≤ (k : Int) ∧ (k : Int) < W.length := by omega
    have h3 : W[k]? = some W[k] := List.getElem?_eq_getElem h'
    have h4 : IntKind.i64.wrap ((k : Int) + 1) = (k + 1 : Nat) := wrap64 (by omega)
    simp only [go_sem, l144_0, h1, decide_true, h2, strs_get, h3, rangeA, reduceEqDiff, Nat.reduceBEq, reduceAdd, reduceIte, reduceCtorEq, reduceLeDiff]
    have hall : okW W[k] = false → (if W.all okW = true then some (W.map valW) else none) = none := fun h => by
     rw [if_neg]
     intro ha
     rw [List.all_eq_true] at ha
     have := ha _ (List.getElem_mem h')
     rw [h] at this; cases this
    have hstep : okW W[k] = true → (W.take (k + 1)).all okW = true := fun h => by
     rw [List.take_succ_eq_append_getElem h', List.all_append, hP]; simp [h]
    have hmap : (W.take (k + 1)).map valW = (W.take k).map valW ++ [valW W[k]] := by
     rw [List.take_succ_eq_append_getElem h', List.map_append]; rfl
    rw [hmap] at hI
    generalize W[k] = x at *
    refine wc_forP x.size (fun j => digs x j = true ∧ (j ≠ 0 → x.size ≤ 3)) (fun j => [(8, gro (ints ((W.take k).map valW))), (33, .slice (strs W) W.length .unk), (34, .int .i64 W.length), (35, .int .i64 k), (10, .str x), (11, .int .i64 (decP x j)), (40, .ref 0 0)]) (fun j => ⟨[some (.siter x j)], k, toksN k⟩) ⟨rfl, fun h => absurd rfl h⟩ rfl rfl ?_
    rintro j hj ⟨hD, hS⟩ I2 hI2
    by_cases h'' : j < x.size
    ·by_cases hd : isD (x.get! j) = true
     ·have hd2 : 48 ≤ (x.get! j).toNat ∧ (x.get! j).toNat ≤ 57 := by simpa [isD] using hd
      have g1 := dec_lt (s := x) (i := j) (by omega)
      have g2 : ((x.get! j).toNat : Int) ≥ 48 := by omega
      have g3 : ((x.get! j).toNat : Int) ≤ 57 := by omega
      have hn := next_in (k := k) (tk := toksN k) h''
      rw [g1] at hn
      by_cases hs3 : x.size ≤ 3
      ·have g4 : (x.size : Int) ≤ 3 := by omega
       have hdb := decP_bd hD (by omega)
       have hnext : digs x (j + 1) = true := by unfold digs at hD ⊢; rw [List.range_succ, List.all_append, hD]; simp [hd]
       have w5 : IntKind.i64.wrap (10 * decP x j) = 10 * decP x j := wrap64 (by omega)
       have w6 : IntKind.i32.wrap (((x.get! j).toNat : Int) - 48) = ((x.get! j).toNat : Int) - 48 := wrap32 (by omega)
       have w7 : IntKind.i64.wrap (((x.get! j).toNat : Int) - 48) = ((x.get! j).toNat : Int) - 48 := wrap64 (by omega)
       have w8 : IntKind.i64.wrap (10 * decP x j + (((x.get! j).toNat : Int) - 48)) = 10 * decP x j + (((x.get! j).toNat : Int) - 48) := wrap64 (by omega)
       simp only [go_sem, l144_1, hn, extractA, builtinA, g2, g3, g4, decide_true, reduceEqDiff, Nat.reduceBEq, reduceAdd, reduceIte, reduceCtorEq, reduceLeDiff]
       refine cp n143 (sure_ok x) (SubL.refl _) ?_
       simp only [go_sem, convA, w5, w6, w7, w8, reduceEqDiff, Nat.reduceBEq, reduceAdd, reduceIte, reduceCtorEq, reduceLeDiff]
       exact hI2 h'' ⟨hnext, fun _ => hs3⟩
      ·have g4 : ¬ (x.size : Int) ≤ 3 := by omega
       have hf : okW x = false := by unfold okW; rw [decide_eq_false hs3]; rfl
       simp only [go_sem, l144_1, hn, extractA, builtinA, g2, g3, g4, decide_true, decide_false, reduceEqDiff, Nat.reduceBEq, reduceAdd, reduceIte, reduceCtorEq, reduceLeDiff]
       refine sn x fun v h => ?_
       exact .inr ⟨v, rfl, hall hf, h⟩
     ·have hd2 : ¬ (48 ≤ (x.get! j).toNat ∧ (x.get! j).toNat ≤ 57) := by simpa [isD] using hd
      have hf : okW x = false := by
       have : digs x x.size = false := by
        unfold digs
        rw [List.all_eq_false]
        exact ⟨j, List.mem_range.2 h'', hd⟩
       unfold okW; rw [this]; simp
      have hr : ¬ (48 ≤ (Utf8.decode x j).1 ∧ (Utf8.decode x j).1 ≤ 57) := by
       by_cases hb : (x.get! j).toNat < 128
       ·rw [dec_lt hb]; exact hd2
       ·have := dec_ge hb; omega
      have hn := next_in (k := k) (tk := toksN k) h''
      generalize Utf8.decode x j = D at *
      by_cases c1 : (D.1 : Int) ≥ 48
      ·have c2 : ¬ (D.1 : Int) ≤ 57 := by omega
       simp only [go_sem, l144_1, hn, extractA, builtinA, c1, c2, decide_true, decide_false, reduceEqDiff, Nat.reduceBEq, reduceAdd, reduceIte, reduceCtorEq, reduceLeDiff]
       refine sn x fun v h => ?_
       exact .inr ⟨v, rfl, hall hf, h⟩
      ·simp only [go_sem, l144_1, hn, extractA, builtinA, c1, decide_true, decide_false, reduceEqDiff, Nat.reduceBEq, reduceAdd, reduceIte, reduceCtorEq, reduceLeDiff]
       refine sn x fun v h => ?_
       exact .inr ⟨v, rfl, hall hf, h⟩
    ·have e : j = x.size := by omega
     subst e
     clear hI2 hj
     have hn := next_out (k := k) (tk := toksN k) h''
     simp only [go_sem, l144_1, hn, extractA, reduceEqDiff, Nat.reduceBEq, reduceAdd, reduceIte, reduceCtorEq, reduceLeDiff]
     have hne := neS x ⟨#[]⟩
     by_cases h0 : x.size = 0
     ·have hx : ¬ x ≠ ⟨#[]⟩ := fun hn => hn (by
       cases x with
       | mk d => simp only [ByteArray.mk.injEq]; exact Array.eq_empty_of_size_eq_zero h0)
      have hf : okW x = false := by unfold okW; rw [decide_eq_false (p := x.size ≠ 0) (fun hn => hn h0)]; simp
      rw [decide_eq_false hx] at hne
      simp only [go_sem, hne, reduceEqDiff, Nat.reduceBEq, reduceAdd, reduceIte, reduceCtorEq, reduceLeDiff]
      refine sn x fun v h => ?_
      exact .inr ⟨v, rfl, hall hf, h⟩
     have hx : x ≠ ⟨#[]⟩ := fun hn => h0 (by rw [hn]; rfl)
     rw [decide_eq_true hx] at hne
     have hs3 := hS h0
     have hdb := decP_bd hD hs3
     simp only [go_sem, hne, reduceEqDiff, Nat.reduceBEq, reduceAdd, reduceIte, reduceCtorEq, reduceLeDiff]
     refine cp n139 (Itoa_pc _ (by omega) (by omega)) (SubL.refl _) ?_
     simp only [go_sem, eqS, reduceEqDiff, Nat.reduceBEq, reduceAdd, reduceIte, reduceCtorEq, reduceLeDiff]
     by_cases hi : itoaB (decP x x.size) = x
     ·have hok : okW x = true := by unfold okW valW; rw [decide_eq_true hs3, hD, decide_eq_true h0, decide_eq_true hi]; rfl
      rw [decide_eq_true hi]
      refine cp n143 (sure_ok x) (SubL.refl _) ?_
      simp only [go_sem, builtinA, reduceEqDiff, Nat.reduceBEq, reduceAdd, reduceIte, reduceCtorEq, reduceLeDiff]
      refine sr_gro22 _ _ _ elen (by omega) ?_
      simp only [go_sem, h4, reduceEqDiff, Nat.reduceBEq, reduceAdd, reduceIte, reduceCtorEq, reduceLeDiff]
      have hI' := hI h' (hstep hok) [some (.siter x x.size)]
      rw [show ints ((W.take k).map valW ++ [valW x]) = ints ((W.take k).map valW) ++ [.int .i64 (valW x)] by simp [ints]] at hI'
      exact hI'
     ·have hf : okW x = false := by unfold okW valW; rw [decide_eq_false hi]; simp
      rw [decide_eq_false hi]
      refine sn x fun v h => ?_
      exact .inr ⟨v, rfl, hall hf, h⟩
   ·have h1 : ¬ (k : Int) < W.length := by omega
    have e : k = W.length := by omega
    subst e
    rw [List.take_length] at hP
    simp only [go_sem, l144_0, h1, decide_false, Tryz.f144, hP, List.take_length, reduceEqDiff, Nat.reduceBEq, reduceAdd, reduceIte, reduceCtorEq, reduceLeDiff]
    exact .inl ⟨_, rfl, _, rfl, rfl⟩
 ·rintro v S' (⟨v', e, ns, h1, h2⟩ | ⟨v', e, _⟩)
  ·cases e; exact ⟨sl ns, by rw [h2]; exact gro_sub ns, .inl ⟨_, rfl, ns, h1, rfl⟩⟩
  ·cases e
 ·rintro v S' (⟨v', e, _⟩ | h)
  ·cases e
  ·exact .inr h
end Go.Av.Fx
end

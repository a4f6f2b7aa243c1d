/- Part 11 of the proof. -/
import Derived.Test.YtlagjjpbknpdkaaGreatDoorVp10
set_option linter.all false
set_option linter.unusedVariables false
set_option linter.unusedSimpArgs false
set_option linter.unusedSectionVars false
open Nat (reduceEqDiff reduceAdd reduceLeDiff)
section
namespace Go.Av
open Go
def sq (K : AV → St → Prop) (h : Hold K) (o : Option Res) (S : St) : Prop :=
 match o with
 | some r => r.quiet = true ∧ r.ok S ∧ K (r.app S).1 (r.app S).2
 | none => False
@[go_sem] theorem sq_pure (v : AV) (S : St) (K : AV → St → Prop) (h : Hold K) : sq K h (some (.pure v)) S = K v S := by simp [sq, Res.ok, Res.app, Res.quiet]
@[go_sem] theorem sq_alloc (B : Blk) (mk : Nat → AV) (S : St) (K : AV → St → Prop) (h : Hold K) : sq K h (some (.alloc B mk)) S = K (mk S.heap.length) { S with heap := S.heap ++ [some B] } := by simp [sq, Res.ok, Res.app, Res.quiet]
@[go_sem] theorem sq_tok (mk : Nat → AV) (S : St) (K : AV → St → Prop) (h : Hold K) : sq K h (some (.tok none mk)) S = K (mk S.nt) { S with toks := S.nt :: S.toks, nt := S.nt + 1 } := by simp [sq, Res.ok, Res.app, killTok, Res.quiet]
@[go_sem] theorem sq_tok_some (k : Nat) (mk : Nat → AV) (S : St) (K : AV → St → Prop) (h : Hold K) : sq K h (some (.tok (some k) mk)) S = (k ∈ S.toks ∧ K (mk S.nt) { S with toks := S.nt :: killTok S.toks (some k), nt := S.nt + 1 }) := by simp [sq, Res.ok, Res.app, Res.quiet]
def sf (K : AV → Prop) (h : Hold K) (o : Option Res) : Prop :=
 match o with
 | some (.pure v) => K v
 | _ => False
@[go_sem] theorem sf_pure (v : AV) (K : AV → Prop) (h : Hold K) : sf K h (some (.pure v)) = K v := rfl
def sqc (E : Env) (K : AV → St → Prop) (h : Hold K) (c : Option (FuncId × List AV)) (S : St) : Prop :=
 match c with
 | some (f, args) => Callable E.P f ∧ ∃ args' r, SubL args args' ∧ PC E.P f args' r ∧ r.quiet = true ∧ r.noKill = true ∧ K (r.app S).1 (r.app S).2
 | none => False
@[go_sem] theorem y_zero {E : Env} {K : TS → St → Prop} {l : List MO} {hs : List Bool} {b : St} {ts : TS} {S : St} : preM E K 0 l hs b ts S = K ts S := rfl
@[go_sem] theorem y_guard {E : Env} {K : TS → St → Prop} {n : Nat} {rest : List MO} {b : St} {ts : TS} {S : St} (t : Nat) (g : Bool) (d : Option Nat) (o : Op) :
  preM E K (n + 1) (⟨some (t, g), d, o⟩ :: rest) [] b ts S = sg (preM E K (n + 1) (⟨none, d, o⟩ :: rest) [] b ts S) (preM E K n rest [] b (setT ts d .undef) S) ⟨⟩ ⟨⟩ g (ts.get t) := by
 simp only [preM, guardM, sg]
 cases h : ts.get t with
 | none => rfl
 | some v =>
  cases v with
  | bool c => cases c <;> cases g <;> simp
  | _ => rfl
@[go_sem] theorem y_free {E : Env} {K : TS → St → Prop} {n : Nat} {rest : List MO} {hs : List Bool} {b : St} {ts : TS} {S : St} (d : Option Nat) (o : Op) :
  preM E K (n + 1) (⟨none, d, o⟩ :: rest) (true :: hs) b ts S = sf (fun v => preM E K n rest hs b (setT ts d v) S) ⟨⟩ (astepO E.T St.none ts o) := by
 simp only [preM, guardM, QOp, List.headD_cons, List.tail_cons, if_true, sf]
 cases h : astepO E.T St.none ts o with
 | none => rfl
 | some r => cases r <;> simp [Res.calm, Res.app]
@[go_sem] theorem y_move {E : Env} {K : TS → St → Prop} {n : Nat} {rest : List MO} {b : St} {ts : TS} {S : St} (d : Option Nat) (x : Operand) : preM E K (n + 1) (⟨none, d, .move x⟩ :: rest) [] b ts S = sq (fun v S' => preM E K n rest [] b (setT ts d v) S') ⟨⟩ (astepO E.T b ts (.move x)) S := by
 simp only [preM, guardM, QOp, List.headD_nil, List.tail_nil, Bool.false_eq_true, if_false, isW, sq]
 cases astepO E.T b ts (.move x) <;> rfl
@[go_sem] theorem z_move {E : Env} {K : TS → St → Prop} {n : Nat} {rest : List MO} {hs : List Bool} {b : St} {ts : TS} {S : St} (d : Option Nat) (x : Operand) : preM E K (n + 1) (⟨none, d, .move x⟩ :: rest) (false :: hs) b ts S = sq (fun v S' => preM E K n rest hs b (setT ts d v) S') ⟨⟩ (astepO E.T b ts (.move x)) S := by
 simp only [preM, guardM, QOp, List.headD_cons, List.tail_cons, Bool.false_eq_true, if_false, isW, sq]
 cases astepO E.T b ts (.move x) <;> rfl
@[go_sem] theorem y_assign {E : Env} {K : TS → St → Prop} {n : Nat} {rest : List MO} {b : St} {ts : TS} {S : St} (d : Option Nat) (x : Operand) : preM E K (n + 1) (⟨none, d, .assign x⟩ :: rest) [] b ts S = sq (fun v S' => preM E K n rest [] b (setT ts d v) S') ⟨⟩ (astepO E.T b ts (.assign x)) S := by
 simp only [preM, guardM, QOp, List.headD_nil, List.tail_nil, Bool.false_eq_true, if_false, isW, sq]
 cases astepO E.T b ts (.assign x) <;> rfl
@[go_sem] theorem z_assign {E : Env} {K : TS → St → Prop} {n : Nat} {rest : List MO} {hs : List Bool} {b : St} {ts : TS} {S : St} (d : Option Nat) (x : Operand) : preM E K (n + 1) (⟨none, d, .assign x⟩ :: rest) (false :: hs) b ts S = sq (fun v S' => preM E K n rest hs b (setT ts d v) S') ⟨⟩ (astepO E.T b ts (.assign x)) S := by
 simp only [preM, guardM, QOp, List.headD_cons, List.tail_cons, Bool.false_eq_true, if_false, isW, sq]
 cases astepO E.T b ts (.assign x) <;> rfl
@[go_sem] theorem y_pick {E : Env} {K : TS → St → Prop} {n : Nat} {rest : List MO} {b : St} {ts : TS} {S : St} (d : Option Nat) (c x y : Operand) : preM E K (n + 1) (⟨none, d, .pick c x y⟩ :: rest) [] b ts S = sq (fun v S' => preM E K n rest [] b (setT ts d v) S') ⟨⟩ (astepO E.T b ts (.pick c x y)) S := by
 simp only [preM, guardM, QOp, List.headD_nil, List.tail_nil, Bool.false_eq_true, if_false, isW, sq]
 cases astepO E.T b ts (.pick c x y) <;> rfl
@[go_sem] theorem z_pick {E : Env} {K : TS → St → Prop} {n : Nat} {rest : List MO} {hs : List Bool} {b : St} {ts : TS} {S : St} (d : Option Nat) (c x y : Operand) : preM E K (n + 1) (⟨none, d, .pick c x y⟩ :: rest) (false :: hs) b ts S = sq (fun v S' => preM E K n rest hs b (setT ts d v) S') ⟨⟩ (astepO E.T b ts (.pick c x y)) S := by
 simp only [preM, guardM, QOp, List.headD_cons, List.tail_cons, Bool.false_eq_true, if_false, isW, sq]
 cases astepO E.T b ts (.pick c x y) <;> rfl
@[go_sem] theorem y_alloc {E : Env} {K : TS → St → Prop} {n : Nat} {rest : List MO} {b : St} {ts : TS} {S : St} (d : Option Nat) (e : TypeId) : preM E K (n + 1) (⟨none, d, .alloc e⟩ :: rest) [] b ts S = sq (fun v S' => preM E K n rest [] b (setT ts d v) S') ⟨⟩ (astepO E.T b ts (.alloc e)) S := by
 simp only [preM, guardM, QOp, List.headD_nil, List.tail_nil, Bool.false_eq_true, if_false, isW, sq]
 cases astepO E.T b ts (.alloc e) <;> rfl
@[go_sem] theorem z_alloc {E : Env} {K : TS → St → Prop} {n : Nat} {rest : List MO} {hs : List Bool} {b : St} {ts : TS} {S : St} (d : Option Nat) (e : TypeId) : preM E K (n + 1) (⟨none, d, .alloc e⟩ :: rest) (false :: hs) b ts S = sq (fun v S' => preM E K n rest hs b (setT ts d v) S') ⟨⟩ (astepO E.T b ts (.alloc e)) S := by
 simp only [preM, guardM, QOp, List.headD_cons, List.tail_cons, Bool.false_eq_true, if_false, isW, sq]
 cases astepO E.T b ts (.alloc e) <;> rfl
@[go_sem] theorem y_box {E : Env} {K : TS → St → Prop} {n : Nat} {rest : List MO} {b : St} {ts : TS} {S : St} (d : Option Nat) (e : TypeId) (x : Operand) : preM E K (n + 1) (⟨none, d, .box e x⟩ :: rest) [] b ts S = sq (fun v S' => preM E K n rest [] b (setT ts d v) S') ⟨⟩ (astepO E.T b ts (.box e x)) S := by
 simp only [preM, guardM, QOp, List.headD_nil, List.tail_nil, Bool.false_eq_true, if_false, isW, sq]
 cases astepO E.T b ts (.box e x) <;> rfl
@[go_sem] theorem z_box {E : Env} {K : TS → St → Prop} {n : Nat} {rest : List MO} {hs : List Bool} {b : St} {ts : TS} {S : St} (d : Option Nat) (e : TypeId) (x : Operand) : preM E K (n + 1) (⟨none, d, .box e x⟩ :: rest) (false :: hs) b ts S = sq (fun v S' => preM E K n rest hs b (setT ts d v) S') ⟨⟩ (astepO E.T b ts (.box e x)) S := by
 simp only [preM, guardM, QOp, List.headD_cons, List.tail_cons, Bool.false_eq_true, if_false, isW, sq]
 cases astepO E.T b ts (.box e x) <;> rfl
@[go_sem] theorem y_build {E : Env} {K : TS → St → Prop} {n : Nat} {rest : List MO} {b : St} {ts : TS} {S : St} (d : Option Nat) (t : TypeId) (ps : Array (Nat × Operand)) : preM E K (n + 1) (⟨none, d, .build t ps⟩ :: rest) [] b ts S = sq (fun v S' => preM E K n rest [] b (setT ts d v) S') ⟨⟩ (astepO E.T b ts (.build t ps)) S := by
 simp only [preM, guardM, QOp, List.headD_nil, List.tail_nil, Bool.false_eq_true, if_false, isW, sq]
 cases astepO E.T b ts (.build t ps) <;> rfl
@[go_sem] theorem z_build {E : Env} {K : TS → St → Prop} {n : Nat} {rest : List MO} {hs : List Bool} {b : St} {ts : TS} {S : St} (d : Option Nat) (t : TypeId) (ps : Array (Nat × Operand)) : preM E K (n + 1) (⟨none, d, .build t ps⟩ :: rest) (false :: hs) b ts S = sq (fun v S' => preM E K n rest hs b (setT ts d v) S') ⟨⟩ (astepO E.T b ts (.build t ps)) S := by
 simp only [preM, guardM, QOp, List.headD_cons, List.tail_cons, Bool.false_eq_true, if_false, isW, sq]
 cases astepO E.T b ts (.build t ps) <;> rfl
@[go_sem] theorem y_buildSlice {E : Env} {K : TS → St → Prop} {n : Nat} {rest : List MO} {b : St} {ts : TS} {S : St} (d : Option Nat) (t : TypeId) (sz : Nat) (ps : Array (Nat × Operand)) : preM E K (n + 1) (⟨none, d, .buildSlice t sz ps⟩ :: rest) [] b ts S = sq (fun v S' => preM E K n rest [] b (setT ts d v) S') ⟨⟩ (astepO E.T b ts (.buildSlice t sz ps)) S := by
 simp only [preM, guardM, QOp, List.headD_nil, List.tail_nil, Bool.false_eq_true, if_false, isW, sq]
 cases astepO E.T b ts (.buildSlice t sz ps) <;> rfl
@[go_sem] theorem z_buildSlice {E : Env} {K : TS → St → Prop} {n : Nat} {rest : List MO} {hs : List Bool} {b : St} {ts : TS} {S : St} (d : Option Nat) (t : TypeId) (sz : Nat) (ps : Array (Nat × Operand)) : preM E K (n + 1) (⟨none, d, .buildSlice t sz ps⟩ :: rest) (false :: hs) b ts S = sq (fun v S' => preM E K n rest hs b (setT ts d v) S') ⟨⟩ (astepO E.T b ts (.buildSlice t sz ps)) S := by
 simp only [preM, guardM, QOp, List.headD_cons, List.tail_cons, Bool.false_eq_true, if_false, isW, sq]
 cases astepO E.T b ts (.buildSlice t sz ps) <;> rfl
@[go_sem] theorem y_load {E : Env} {K : TS → St → Prop} {n : Nat} {rest : List MO} {b : St} {ts : TS} {S : St} (d : Option Nat) (t : TypeId) (a : Operand) : preM E K (n + 1) (⟨none, d, .load t a⟩ :: rest) [] b ts S = sq (fun v S' => preM E K n rest [] b (setT ts d v) S') ⟨⟩ (astepO E.T b ts (.load t a)) S := by
 simp only [preM, guardM, QOp, List.headD_nil, List.tail_nil, Bool.false_eq_true, if_false, isW, sq]
 cases astepO E.T b ts (.load t a) <;> rfl
@[go_sem] theorem z_load {E : Env} {K : TS → St → Prop} {n : Nat} {rest : List MO} {hs : List Bool} {b : St} {ts : TS} {S : St} (d : Option Nat) (t : TypeId) (a : Operand) : preM E K (n + 1) (⟨none, d, .load t a⟩ :: rest) (false :: hs) b ts S = sq (fun v S' => preM E K n rest hs b (setT ts d v) S') ⟨⟩ (astepO E.T b ts (.load t a)) S := by
 simp only [preM, guardM, QOp, List.headD_cons, List.tail_cons, Bool.false_eq_true, if_false, isW, sq]
 cases astepO E.T b ts (.load t a) <;> rfl
@[go_sem] theorem y_store {E : Env} {K : TS → St → Prop} {n : Nat} {rest : List MO} {b : St} {ts : TS} {S : St} (d : Option Nat) (t : TypeId) (a v : Operand) : preM E K (n + 1) (⟨none, d, .store t a v⟩ :: rest) [] b ts S = sr (fun v S' => preM E K n rest [] S' (setT ts d v) S') ⟨⟩ (astepO E.T S ts (.store t a v)) S := by
 simp only [preM, guardM, QOp, List.headD_nil, List.tail_nil, Bool.false_eq_true, if_false, isW, if_true, sr]
 cases astepO E.T S ts (.store t a v) <;> rfl
@[go_sem] theorem z_store {E : Env} {K : TS → St → Prop} {n : Nat} {rest : List MO} {hs : List Bool} {b : St} {ts : TS} {S : St} (d : Option Nat) (t : TypeId) (a v : Operand) : preM E K (n + 1) (⟨none, d, .store t a v⟩ :: rest) (false :: hs) b ts S = sr (fun v S' => preM E K n rest hs S' (setT ts d v) S') ⟨⟩ (astepO E.T S ts (.store t a v)) S := by
 simp only [preM, guardM, QOp, List.headD_cons, List.tail_cons, Bool.false_eq_true, if_false, isW, if_true, sr]
 cases astepO E.T S ts (.store t a v) <;> rfl
@[go_sem] theorem y_nilCheck {E : Env} {K : TS → St → Prop} {n : Nat} {rest : List MO} {b : St} {ts : TS} {S : St} (d : Option Nat) (x : Operand) : preM E K (n + 1) (⟨none, d, .nilCheck x⟩ :: rest) [] b ts S = sq (fun v S' => preM E K n rest [] b (setT ts d v) S') ⟨⟩ (astepO E.T b ts (.nilCheck x)) S := by
 simp only [preM, guardM, QOp, List.headD_nil, List.tail_nil, Bool.false_eq_true, if_false, isW, sq]
 cases astepO E.T b ts (.nilCheck x) <;> rfl
@[go_sem] theorem z_nilCheck {E : Env} {K : TS → St → Prop} {n : Nat} {rest : List MO} {hs : List Bool} {b : St} {ts : TS} {S : St} (d : Option Nat) (x : Operand) : preM E K (n + 1) (⟨none, d, .nilCheck x⟩ :: rest) (false :: hs) b ts S = sq (fun v S' => preM E K n rest hs b (setT ts d v) S') ⟨⟩ (astepO E.T b ts (.nilCheck x)) S := by
 simp only [preM, guardM, QOp, List.headD_cons, List.tail_cons, Bool.false_eq_true, if_false, isW, sq]
 cases astepO E.T b ts (.nilCheck x) <;> rfl
@[go_sem] theorem y_binOp {E : Env} {K : TS → St → Prop} {n : Nat} {rest : List MO} {b : St} {ts : TS} {S : St} (d : Option Nat) (op : BinOp) (t : TypeId) (x y : Operand) (t' : TypeId) : preM E K (n + 1) (⟨none, d, .binOp op t x y t'⟩ :: rest) [] b ts S = sq (fun v S' => preM E K n rest [] b (setT ts d v) S') ⟨⟩ (astepO E.T b ts (.binOp op t x y t')) S := by
 simp only [preM, guardM, QOp, List.headD_nil, List.tail_nil, Bool.false_eq_true, if_false, isW, sq]
 cases astepO E.T b ts (.binOp op t x y t') <;> rfl
@[go_sem] theorem z_binOp {E : Env} {K : TS → St → Prop} {n : Nat} {rest : List MO} {hs : List Bool} {b : St} {ts : TS} {S : St} (d : Option Nat) (op : BinOp) (t : TypeId) (x y : Operand) (t' : TypeId) : preM E K (n + 1) (⟨none, d, .binOp op t x y t'⟩ :: rest) (false :: hs) b ts S = sq (fun v S' => preM E K n rest hs b (setT ts d v) S') ⟨⟩ (astepO E.T b ts (.binOp op t x y t')) S := by
 simp only [preM, guardM, QOp, List.headD_cons, List.tail_cons, Bool.false_eq_true, if_false, isW, sq]
 cases astepO E.T b ts (.binOp op t x y t') <;> rfl
@[go_sem] theorem y_unOp {E : Env} {K : TS → St → Prop} {n : Nat} {rest : List MO} {b : St} {ts : TS} {S : St} (d : Option Nat) (op : UnOp) (t : TypeId) (x : Operand) : preM E K (n + 1) (⟨none, d, .unOp op t x⟩ :: rest) [] b ts S = sq (fun v S' => preM E K n rest [] b (setT ts d v) S') ⟨⟩ (astepO E.T b ts (.unOp op t x)) S := by
 simp only [preM, guardM, QOp, List.headD_nil, List.tail_nil, Bool.false_eq_true, if_false, isW, sq]
 cases astepO E.T b ts (.unOp op t x) <;> rfl
@[go_sem] theorem z_unOp {E : Env} {K : TS → St → Prop} {n : Nat} {rest : List MO} {hs : List Bool} {b : St} {ts : TS} {S : St} (d : Option Nat) (op : UnOp) (t : TypeId) (x : Operand) : preM E K (n + 1) (⟨none, d, .unOp op t x⟩ :: rest) (false :: hs) b ts S = sq (fun v S' => preM E K n rest hs b (setT ts d v) S') ⟨⟩ (astepO E.T b ts (.unOp op t x)) S := by
 simp only [preM, guardM, QOp, List.headD_cons, List.tail_cons, Bool.false_eq_true, if_false, isW, sq]
 cases astepO E.T b ts (.unOp op t x) <;> rfl
@[go_sem] theorem y_convert {E : Env} {K : TS → St → Prop} {n : Nat} {rest : List MO} {b : St} {ts : TS} {S : St} (d : Option Nat) (s t : TypeId) (x : Operand) : preM E K (n + 1) (⟨none, d, .convert s t x⟩ :: rest) [] b ts S = sq (fun v S' => preM E K n rest [] b (setT ts d v) S') ⟨⟩ (astepO E.T b ts (.convert s t x)) S := by
 simp only [preM, guardM, QOp, List.headD_nil, List.tail_nil, Bool.false_eq_true, if_false, isW, sq]
 cases astepO E.T b ts (.convert s t x) <;> rfl
@[go_sem] theorem z_convert {E : Env} {K : TS → St → Prop} {n : Nat} {rest : List MO} {hs : List Bool} {b : St} {ts : TS} {S : St} (d : Option Nat) (s t : TypeId) (x : Operand) : preM E K (n + 1) (⟨none, d, .convert s t x⟩ :: rest) (false :: hs) b ts S = sq (fun v S' => preM E K n rest hs b (setT ts d v) S') ⟨⟩ (astepO E.T b ts (.convert s t x)) S := by
 simp only [preM, guardM, QOp, List.headD_cons, List.tail_cons, Bool.false_eq_true, if_false, isW, sq]
 cases astepO E.T b ts (.convert s t x) <;> rfl
@[go_sem] theorem y_makeInterface {E : Env} {K : TS → St → Prop} {n : Nat} {rest : List MO} {b : St} {ts : TS} {S : St} (d : Option Nat) (t : TypeId) (x : Operand) : preM E K (n + 1) (⟨none, d, .makeInterface t x⟩ :: rest) [] b ts S = sq (fun v S' => preM E K n rest [] b (setT ts d v) S') ⟨⟩ (astepO E.T b ts (.makeInterface t x)) S := by
 simp only [preM, guardM, QOp, List.headD_nil, List.tail_nil, Bool.false_eq_true, if_false, isW, sq]
 cases astepO E.T b ts (.makeInterface t x) <;> rfl
@[go_sem] theorem z_makeInterface {E : Env} {K : TS → St → Prop} {n : Nat} {rest : List MO} {hs : List Bool} {b : St} {ts : TS} {S : St} (d : Option Nat) (t : TypeId) (x : Operand) : preM E K (n + 1) (⟨none, d, .makeInterface t x⟩ :: rest) (false :: hs) b ts S = sq (fun v S' => preM E K n rest hs b (setT ts d v) S') ⟨⟩ (astepO E.T b ts (.makeInterface t x)) S := by
 simp only [preM, guardM, QOp, List.headD_cons, List.tail_cons, Bool.false_eq_true, if_false, isW, sq]
 cases astepO E.T b ts (.makeInterface t x) <;> rfl
@[go_sem] theorem y_makeFunc {E : Env} {K : TS → St → Prop} {n : Nat} {rest : List MO} {b : St} {ts : TS} {S : St} (d : Option Nat) (fn : Fn) (f c : Array Operand) : preM E K (n + 1) (⟨none, d, .makeFunc fn f c⟩ :: rest) [] b ts S = sq (fun v S' => preM E K n rest [] b (setT ts d v) S') ⟨⟩ (astepO E.T b ts (.makeFunc fn f c)) S := by
 simp only [preM, guardM, QOp, List.headD_nil, List.tail_nil, Bool.false_eq_true, if_false, isW, sq]
 cases astepO E.T b ts (.makeFunc fn f c) <;> rfl
@[go_sem] theorem z_makeFunc {E : Env} {K : TS → St → Prop} {n : Nat} {rest : List MO} {hs : List Bool} {b : St} {ts : TS} {S : St} (d : Option Nat) (fn : Fn) (f c : Array Operand) : preM E K (n + 1) (⟨none, d, .makeFunc fn f c⟩ :: rest) (false :: hs) b ts S = sq (fun v S' => preM E K n rest hs b (setT ts d v) S') ⟨⟩ (astepO E.T b ts (.makeFunc fn f c)) S := by
 simp only [preM, guardM, QOp, List.headD_cons, List.tail_cons, Bool.false_eq_true, if_false, isW, sq]
 cases astepO E.T b ts (.makeFunc fn f c) <;> rfl
@[go_sem] theorem y_makeMap {E : Env} {K : TS → St → Prop} {n : Nat} {rest : List MO} {b : St} {ts : TS} {S : St} (d : Option Nat) (t : TypeId) : preM E K (n + 1) (⟨none, d, .makeMap t none⟩ :: rest) [] b ts S = sq (fun v S' => preM E K n rest [] b (setT ts d v) S') ⟨⟩ (astepO E.T b ts (.makeMap t none)) S := by
 simp only [preM, guardM, QOp, List.headD_nil, List.tail_nil, Bool.false_eq_true, if_false, isW, sq]
 cases astepO E.T b ts (.makeMap t none) <;> rfl
@[go_sem] theorem z_makeMap {E : Env} {K : TS → St → Prop} {n : Nat} {rest : List MO} {hs : List Bool} {b : St} {ts : TS} {S : St} (d : Option Nat) (t : TypeId) : preM E K (n + 1) (⟨none, d, .makeMap t none⟩ :: rest) (false :: hs) b ts S = sq (fun v S' => preM E K n rest hs b (setT ts d v) S') ⟨⟩ (astepO E.T b ts (.makeMap t none)) S := by
 simp only [preM, guardM, QOp, List.headD_cons, List.tail_cons, Bool.false_eq_true, if_false, isW, sq]
 cases astepO E.T b ts (.makeMap t none) <;> rfl
@[go_sem] theorem y_makeSlice {E : Env} {K : TS → St → Prop} {n : Nat} {rest : List MO} {b : St} {ts : TS} {S : St} (d : Option Nat) (t : TypeId) (l c : Operand) : preM E K (n + 1) (⟨none, d, .makeSlice t l c⟩ :: rest) [] b ts S = sq (fun v S' => preM E K n rest [] b (setT ts d v) S') ⟨⟩ (astepO E.T b ts (.makeSlice t l c)) S := by
 simp only [preM, guardM, QOp, List.headD_nil, List.tail_nil, Bool.false_eq_true, if_false, isW, sq]
 cases astepO E.T b ts (.makeSlice t l c) <;> rfl
@[go_sem] theorem z_makeSlice {E : Env} {K : TS → St → Prop} {n : Nat} {rest : List MO} {hs : List Bool} {b : St} {ts : TS} {S : St} (d : Option Nat) (t : TypeId) (l c : Operand) : preM E K (n + 1) (⟨none, d, .makeSlice t l c⟩ :: rest) (false :: hs) b ts S = sq (fun v S' => preM E K n rest hs b (setT ts d v) S') ⟨⟩ (astepO E.T b ts (.makeSlice t l c)) S := by
 simp only [preM, guardM, QOp, List.headD_cons, List.tail_cons, Bool.false_eq_true, if_false, isW, sq]
 cases astepO E.T b ts (.makeSlice t l c) <;> rfl
@[go_sem] theorem y_slice {E : Env} {K : TS → St → Prop} {n : Nat} {rest : List MO} {b : St} {ts : TS} {S : St} (d : Option Nat) (t : TypeId) (x : Operand) (lo hi mx : Option Operand) : preM E K (n + 1) (⟨none, d, .slice t x lo hi mx⟩ :: rest) [] b ts S = sq (fun v S' => preM E K n rest [] b (setT ts d v) S') ⟨⟩ (astepO E.T b ts (.slice t x lo hi mx)) S := by
 simp only [preM, guardM, QOp, List.headD_nil, List.tail_nil, Bool.false_eq_true, if_false, isW, sq]
 cases astepO E.T b ts (.slice t x lo hi mx) <;> rfl
@[go_sem] theorem z_slice {E : Env} {K : TS → St → Prop} {n : Nat} {rest : List MO} {hs : List Bool} {b : St} {ts : TS} {S : St} (d : Option Nat) (t : TypeId) (x : Operand) (lo hi mx : Option Operand) : preM E K (n + 1) (⟨none, d, .slice t x lo hi mx⟩ :: rest) (false :: hs) b ts S = sq (fun v S' => preM E K n rest hs b (setT ts d v) S') ⟨⟩ (astepO E.T b ts (.slice t x lo hi mx)) S := by
 simp only [preM, guardM, QOp, List.headD_cons, List.tail_cons, Bool.false_eq_true, if_false, isW, sq]
 cases astepO E.T b ts (.slice t x lo hi mx) <;> rfl
@[go_sem] theorem y_fieldAddr {E : Env} {K : TS → St → Prop} {n : Nat} {rest : List MO} {b : St} {ts : TS} {S : St} (d : Option Nat) (s : TypeId) (x : Operand) (f : Nat) : preM E K (n + 1) (⟨none, d, .fieldAddr s x f⟩ :: rest) [] b ts S = sq (fun v S' => preM E K n rest [] b (setT ts d v) S') ⟨⟩ (astepO E.T b ts (.fieldAddr s x f)) S := by
 simp only [preM, guardM, QOp, List.headD_nil, List.tail_nil, Bool.false_eq_true, if_false, isW, sq]
 cases astepO E.T b ts (.fieldAddr s x f) <;> rfl
@[go_sem] theorem z_fieldAddr {E : Env} {K : TS → St → Prop} {n : Nat} {rest : List MO} {hs : List Bool} {b : St} {ts : TS} {S : St} (d : Option Nat) (s : TypeId) (x : Operand) (f : Nat) : preM E K (n + 1) (⟨none, d, .fieldAddr s x f⟩ :: rest) (false :: hs) b ts S = sq (fun v S' => preM E K n rest hs b (setT ts d v) S') ⟨⟩ (astepO E.T b ts (.fieldAddr s x f)) S := by
 simp only [preM, guardM, QOp, List.headD_cons, List.tail_cons, Bool.false_eq_true, if_false, isW, sq]
 cases astepO E.T b ts (.fieldAddr s x f) <;> rfl
@[go_sem] theorem y_field {E : Env} {K : TS → St → Prop} {n : Nat} {rest : List MO} {b : St} {ts : TS} {S : St} (d : Option Nat) (t : TypeId) (x : Operand) (f : Nat) : preM E K (n + 1) (⟨none, d, .field t x f⟩ :: rest) [] b ts S = sq (fun v S' => preM E K n rest [] b (setT ts d v) S') ⟨⟩ (astepO E.T b ts (.field t x f)) S := by
 simp only [preM, guardM, QOp, List.headD_nil, List.tail_nil, Bool.false_eq_true, if_false, isW, sq]
 cases astepO E.T b ts (.field t x f) <;> rfl
@[go_sem] theorem z_field {E : Env} {K : TS → St → Prop} {n : Nat} {rest : List MO} {hs : List Bool} {b : St} {ts : TS} {S : St} (d : Option Nat) (t : TypeId) (x : Operand) (f : Nat) : preM E K (n + 1) (⟨none, d, .field t x f⟩ :: rest) (false :: hs) b ts S = sq (fun v S' => preM E K n rest hs b (setT ts d v) S') ⟨⟩ (astepO E.T b ts (.field t x f)) S := by
 simp only [preM, guardM, QOp, List.headD_cons, List.tail_cons, Bool.false_eq_true, if_false, isW, sq]
 cases astepO E.T b ts (.field t x f) <;> rfl
@[go_sem] theorem y_indexAddr {E : Env} {K : TS → St → Prop} {n : Nat} {rest : List MO} {b : St} {ts : TS} {S : St} (d : Option Nat) (t : TypeId) (x i : Operand) : preM E K (n + 1) (⟨none, d, .indexAddr t x i⟩ :: rest) [] b ts S = sq (fun v S' => preM E K n rest [] b (setT ts d v) S') ⟨⟩ (astepO E.T b ts (.indexAddr t x i)) S := by
 simp only [preM, guardM, QOp, List.headD_nil, List.tail_nil, Bool.false_eq_true, if_false, isW, sq]
 cases astepO E.T b ts (.indexAddr t x i) <;> rfl
@[go_sem] theorem z_indexAddr {E : Env} {K : TS → St → Prop} {n : Nat} {rest : List MO} {hs : List Bool} {b : St} {ts : TS} {S : St} (d : Option Nat) (t : TypeId) (x i : Operand) : preM E K (n + 1) (⟨none, d, .indexAddr t x i⟩ :: rest) (false :: hs) b ts S = sq (fun v S' => preM E K n rest hs b (setT ts d v) S') ⟨⟩ (astepO E.T b ts (.indexAddr t x i)) S := by
 simp only [preM, guardM, QOp, List.headD_cons, List.tail_cons, Bool.false_eq_true, if_false, isW, sq]
 cases astepO E.T b ts (.indexAddr t x i) <;> rfl
@[go_sem] theorem y_index {E : Env} {K : TS → St → Prop} {n : Nat} {rest : List MO} {b : St} {ts : TS} {S : St} (d : Option Nat) (t : TypeId) (x i : Operand) : preM E K (n + 1) (⟨none, d, .index t x i⟩ :: rest) [] b ts S = sq (fun v S' => preM E K n rest [] b (setT ts d v) S') ⟨⟩ (astepO E.T b ts (.index t x i)) S := by
 simp only [preM, guardM, QOp, List.headD_nil, List.tail_nil, Bool.false_eq_true, if_false, isW, sq]
 cases astepO E.T b ts (.index t x i) <;> rfl
@[go_sem] theorem z_index {E : Env} {K : TS → St → Prop} {n : Nat} {rest : List MO} {hs : List Bool} {b : St} {ts : TS} {S : St} (d : Option Nat) (t : TypeId) (x i : Operand) : preM E K (n + 1) (⟨none, d, .index t x i⟩ :: rest) (false :: hs) b ts S = sq (fun v S' => preM E K n rest hs b (setT ts d v) S') ⟨⟩ (astepO E.T b ts (.index t x i)) S := by
 simp only [preM, guardM, QOp, List.headD_cons, List.tail_cons, Bool.false_eq_true, if_false, isW, sq]
 cases astepO E.T b ts (.index t x i) <;> rfl
@[go_sem] theorem y_lookup {E : Env} {K : TS → St → Prop} {n : Nat} {rest : List MO} {b : St} {ts : TS} {S : St} (d : Option Nat) (t : TypeId) (x i : Operand) (ok : Bool) : preM E K (n + 1) (⟨none, d, .lookup t x i ok⟩ :: rest) [] b ts S = sq (fun v S' => preM E K n rest [] b (setT ts d v) S') ⟨⟩ (astepO E.T b ts (.lookup t x i ok)) S := by
 simp only [preM, guardM, QOp, List.headD_nil, List.tail_nil, Bool.false_eq_true, if_false, isW, sq]
 cases astepO E.T b ts (.lookup t x i ok) <;> rfl
@[go_sem] theorem z_lookup {E : Env} {K : TS → St → Prop} {n : Nat} {rest : List MO} {hs : List Bool} {b : St} {ts : TS} {S : St} (d : Option Nat) (t : TypeId) (x i : Operand) (ok : Bool) : preM E K (n + 1) (⟨none, d, .lookup t x i ok⟩ :: rest) (false :: hs) b ts S = sq (fun v S' => preM E K n rest hs b (setT ts d v) S') ⟨⟩ (astepO E.T b ts (.lookup t x i ok)) S := by
 simp only [preM, guardM, QOp, List.headD_cons, List.tail_cons, Bool.false_eq_true, if_false, isW, sq]
 cases astepO E.T b ts (.lookup t x i ok) <;> rfl
@[go_sem] theorem y_mapUpdate {E : Env} {K : TS → St → Prop} {n : Nat} {rest : List MO} {b : St} {ts : TS} {S : St} (d : Option Nat) (t : TypeId) (m k v : Operand) : preM E K (n + 1) (⟨none, d, .mapUpdate t m k v⟩ :: rest) [] b ts S = sr (fun v S' => preM E K n rest [] S' (setT ts d v) S') ⟨⟩ (astepO E.T S ts (.mapUpdate t m k v)) S := by
 simp only [preM, guardM, QOp, List.headD_nil, List.tail_nil, Bool.false_eq_true, if_false, isW, if_true, sr]
 cases astepO E.T S ts (.mapUpdate t m k v) <;> rfl
@[go_sem] theorem z_mapUpdate {E : Env} {K : TS → St → Prop} {n : Nat} {rest : List MO} {hs : List Bool} {b : St} {ts : TS} {S : St} (d : Option Nat) (t : TypeId) (m k v : Operand) : preM E K (n + 1) (⟨none, d, .mapUpdate t m k v⟩ :: rest) (false :: hs) b ts S = sr (fun v S' => preM E K n rest hs S' (setT ts d v) S') ⟨⟩ (astepO E.T S ts (.mapUpdate t m k v)) S := by
 simp only [preM, guardM, QOp, List.headD_cons, List.tail_cons, Bool.false_eq_true, if_false, isW, if_true, sr]
 cases astepO E.T S ts (.mapUpdate t m k v) <;> rfl
@[go_sem] theorem y_range {E : Env} {K : TS → St → Prop} {n : Nat} {rest : List MO} {b : St} {ts : TS} {S : St} (d : Option Nat) (t : TypeId) (x : Operand) : preM E K (n + 1) (⟨none, d, .range t x⟩ :: rest) [] b ts S = sq (fun v S' => preM E K n rest [] b (setT ts d v) S') ⟨⟩ (astepO E.T b ts (.range t x)) S := by
 simp only [preM, guardM, QOp, List.headD_nil, List.tail_nil, Bool.false_eq_true, if_false, isW, sq]
 cases astepO E.T b ts (.range t x) <;> rfl
@[go_sem] theorem z_range {E : Env} {K : TS → St → Prop} {n : Nat} {rest : List MO} {hs : List Bool} {b : St} {ts : TS} {S : St} (d : Option Nat) (t : TypeId) (x : Operand) : preM E K (n + 1) (⟨none, d, .range t x⟩ :: rest) (false :: hs) b ts S = sq (fun v S' => preM E K n rest hs b (setT ts d v) S') ⟨⟩ (astepO E.T b ts (.range t x)) S := by
 simp only [preM, guardM, QOp, List.headD_cons, List.tail_cons, Bool.false_eq_true, if_false, isW, sq]
 cases astepO E.T b ts (.range t x) <;> rfl
@[go_sem] theorem y_next {E : Env} {K : TS → St → Prop} {n : Nat} {rest : List MO} {b : St} {ts : TS} {S : St} (d : Option Nat) (it : Operand) : preM E K (n + 1) (⟨none, d, .next it true⟩ :: rest) [] b ts S = sr (fun v S' => preM E K n rest [] S' (setT ts d v) S') ⟨⟩ (astepO E.T S ts (.next it true)) S := by
 simp only [preM, guardM, QOp, List.headD_nil, List.tail_nil, Bool.false_eq_true, if_false, isW, if_true, sr]
 cases astepO E.T S ts (.next it true) <;> rfl
@[go_sem] theorem z_next {E : Env} {K : TS → St → Prop} {n : Nat} {rest : List MO} {hs : List Bool} {b : St} {ts : TS} {S : St} (d : Option Nat) (it : Operand) : preM E K (n + 1) (⟨none, d, .next it true⟩ :: rest) (false :: hs) b ts S = sr (fun v S' => preM E K n rest hs S' (setT ts d v) S') ⟨⟩ (astepO E.T S ts (.next it true)) S := by
 simp only [preM, guardM, QOp, List.headD_cons, List.tail_cons, Bool.false_eq_true, if_false, isW, if_true, sr]
 cases astepO E.T S ts (.next it true) <;> rfl
@[go_sem] theorem y_typeAssert {E : Env} {K : TS → St → Prop} {n : Nat} {rest : List MO} {b : St} {ts : TS} {S : St} (d : Option Nat) (x : Operand) (t' t : TypeId) (ok : Bool) : preM E K (n + 1) (⟨none, d, .typeAssert x t' t ok⟩ :: rest) [] b ts S = sq (fun v S' => preM E K n rest [] b (setT ts d v) S') ⟨⟩ (astepO E.T b ts (.typeAssert x t' t ok)) S := by
 simp only [preM, guardM, QOp, List.headD_nil, List.tail_nil, Bool.false_eq_true, if_false, isW, sq]
 cases astepO E.T b ts (.typeAssert x t' t ok) <;> rfl
@[go_sem] theorem z_typeAssert {E : Env} {K : TS → St → Prop} {n : Nat} {rest : List MO} {hs : List Bool} {b : St} {ts : TS} {S : St} (d : Option Nat) (x : Operand) (t' t : TypeId) (ok : Bool) : preM E K (n + 1) (⟨none, d, .typeAssert x t' t ok⟩ :: rest) (false :: hs) b ts S = sq (fun v S' => preM E K n rest hs b (setT ts d v) S') ⟨⟩ (astepO E.T b ts (.typeAssert x t' t ok)) S := by
 simp only [preM, guardM, QOp, List.headD_cons, List.tail_cons, Bool.false_eq_true, if_false, isW, sq]
 cases astepO E.T b ts (.typeAssert x t' t ok) <;> rfl
@[go_sem] theorem y_extract {E : Env} {K : TS → St → Prop} {n : Nat} {rest : List MO} {b : St} {ts : TS} {S : St} (d : Option Nat) (x : Operand) (i : Nat) : preM E K (n + 1) (⟨none, d, .extract x i⟩ :: rest) [] b ts S = sq (fun v S' => preM E K n rest [] b (setT ts d v) S') ⟨⟩ (astepO E.T b ts (.extract x i)) S := by
 simp only [preM, guardM, QOp, List.headD_nil, List.tail_nil, Bool.false_eq_true, if_false, isW, sq]
 cases astepO E.T b ts (.extract x i) <;> rfl
@[go_sem] theorem z_extract {E : Env} {K : TS → St → Prop} {n : Nat} {rest : List MO} {hs : List Bool} {b : St} {ts : TS} {S : St} (d : Option Nat) (x : Operand) (i : Nat) : preM E K (n + 1) (⟨none, d, .extract x i⟩ :: rest) (false :: hs) b ts S = sq (fun v S' => preM E K n rest hs b (setT ts d v) S') ⟨⟩ (astepO E.T b ts (.extract x i)) S := by
 simp only [preM, guardM, QOp, List.headD_cons, List.tail_cons, Bool.false_eq_true, if_false, isW, sq]
 cases astepO E.T b ts (.extract x i) <;> rfl
@[go_sem] theorem y_builtin {E : Env} {K : TS → St → Prop} {n : Nat} {rest : List MO} {b : St} {ts : TS} {S : St} (d : Option Nat) (bi : Builtin) (args : Array Operand) (tys : Array TypeId) (h : isW (.call { callee := .builtin bi, args := args, argTypes := tys }) = false) :
  preM E K (n + 1) (⟨none, d, .call { callee := .builtin bi, args := args, argTypes := tys }⟩ :: rest) [] b ts S = sq (fun v S' => preM E K n rest [] b (setT ts d v) S') ⟨⟩ (astepO E.T b ts (.call { callee := .builtin bi, args := args, argTypes := tys })) S := by
 simp only [preM, guardM, QOp, List.headD_nil, List.tail_nil, Bool.false_eq_true, if_false, h, sq]
 cases h2 : astepO E.T b ts (.call { callee := .builtin bi, args := args, argTypes := tys }) with
 | some r => rfl
 | none => simp [callee]
@[go_sem] theorem y_builtin_z {E : Env} {K : TS → St → Prop} {n : Nat} {rest : List MO} {hs : List Bool} {b : St} {ts : TS} {S : St} (d : Option Nat) (bi : Builtin) (args : Array Operand) (tys : Array TypeId) (h : isW (.call { callee := .builtin bi, args := args, argTypes := tys }) = false) :
  preM E K (n + 1) (⟨none, d, .call { callee := .builtin bi, args := args, argTypes := tys }⟩ :: rest) (false :: hs) b ts S = sq (fun v S' => preM E K n rest hs b (setT ts d v) S') ⟨⟩ (astepO E.T b ts (.call { callee := .builtin bi, args := args, argTypes := tys })) S := by
 simp only [preM, guardM, QOp, List.headD_cons, List.tail_cons, Bool.false_eq_true, if_false, h, sq]
 cases h2 : astepO E.T b ts (.call { callee := .builtin bi, args := args, argTypes := tys }) with
 | some r => rfl
 | none => simp [callee]
@[go_sem] theorem isW_len (args : Array Operand) (tys : Array TypeId) : isW (.call { callee := .builtin .len, args := args, argTypes := tys }) = false := rfl
@[go_sem] theorem isW_app (args : Array Operand) (tys : Array TypeId) : isW (.call { callee := .builtin .append, args := args, argTypes := tys }) = false := rfl
@[go_sem] theorem isW_min (args : Array Operand) (tys : Array TypeId) : isW (.call { callee := .builtin .min, args := args, argTypes := tys }) = false := rfl
@[go_sem] theorem isW_max (args : Array Operand) (tys : Array TypeId) : isW (.call { callee := .builtin .max, args := args, argTypes := tys }) = false := rfl
@[go_sem] theorem y_callv {E : Env} {K : TS → St → Prop} {n : Nat} {rest : List MO} {b : St} {ts : TS} {S : St} (d : Option Nat) (f : Operand) (args : Array Operand) (tys : Array TypeId) :
  preM E K (n + 1) (⟨none, d, .call { callee := .value f, args := args, argTypes := tys }⟩ :: rest) [] b ts S = sqc E (fun v S' => preM E K n rest [] b (setT ts d v) S') ⟨⟩ (callee E ts { callee := .value f, args := args, argTypes := tys }) S := by
 simp only [preM, guardM, QOp, List.headD_nil, List.tail_nil, Bool.false_eq_true, if_false, isW, astepO, sqc]
 cases callee E ts { callee := .value f, args := args, argTypes := tys } <;> rfl
@[go_sem] theorem y_callv_z {E : Env} {K : TS → St → Prop} {n : Nat} {rest : List MO} {hs : List Bool} {b : St} {ts : TS} {S : St} (d : Option Nat) (f : Operand) (args : Array Operand) (tys : Array TypeId) :
  preM E K (n + 1) (⟨none, d, .call { callee := .value f, args := args, argTypes := tys }⟩ :: rest) (false :: hs) b ts S = sqc E (fun v S' => preM E K n rest hs b (setT ts d v) S') ⟨⟩ (callee E ts { callee := .value f, args := args, argTypes := tys }) S := by
 simp only [preM, guardM, QOp, List.headD_cons, List.tail_cons, Bool.false_eq_true, if_false, isW, astepO, sqc]
 cases callee E ts { callee := .value f, args := args, argTypes := tys } <;> rfl
attribute [go_sem] List.drop_succ_cons List.drop_zero List.drop_nil
section
variable {E : Env} {f : FuncId} {args args' : List AV} {S : St} {K Kp : AV → St → Prop} {h1 : Hold K} {h2 : Hold Kp}
theorem call_ac {R : AEnd → St → Prop} (hf : Callable E.P f) (h : AC E.P f args S R) (k : ∀ v S', R (.ret v) S' → K v S') (kp : ∀ v S', R (.panic v) S' → Kp v S') : sc E K Kp h1 h2 (some (f, args)) S :=
 ⟨hf, args, R, SubL.refl _, h, k, kp⟩
theorem call_pc {r : Res} (hf : Callable E.P f) (h : PC E.P f args' r) (hs : SubL args args') (k : K (r.app S).1 (r.app S).2) : sc E K Kp h1 h2 (some (f, args)) S :=
 ⟨hf, args', _, hs, h.ac S, fun v S' e => by
  obtain ⟨e1, e2⟩ := e
  cases e1; subst e2; exact k, fun v S' e => by cases e.1⟩
theorem call_pure {v : AV} (hf : Callable E.P f) (h : PC E.P f args' (.pure v)) (hs : SubL args args') (k : K v S) : sc E K Kp h1 h2 (some (f, args)) S := call_pc hf h hs k
theorem call_tok {mk : Nat → AV} (hf : Callable E.P f) (h : PC E.P f args' (.tok none mk)) (hs : SubL args args') (k : K (mk S.nt) { S with toks := S.nt :: S.toks, nt := S.nt + 1 }) : sc E K Kp h1 h2 (some (f, args)) S := call_pc hf h hs k
theorem call_alloc {B : Blk} {mk : Nat → AV} (hf : Callable E.P f) (h : PC E.P f args' (.alloc B mk)) (hs : SubL args args') (k : K (mk S.heap.length) { S with heap := S.heap ++ [some B] }) : sc E K Kp h1 h2 (some (f, args)) S := call_pc hf h hs k
theorem call_lend {v : AV} (hf : Callable E.P f) (h : PC E.P f args' (.pure v)) (hl : LntL S.heap args args') (hv : v.flat = true) (k : K v S) : sc E K Kp h1 h2 (some (f, args)) S :=
 call_ac hf (h.lend hl hv) (fun v' S' e => by
  obtain ⟨e1, e2⟩ := e
  cases e1; subst e2; exact k) (fun v S' e => by cases e.1)
theorem callq {r : Res} (hf : Callable E.P f) (h : PC E.P f args' r) (hs : SubL args args') (h3 : r.quiet = true) (h4 : r.noKill = true) (k : K (r.app S).1 (r.app S).2) : sqc E K h1 (some (f, args)) S :=
 ⟨hf, args', r, hs, h, h3, h4, k⟩
theorem callq_pure {v : AV} (hf : Callable E.P f) (h : PC E.P f args' (.pure v)) (hs : SubL args args') (k : K v S) : sqc E K h1 (some (f, args)) S := callq hf h hs rfl rfl k
theorem callq_tok {mk : Nat → AV} (hf : Callable E.P f) (h : PC E.P f args' (.tok none mk)) (hs : SubL args args') (k : K (mk S.nt) { S with toks := S.nt :: S.toks, nt := S.nt + 1 }) : sqc E K h1 (some (f, args)) S := callq hf h hs rfl rfl k
end
def fnv (o : Option AV) (vs : Option (List AV)) : Option (FuncId × List AV) :=
 match o, vs with
 | some (.func (.func g) first cap), some vs => some (g, first ++ vs ++ cap)
 | _, _ => none
@[go_sem] theorem fnv_some (g : FuncId) (first cap vs : List AV) : fnv (some (.func (.func g) first cap)) (some vs) = some (g, first ++ vs ++ cap) := rfl
@[go_sem] theorem fnv_yield (l : Nat) (first cap vs : List AV) : fnv (some (.func (.yield l) first cap)) (some vs) = none := rfl
@[go_sem] theorem callee_tmp {E : Env} {ts : TS} (t : Nat) (args : Array Operand) (tys : Array TypeId) : callee E ts { callee := .value (.tmp t), args := args, argTypes := tys } = fnv (ts.get t) (evs ts args.toList) := by
 simp only [callee, aeval, fnv]
 cases ts.get t with
 | none => rfl
 | some v => cases v with
  | func fn first cap => cases fn <;> cases evs ts args.toList <;> rfl
  | _ => rfl
def ifv (E : Env) (name : String) (o : Option AV) (vs : Option (List AV)) : Option (FuncId × List AV) :=
 match o, vs with
 | some (.iface t v), some vs => (E.M t name).map fun g => (g, v :: vs)
 | _, _ => none
@[go_sem] theorem ifv_some (E : Env) (name : String) (t : TypeId) (v : AV) (vs : List AV) : ifv E name (some (.iface t v)) (some vs) = (E.M t name).map fun g => (g, v :: vs) := rfl
@[go_sem] theorem x_invoke {E : Env} {Q : AQ} {rest : List MO} {ts : TS} {S : St} (d : Option Nat) (r : Operand) (name : String) (args : Array Operand) (tys : Array TypeId) :
  opsM E Q (⟨none, d, .call { callee := .invoke r name, args := args, argTypes := tys }⟩ :: rest) ts S = sc E (fun v S' => opsM E Q rest (setT ts d v) S') (fun v S' => Q (.panic v) ts S') ⟨⟩ ⟨⟩ (ifv E name (aeval ts r) (evs ts args.toList)) S := by
 simp only [opsM, guardM, opM, sc, astepO, callee, ifv]
 cases aeval ts r with
 | none => rfl
 | some v => cases v with
  | iface t v => cases evs ts args.toList with
   | none => rfl
   | some vs => cases E.M t name <;> rfl
  | _ => rfl
theorem wc_forP {E : Env} {c : MC} {Q : AQ} {ts : TS} {S : St} (N : Nat) (P : Nat → Prop) (f : Nat → TS) (g : Nat → St) (hP : P 0) (h0 : f 0 = ts) (h1 : g 0 = S)
  (h : ∀ k, k ≤ N → P k → ∀ I : TS → St → Prop, (k < N → P (k + 1) → I (f (k + 1)) (g (k + 1))) → WC E c (thenQ I Q) (f k) (g k)) : WC E (.loop c) Q ts S := by
 refine wc_loop (fun n ts' S' => ∃ k, k ≤ N ∧ P k ∧ n = N - k ∧ ts' = f k ∧ S' = g k) N ⟨0, Nat.zero_le _, hP, rfl, h0.symm, h1.symm⟩ ?_
 rintro n ts' S' ⟨k, hk, hp, rfl, rfl, rfl⟩
 exact h k hk hp _ fun hlt hp' => again_here (N - (k + 1)) (by omega) ⟨k + 1, hlt, hp', rfl, rfl, rfl⟩
end Go.Av
end

/- Part 9 of the proof. -/
import Derived.Test.YtclmbbofpaecaaaGreatDoorVn8
set_option linter.all false
set_option linter.unusedVariables false
set_option linter.unusedSimpArgs false
set_option linter.unusedSectionVars false
open Bool renaming false_eq_true → zS
open List renaming set_cons_succ → zH, length_cons → zW, length_nil → qE, append_assoc → qN, cons_append → qX, nil_append → yB
open Nat renaming zero_le → qG
open Option renaming map_some → zX, bind_some → qT
section
namespace Go.Av
open Go
structure Hold {α:Sort _} (K:α):Type where
def sr (K:AV→St→Prop) (h:Hold K) (o:Option Res) (S:St):Prop:=
 match o with
 | some r=>r.ok S∧K (r.app S).1 (r.app S).2
 | none=>False
@[go_sem] theorem sr_pure (v:AV) (S:St) (K:AV→St→Prop) (h:Hold K):sr K h (some (.pure v)) S=K v S:=by simp [sr,Res.ok,Res.app]
@[go_sem] theorem sr_alloc (B:Blk) (mk:Nat→AV) (S:St) (K:AV→St→Prop) (h:Hold K):sr K h (some (.alloc B mk)) S=K (mk S.heap.length) { S with heap:=S.heap ++ [some B] }:=by simp [sr,Res.ok,Res.app]
@[go_sem] theorem sr_tok (mk:Nat→AV) (S:St) (K:AV→St→Prop) (h:Hold K):sr K h (some (.tok none mk)) S=K (mk S.nt) { S with toks:=S.nt :: S.toks,nt:=S.nt+1 }:=by simp [sr,Res.ok,Res.app,killTok]
@[go_sem] theorem zBu (k:Nat) (mk:Nat→AV) (S:St) (K:AV→St→Prop) (h:Hold K):sr K h (some (.tok (some k) mk)) S=(k∈S.toks∧K (mk S.nt) { S with toks:=S.nt :: killTok S.toks (some k),nt:=S.nt+1 }):=by simp [sr,Res.ok,Res.app]
@[go_sem] theorem sr_write (i:Nat) (B:Blk) (v:AV) (S:St) (K:AV→St→Prop) (h:Hold K):sr K h (some (.write i B v)) S=K v (S.put i B):=by simp [sr,Res.ok,Res.app]
def sb (x y:Prop) (hx:Hold x) (hy:Hold y) (o:Option AV):Prop:=
 match o with
 | some (.bool b)=>if b=true then x else y
 | _=>False
@[go_sem] theorem sb_true (x y:Prop) (hx:Hold x) (hy:Hold y):sb x y hx hy (some (.bool true))=x:=by simp [sb]
@[go_sem] theorem sb_false (x y:Prop) (hx:Hold x) (hy:Hold y):sb x y hx hy (some (.bool false))=y:=by simp [sb]
theorem sb_dec {p:Prop} [Decidable p] {x y:Prop} {hx:Hold x} {hy:Hold y} (h:p→x) (h':¬ p→y):sb x y hx hy (some (.bool (decide p))):=by
 by_cases hp:p
 ·simp only [hp,decide_true,sb_true];exact h hp
 ·simp only [hp,decide_false,sb_false];exact h' hp
theorem sb_bool {b:Bool} {x y:Prop} {hx:Hold x} {hy:Hold y} (h:b=true→x) (h':b=false→y):sb x y hx hy (some (.bool b)):=by
 cases b
 ·rw [sb_false];exact h' rfl
 ·rw [sb_true];exact h rfl
def sg (x y:Prop) (hx:Hold x) (hy:Hold y) (b:Bool) (o:Option AV):Prop:=
 match o with
 | some (.bool c)=>if (c == b)=true then x else y
 | some (.tuple _)=>y
 | _=>False
@[go_sem] theorem sg_un (x y:Prop) (hx:Hold x) (hy:Hold y) (b:Bool):sg x y hx hy b (some .undef)=y:=rfl
@[go_sem] theorem sg_tt (x y:Prop) (hx:Hold x) (hy:Hold y):sg x y hx hy true (some (.bool true))=x:=by simp [sg]
@[go_sem] theorem sg_ft (x y:Prop) (hx:Hold x) (hy:Hold y):sg x y hx hy true (some (.bool false))=y:=by simp [sg]
@[go_sem] theorem sg_tf (x y:Prop) (hx:Hold x) (hy:Hold y):sg x y hx hy false (some (.bool true))=y:=by simp [sg]
@[go_sem] theorem sg_ff (x y:Prop) (hx:Hold x) (hy:Hold y):sg x y hx hy false (some (.bool false))=x:=by simp [sg]
def sc (E:Env) (K Kp:AV→St→Prop) (h:Hold K) (h':Hold Kp) (c:Option (FuncId × List AV)) (S:St):Prop:=
 match c with
 | some (f,args)=>WCall E f args S K Kp
 | none=>False
def sy (E:Env) (K:AV→St→Prop) (h:Hold K) (y:Option (Nat × List AV)) (S:St):Prop:=
 match y with
 | some (l,args)=>WYield E l args S K
 | none=>False
def scy (E:Env) (K Kp:AV→St→Prop) (h:Hold K) (h':Hold Kp) (c:Option (FuncId × List AV)) (y:Option (Nat × List AV)) (S:St):Prop:=
 match c with
 | some (f,args)=>WCall E f args S K Kp
 | none=>match y with
  | some (l,args)=>WYield E l args S K
  | none=>False
@[go_sem] theorem scy_some (E:Env) (K Kp:AV→St→Prop) (h:Hold K) (h':Hold Kp) (p:FuncId × List AV) (y:Option (Nat × List AV)) (S:St):scy E K Kp h h' (some p) y S=sc E K Kp h h' (some p) S:=rfl
@[go_sem] theorem scy_none (E:Env) (K Kp:AV→St→Prop) (h:Hold K) (h':Hold Kp) (y:Option (Nat × List AV)) (S:St):scy E K Kp h h' none y S=sy E K h y S:=rfl
def ynv (v:Option AV) (vs:Option (List AV)):Option (Nat × List AV):=
 match v,vs with
 | some (.func (.yield l) [] []),some vs=>some (l,vs)
 | _,_=>none
@[go_sem] theorem ynv_some (l:Nat) (vs:List AV):ynv (some (.func (.yield l) [] [])) (some vs)=some (l,vs):=rfl
@[go_sem] theorem sy_tmp (E:Env) (K:AV→St→Prop) (h:Hold K) (ts:TS) (t:Nat) (args:Array Operand) (tys:Array TypeId) (S:St):sy E K h (yieldee ts { callee:=.value (.tmp t),args:=args,argTypes:=tys }) S=sy E K h (ynv (ts.get t) (evs ts args.toList)) S:=rfl
@[congr] theorem opsM_congr {E:Env} {Q:AQ} {l:List MO} {ts ts':TS} {S S':St} (h:ts=ts') (h':S=S'):opsM E Q l ts S=opsM E Q l ts' S':=by rw [h,h']
@[congr] theorem preM_congr {E:Env} {K:TS→St→Prop} {n:Nat} {l:List MO} {hs:List Bool} {b b':St} {ts ts':TS} {S S':St} (h0:b=b') (h:ts=ts') (h':S=S'):preM E K n l hs b ts S=preM E K n l hs b' ts' S':=by rw [h0,h,h']
@[congr] theorem WC_congr {E:Env} {Q:AQ} {c:MC} {ts ts':TS} {S S':St} (h:ts=ts') (h':S=S'):WC E c Q ts S=WC E c Q ts' S':=by rw [h,h']
@[go_sem] theorem x_nil {E:Env} {Q:AQ} {ts:TS} {S:St}:opsM E Q [] ts S=Q .normal ts S:=rfl
@[go_sem] theorem x_guard {E:Env} {Q:AQ} {rest:List MO} {ts:TS} {S:St} (t:Nat) (b:Bool) (d:Option Nat) (o:Op) :
  opsM E Q (⟨some (t,b),d,o⟩ :: rest) ts S=sg (opsM E Q (⟨none,d,o⟩ :: rest) ts S) (opsM E Q rest (setT ts d .undef) S) ⟨⟩ ⟨⟩ b (ts.get t):=by
 simp only [opsM,guardM,sg]
 cases h:ts.get t with
 | none=>rfl
 | some v =>
  cases v with
  | bool c=>cases c <;> cases b <;> simp
  | _=>rfl
@[go_sem] theorem x_move {E:Env} {Q:AQ} {rest:List MO} {ts:TS} {S:St} (d:Option Nat) (x:Operand):opsM E Q (⟨none,d,.move x⟩ :: rest) ts S=sr (fun v S'=>opsM E Q rest (setT ts d v) S') ⟨⟩ (astepO E.T S ts (.move x)) S:=by
 simp only [opsM,guardM,opM,sr,contK]
 cases astepO E.T S ts (.move x) <;> rfl
@[go_sem] theorem x_assign {E:Env} {Q:AQ} {rest:List MO} {ts:TS} {S:St} (d:Option Nat) (x:Operand):opsM E Q (⟨none,d,.assign x⟩ :: rest) ts S=sr (fun v S'=>opsM E Q rest (setT ts d v) S') ⟨⟩ (astepO E.T S ts (.assign x)) S:=by
 simp only [opsM,guardM,opM,sr,contK]
 cases astepO E.T S ts (.assign x) <;> rfl
@[go_sem] theorem x_pick {E:Env} {Q:AQ} {rest:List MO} {ts:TS} {S:St} (d:Option Nat) (c x y:Operand):opsM E Q (⟨none,d,.pick c x y⟩ :: rest) ts S=sr (fun v S'=>opsM E Q rest (setT ts d v) S') ⟨⟩ (astepO E.T S ts (.pick c x y)) S:=by
 simp only [opsM,guardM,opM,sr,contK]
 cases astepO E.T S ts (.pick c x y) <;> rfl
@[go_sem] theorem x_alloc {E:Env} {Q:AQ} {rest:List MO} {ts:TS} {S:St} (d:Option Nat) (e:TypeId):opsM E Q (⟨none,d,.alloc e⟩ :: rest) ts S=sr (fun v S'=>opsM E Q rest (setT ts d v) S') ⟨⟩ (astepO E.T S ts (.alloc e)) S:=by
 simp only [opsM,guardM,opM,sr,contK]
 cases astepO E.T S ts (.alloc e) <;> rfl
@[go_sem] theorem x_box {E:Env} {Q:AQ} {rest:List MO} {ts:TS} {S:St} (d:Option Nat) (e:TypeId) (x:Operand):opsM E Q (⟨none,d,.box e x⟩ :: rest) ts S=sr (fun v S'=>opsM E Q rest (setT ts d v) S') ⟨⟩ (astepO E.T S ts (.box e x)) S:=by
 simp only [opsM,guardM,opM,sr,contK]
 cases astepO E.T S ts (.box e x) <;> rfl
@[go_sem] theorem x_build {E:Env} {Q:AQ} {rest:List MO} {ts:TS} {S:St} (d:Option Nat) (t:TypeId) (ps:Array (Nat × Operand)):opsM E Q (⟨none,d,.build t ps⟩ :: rest) ts S=sr (fun v S'=>opsM E Q rest (setT ts d v) S') ⟨⟩ (astepO E.T S ts (.build t ps)) S:=by
 simp only [opsM,guardM,opM,sr,contK]
 cases astepO E.T S ts (.build t ps) <;> rfl
@[go_sem] theorem x_buildSlice {E:Env} {Q:AQ} {rest:List MO} {ts:TS} {S:St} (d:Option Nat) (t:TypeId) (n:Nat) (ps:Array (Nat × Operand)):opsM E Q (⟨none,d,.buildSlice t n ps⟩ :: rest) ts S=sr (fun v S'=>opsM E Q rest (setT ts d v) S') ⟨⟩ (astepO E.T S ts (.buildSlice t n ps)) S:=by
 simp only [opsM,guardM,opM,sr,contK]
 cases astepO E.T S ts (.buildSlice t n ps) <;> rfl
@[go_sem] theorem x_load {E:Env} {Q:AQ} {rest:List MO} {ts:TS} {S:St} (d:Option Nat) (t:TypeId) (a:Operand):opsM E Q (⟨none,d,.load t a⟩ :: rest) ts S=sr (fun v S'=>opsM E Q rest (setT ts d v) S') ⟨⟩ (astepO E.T S ts (.load t a)) S:=by
 simp only [opsM,guardM,opM,sr,contK]
 cases astepO E.T S ts (.load t a) <;> rfl
@[go_sem] theorem x_store {E:Env} {Q:AQ} {rest:List MO} {ts:TS} {S:St} (d:Option Nat) (t:TypeId) (a v:Operand):opsM E Q (⟨none,d,.store t a v⟩ :: rest) ts S=sr (fun v S'=>opsM E Q rest (setT ts d v) S') ⟨⟩ (astepO E.T S ts (.store t a v)) S:=by
 simp only [opsM,guardM,opM,sr,contK]
 cases astepO E.T S ts (.store t a v) <;> rfl
@[go_sem] theorem x_binOp {E:Env} {Q:AQ} {rest:List MO} {ts:TS} {S:St} (d:Option Nat) (op:BinOp) (t:TypeId) (x y:Operand) (t':TypeId):opsM E Q (⟨none,d,.binOp op t x y t'⟩ :: rest) ts S=sr (fun v S'=>opsM E Q rest (setT ts d v) S') ⟨⟩ (astepO E.T S ts (.binOp op t x y t')) S:=by
 simp only [opsM,guardM,opM,sr,contK]
 cases astepO E.T S ts (.binOp op t x y t') <;> rfl
@[go_sem] theorem x_unOp {E:Env} {Q:AQ} {rest:List MO} {ts:TS} {S:St} (d:Option Nat) (op:UnOp) (t:TypeId) (x:Operand):opsM E Q (⟨none,d,.unOp op t x⟩ :: rest) ts S=sr (fun v S'=>opsM E Q rest (setT ts d v) S') ⟨⟩ (astepO E.T S ts (.unOp op t x)) S:=by
 simp only [opsM,guardM,opM,sr,contK]
 cases astepO E.T S ts (.unOp op t x) <;> rfl
@[go_sem] theorem x_convert {E:Env} {Q:AQ} {rest:List MO} {ts:TS} {S:St} (d:Option Nat) (s t:TypeId) (x:Operand):opsM E Q (⟨none,d,.convert s t x⟩ :: rest) ts S=sr (fun v S'=>opsM E Q rest (setT ts d v) S') ⟨⟩ (astepO E.T S ts (.convert s t x)) S:=by
 simp only [opsM,guardM,opM,sr,contK]
 cases astepO E.T S ts (.convert s t x) <;> rfl
@[go_sem] theorem x_makeInterface {E:Env} {Q:AQ} {rest:List MO} {ts:TS} {S:St} (d:Option Nat) (t:TypeId) (x:Operand):opsM E Q (⟨none,d,.makeInterface t x⟩ :: rest) ts S=sr (fun v S'=>opsM E Q rest (setT ts d v) S') ⟨⟩ (astepO E.T S ts (.makeInterface t x)) S:=by
 simp only [opsM,guardM,opM,sr,contK]
 cases astepO E.T S ts (.makeInterface t x) <;> rfl
@[go_sem] theorem x_makeFunc {E:Env} {Q:AQ} {rest:List MO} {ts:TS} {S:St} (d:Option Nat) (fn:Fn) (f c:Array Operand):opsM E Q (⟨none,d,.makeFunc fn f c⟩ :: rest) ts S=sr (fun v S'=>opsM E Q rest (setT ts d v) S') ⟨⟩ (astepO E.T S ts (.makeFunc fn f c)) S:=by
 simp only [opsM,guardM,opM,sr,contK]
 cases astepO E.T S ts (.makeFunc fn f c) <;> rfl
@[go_sem] theorem x_makeMap {E:Env} {Q:AQ} {rest:List MO} {ts:TS} {S:St} (d:Option Nat) (t:TypeId):opsM E Q (⟨none,d,.makeMap t none⟩ :: rest) ts S=sr (fun v S'=>opsM E Q rest (setT ts d v) S') ⟨⟩ (astepO E.T S ts (.makeMap t none)) S:=by
 simp only [opsM,guardM,opM,sr,contK]
 cases astepO E.T S ts (.makeMap t none) <;> rfl
@[go_sem] theorem x_makeSlice {E:Env} {Q:AQ} {rest:List MO} {ts:TS} {S:St} (d:Option Nat) (t:TypeId) (l c:Operand):opsM E Q (⟨none,d,.makeSlice t l c⟩ :: rest) ts S=sr (fun v S'=>opsM E Q rest (setT ts d v) S') ⟨⟩ (astepO E.T S ts (.makeSlice t l c)) S:=by
 simp only [opsM,guardM,opM,sr,contK]
 cases astepO E.T S ts (.makeSlice t l c) <;> rfl
@[go_sem] theorem x_slice {E:Env} {Q:AQ} {rest:List MO} {ts:TS} {S:St} (d:Option Nat) (t:TypeId) (x:Operand) (lo hi mx:Option Operand):opsM E Q (⟨none,d,.slice t x lo hi mx⟩ :: rest) ts S=sr (fun v S'=>opsM E Q rest (setT ts d v) S') ⟨⟩ (astepO E.T S ts (.slice t x lo hi mx)) S:=by
 simp only [opsM,guardM,opM,sr,contK]
 cases astepO E.T S ts (.slice t x lo hi mx) <;> rfl
@[go_sem] theorem x_fieldAddr {E:Env} {Q:AQ} {rest:List MO} {ts:TS} {S:St} (d:Option Nat) (s:TypeId) (x:Operand) (f:Nat):opsM E Q (⟨none,d,.fieldAddr s x f⟩ :: rest) ts S=sr (fun v S'=>opsM E Q rest (setT ts d v) S') ⟨⟩ (astepO E.T S ts (.fieldAddr s x f)) S:=by
 simp only [opsM,guardM,opM,sr,contK]
 cases astepO E.T S ts (.fieldAddr s x f) <;> rfl
@[go_sem] theorem x_indexAddr {E:Env} {Q:AQ} {rest:List MO} {ts:TS} {S:St} (d:Option Nat) (t:TypeId) (x i:Operand):opsM E Q (⟨none,d,.indexAddr t x i⟩ :: rest) ts S=sr (fun v S'=>opsM E Q rest (setT ts d v) S') ⟨⟩ (astepO E.T S ts (.indexAddr t x i)) S:=by
 simp only [opsM,guardM,opM,sr,contK]
 cases astepO E.T S ts (.indexAddr t x i) <;> rfl
@[go_sem] theorem x_index {E:Env} {Q:AQ} {rest:List MO} {ts:TS} {S:St} (d:Option Nat) (t:TypeId) (x i:Operand):opsM E Q (⟨none,d,.index t x i⟩ :: rest) ts S=sr (fun v S'=>opsM E Q rest (setT ts d v) S') ⟨⟩ (astepO E.T S ts (.index t x i)) S:=by
 simp only [opsM,guardM,opM,sr,contK]
 cases astepO E.T S ts (.index t x i) <;> rfl
@[go_sem] theorem x_lookup {E:Env} {Q:AQ} {rest:List MO} {ts:TS} {S:St} (d:Option Nat) (t:TypeId) (x i:Operand) (ok:Bool):opsM E Q (⟨none,d,.lookup t x i ok⟩ :: rest) ts S=sr (fun v S'=>opsM E Q rest (setT ts d v) S') ⟨⟩ (astepO E.T S ts (.lookup t x i ok)) S:=by
 simp only [opsM,guardM,opM,sr,contK]
 cases astepO E.T S ts (.lookup t x i ok) <;> rfl
@[go_sem] theorem x_mapUpdate {E:Env} {Q:AQ} {rest:List MO} {ts:TS} {S:St} (d:Option Nat) (t:TypeId) (m k v:Operand):opsM E Q (⟨none,d,.mapUpdate t m k v⟩ :: rest) ts S=sr (fun v S'=>opsM E Q rest (setT ts d v) S') ⟨⟩ (astepO E.T S ts (.mapUpdate t m k v)) S:=by
 simp only [opsM,guardM,opM,sr,contK]
 cases astepO E.T S ts (.mapUpdate t m k v) <;> rfl
@[go_sem] theorem x_range {E:Env} {Q:AQ} {rest:List MO} {ts:TS} {S:St} (d:Option Nat) (t:TypeId) (x:Operand):opsM E Q (⟨none,d,.range t x⟩ :: rest) ts S=sr (fun v S'=>opsM E Q rest (setT ts d v) S') ⟨⟩ (astepO E.T S ts (.range t x)) S:=by
 simp only [opsM,guardM,opM,sr,contK]
 cases astepO E.T S ts (.range t x) <;> rfl
@[go_sem] theorem x_next {E:Env} {Q:AQ} {rest:List MO} {ts:TS} {S:St} (d:Option Nat) (it:Operand):opsM E Q (⟨none,d,.next it true⟩ :: rest) ts S=sr (fun v S'=>opsM E Q rest (setT ts d v) S') ⟨⟩ (astepO E.T S ts (.next it true)) S:=by
 simp only [opsM,guardM,opM,sr,contK]
 cases astepO E.T S ts (.next it true) <;> rfl
@[go_sem] theorem x_typeAssert {E:Env} {Q:AQ} {rest:List MO} {ts:TS} {S:St} (d:Option Nat) (x:Operand) (t' t:TypeId) (ok:Bool):opsM E Q (⟨none,d,.typeAssert x t' t ok⟩ :: rest) ts S=sr (fun v S'=>opsM E Q rest (setT ts d v) S') ⟨⟩ (astepO E.T S ts (.typeAssert x t' t ok)) S:=by
 simp only [opsM,guardM,opM,sr,contK]
 cases astepO E.T S ts (.typeAssert x t' t ok) <;> rfl
@[go_sem] theorem x_extract {E:Env} {Q:AQ} {rest:List MO} {ts:TS} {S:St} (d:Option Nat) (x:Operand) (i:Nat):opsM E Q (⟨none,d,.extract x i⟩ :: rest) ts S=sr (fun v S'=>opsM E Q rest (setT ts d v) S') ⟨⟩ (astepO E.T S ts (.extract x i)) S:=by
 simp only [opsM,guardM,opM,sr,contK]
 cases astepO E.T S ts (.extract x i) <;> rfl
@[go_sem] theorem x_call {E:Env} {Q:AQ} {rest:List MO} {ts:TS} {S:St} (d:Option Nat) (b:Builtin) (args:Array Operand) (tys:Array TypeId):opsM E Q (⟨none,d,.call { callee:=.builtin b,args:=args,argTypes:=tys }⟩ :: rest) ts S=sr (fun v S'=>opsM E Q rest (setT ts d v) S') ⟨⟩ (astepO E.T S ts (.call { callee:=.builtin b,args:=args,argTypes:=tys })) S:=by
 simp only [opsM,guardM,opM,sr,contK]
 cases astepO E.T S ts (.call { callee:=.builtin b,args:=args,argTypes:=tys }) <;> rfl
@[go_sem] theorem x_callf {E:Env} {Q:AQ} {rest:List MO} {ts:TS} {S:St} (d:Option Nat) (f:Nat) (args:Array Operand) (tys:Array TypeId) :
  opsM E Q (⟨none,d,.call { callee:=.value (.func f),args:=args,argTypes:=tys }⟩ :: rest) ts S=sc E (fun v S'=>opsM E Q rest (setT ts d v) S') (fun v S'=>Q (.panic v) ts S') ⟨⟩ ⟨⟩ (callee E ts { callee:=.value (.func f),args:=args,argTypes:=tys }) S:=by
 have hy:yieldee ts { callee:=.value (.func f),args:=args,argTypes:=tys }=none:=by
  simp only [yieldee,aeval]
 simp only [opsM,guardM,opM,sc,astepO,hy]
 cases callee E ts { callee:=.value (.func f),args:=args,argTypes:=tys } <;> rfl
@[go_sem] theorem x_callt {E:Env} {Q:AQ} {rest:List MO} {ts:TS} {S:St} (d:Option Nat) (t:Nat) (args:Array Operand) (tys:Array TypeId) :
  opsM E Q (⟨none,d,.call { callee:=.value (.tmp t),args:=args,argTypes:=tys }⟩ :: rest) ts S=scy E (fun v S'=>opsM E Q rest (setT ts d v) S') (fun v S'=>Q (.panic v) ts S') ⟨⟩ ⟨⟩ (callee E ts { callee:=.value (.tmp t),args:=args,argTypes:=tys }) (yieldee ts { callee:=.value (.tmp t),args:=args,argTypes:=tys }) S:=by
 simp only [opsM,guardM,opM,scy,astepO]
 cases callee E ts { callee:=.value (.tmp t),args:=args,argTypes:=tys } with
 | some x=>rfl
 | none=>cases yieldee ts { callee:=.value (.tmp t),args:=args,argTypes:=tys } <;> rfl
@[go_sem] theorem x_panic {E:Env} {Q:AQ} {rest:List MO} {ts:TS} {S:St} (d:Option Nat) (x:Operand) :
  opsM E Q (⟨none,d,.panic x⟩ :: rest) ts S=sr (fun v S'=>Q (.panic v) ts S') ⟨⟩ ((aeval ts x).bind fun v=>match v with | .iface t v=>some (.pure (.iface t v)) | _=>none) S:=by
 simp only [opsM,guardM,opM,astepO]
 cases h:aeval ts x with
 | none=>simp [sr]
 | some v=>cases v <;> simp [sr,Res.ok,Res.app]
@[go_sem] theorem wc_skip {E:Env} {Q:AQ} {ts:TS} {S:St}:WC E .skip Q ts S=Q .normal ts S:=rfl
@[go_sem] theorem wc_seq {E:Env} {Q:AQ} {x y:MC} {ts:TS} {S:St}:WC E (.seq x y) Q ts S=WC E x (thenQ (WC E y Q) Q) ts S:=rfl
@[go_sem] theorem wc_cond {E:Env} {Q:AQ} {c:Operand} {x y:MC} {ts:TS} {S:St}:WC E (.cond c x y) Q ts S=sb (WC E x Q ts S) (WC E y Q ts S) ⟨⟩ ⟨⟩ (aeval ts c):=by
 simp only [WC,sb]
 cases aeval ts c with
 | none=>rfl
 | some v=>cases v <;> rfl
@[go_sem] theorem wc_block {E:Env} {Q:AQ} {id:Nat} {x:MC} {ts:TS} {S:St}:WC E (.block id x) Q ts S=WC E x (blockQ id Q) ts S:=rfl
@[go_sem] theorem wc_exit {E:Env} {Q:AQ} {id:Nat} {ts:TS} {S:St}:WC E (.exit id) Q ts S=Q (.exit id) ts S:=rfl
@[go_sem] theorem wc_ret {E:Env} {Q:AQ} {ts:TS} {S:St}:WC E .ret Q ts S=Q .ret ts S:=rfl
@[go_sem] theorem wc_region {E:Env} {Q:AQ} {ks:List Nat} {l:List MO} {ts:TS} {S:St}:WC E (.region ks l) Q ts S=opsM E (keepQ ks Q) l ts S:=rfl
@[go_sem] theorem wc_draw {E:Env} {Q:AQ} {ks:List Nat} {m:Nat} {hs:List Bool} {l:List MO} {ts:TS} {S:St}:WC E (.draw ks m hs l) Q ts S=preM E (opsM E (keepQ ks Q) (l.drop m)) m l hs S ts S:=rfl
@[go_sem] theorem thenQ_normal (next:TS→St→Prop) (Q:AQ) (ts:TS) (S:St):thenQ next Q .normal ts S=next ts S:=rfl
@[go_sem] theorem thenQ_ret (next:TS→St→Prop) (Q:AQ) (ts:TS) (S:St):thenQ next Q .ret ts S=Q .ret ts S:=rfl
@[go_sem] theorem thenQ_exit (next:TS→St→Prop) (Q:AQ) (i:Nat) (ts:TS) (S:St):thenQ next Q (.exit i) ts S=Q (.exit i) ts S:=rfl
@[go_sem] theorem thenQ_panic (next:TS→St→Prop) (Q:AQ) (v:AV) (ts:TS) (S:St):thenQ next Q (.panic v) ts S=Q (.panic v) ts S:=rfl
@[go_sem] theorem blockQ_normal (id:Nat) (Q:AQ) (ts:TS) (S:St):blockQ id Q .normal ts S=Q .normal ts S:=rfl
@[go_sem] theorem blockQ_ret (id:Nat) (Q:AQ) (ts:TS) (S:St):blockQ id Q .ret ts S=Q .ret ts S:=rfl
@[go_sem] theorem blockQ_panic (id:Nat) (Q:AQ) (v:AV) (ts:TS) (S:St):blockQ id Q (.panic v) ts S=Q (.panic v) ts S:=rfl
@[go_sem] theorem blockQ_same (id:Nat) (Q:AQ) (ts:TS) (S:St):blockQ id Q (.exit id) ts S=Q .normal ts S:=by simp [blockQ]
@[go_sem] theorem blockQ_exit (id i:Nat) (Q:AQ) (ts:TS) (S:St) (h:(i == id)=false):blockQ id Q (.exit i) ts S=Q (.exit i) ts S:=by
 have:i≠id:=by simpa using h
 simp [blockQ,this]
@[go_sem] theorem keepQ_normal (ks:List Nat) (Q:AQ) (ts:TS) (S:St):keepQ ks Q .normal ts S=Q .normal (ts.keep ks) S:=rfl
@[go_sem] theorem keepQ_panic (ks:List Nat) (Q:AQ) (v:AV) (ts:TS) (S:St):keepQ ks Q (.panic v) ts S=Q (.panic v) ts S:=rfl
@[congr] theorem thenQ_congr {next:TS→St→Prop} {Q:AQ} {e e':AExit} {ts ts':TS} {S S':St} (h0:e=e') (h:ts=ts') (h':S=S'):thenQ next Q e ts S=thenQ next Q e' ts' S':=by rw [h0,h,h']
@[congr] theorem blockQ_congr {id:Nat} {Q:AQ} {e e':AExit} {ts ts':TS} {S S':St} (h0:e=e') (h:ts=ts') (h':S=S'):blockQ id Q e ts S=blockQ id Q e' ts' S':=by rw [h0,h,h']
section
variable {T:Tab} {S:St} {ts:TS}
@[go_sem] theorem a_move (x:Operand):astepO T S ts (.move x)=(aeval ts x).map .pure:=rfl
@[go_sem] theorem a_assign (x:Operand):astepO T S ts (.assign x)=(aeval ts x).map .pure:=rfl
@[go_sem] theorem a_pick (c a b:Operand):astepO T S ts (.pick c a b)=(match aeval ts c with
  | some (.bool t)=>(if t then aeval ts a else aeval ts b).map .pure
  | _=>none):=rfl
@[go_sem] theorem a_alloc (e:TypeId):astepO T S ts (.alloc e)=allocA T e:=rfl
@[go_sem] theorem a_box (e:TypeId) (x:Operand):astepO T S ts (.box e x)=(aeval ts x).map boxA:=rfl
@[go_sem] theorem a_build (t:TypeId) (ps:Array (Nat × Operand)):astepO T S ts (.build t ps)=(evP ts ps.toList).bind fun ps=>(buildA T t ps).map .pure:=rfl
@[go_sem] theorem a_buildSlice (t:TypeId) (n:Nat) (ps:Array (Nat × Operand)):astepO T S ts (.buildSlice t n ps)=(evP ts ps.toList).bind fun ps=>(zAe T t n ps).map .pure:=rfl
@[go_sem] theorem a_load (t:TypeId) (a:Operand):astepO T S ts (.load t a)=(aeval ts a).bind fun p=>(loadA T S t p).map .pure:=rfl
@[go_sem] theorem a_store (t:TypeId) (a v:Operand):astepO T S ts (.store t a v)=(aeval ts a).bind fun p=>(aeval ts v).bind fun x=>storeA T S t p x:=rfl
@[go_sem] theorem a_nilCheck (x:Operand):astepO T S ts (.nilCheck x)=(aeval ts x).bind fun p=>(zEh p).map .pure:=rfl
@[go_sem] theorem a_bin (op:BinOp) (t:TypeId) (x y:Operand) (t':TypeId):astepO T S ts (.binOp op t x y t')=(aeval ts x).bind fun p=>(aeval ts y).bind fun q=>(binA T op t p q).map .pure:=rfl
@[go_sem] theorem a_un (op:UnOp) (t:TypeId) (x:Operand):astepO T S ts (.unOp op t x)=(aeval ts x).bind fun p=>(unA op p).map .pure:=rfl
@[go_sem] theorem a_convert (s d:TypeId) (x:Operand):astepO T S ts (.convert s d x)=(aeval ts x).bind fun p=>match convA T s d p with
  | some v=>some (.pure v)
  | none=>zCc T S s d p:=rfl
@[go_sem] theorem a_mkI (t:TypeId) (x:Operand):astepO T S ts (.makeInterface t x)=(match descOf T t with
  | some d=>if isIface d then none else (aeval ts x).map fun v=>.pure (.iface t v)
  | none=>none):=rfl
@[go_sem] theorem a_makeFunc (fn:Fn) (f c:Array Operand):astepO T S ts (.makeFunc fn f c)=(evs ts f.toList).bind fun f=>(evs ts c.toList).map fun c=>.pure (.func fn f c):=rfl
@[go_sem] theorem a_makeMap (t:TypeId):astepO T S ts (.makeMap t none)=some makeMapA:=rfl
@[go_sem] theorem a_makeSlice (t:TypeId) (l c:Operand):astepO T S ts (.makeSlice t l c)=(aeval ts l).bind fun l=>(aeval ts c).bind fun c=>zCe T t l c:=rfl
@[go_sem] theorem a_slice (t:TypeId) (x:Operand) (lo hi mx:Option Operand):astepO T S ts (.slice t x lo hi mx)=(aeval ts x).bind fun p=>(evO ts lo).bind fun lo=>(evO ts hi).bind fun hi=>(evO ts mx).bind fun mx=>(sliceA T t p lo hi mx).map .pure:=rfl
@[go_sem] theorem a_fieldAddr (s:TypeId) (x:Operand) (f:Nat):astepO T S ts (.fieldAddr s x f)=(aeval ts x).bind fun p=>(zAb T s p f).map .pure:=rfl
@[go_sem] theorem a_field (t:TypeId) (x:Operand) (f:Nat):astepO T S ts (.field t x f)=(aeval ts x).bind fun p=>(fieldA T t p f).map .pure:=rfl
@[go_sem] theorem a_indexAddr (t:TypeId) (x i:Operand):astepO T S ts (.indexAddr t x i)=(aeval ts x).bind fun p=>(aeval ts i).bind fun q=>(zAo T t p q).map .pure:=rfl
@[go_sem] theorem a_index (t:TypeId) (x i:Operand):astepO T S ts (.index t x i)=(aeval ts x).bind fun p=>(aeval ts i).bind fun q=>(indexA T t p q).map .pure:=rfl
@[go_sem] theorem a_lookup (t:TypeId) (x i:Operand) (ok:Bool):astepO T S ts (.lookup t x i ok)=(aeval ts x).bind fun p=>(aeval ts i).bind fun q=>(lookupA T S t p q ok).map .pure:=rfl
@[go_sem] theorem a_mapUpdate (t:TypeId) (m k v:Operand):astepO T S ts (.mapUpdate t m k v)=(aeval ts m).bind fun m=>(aeval ts k).bind fun k=>(aeval ts v).bind fun v=>zAz T S t m k v:=rfl
@[go_sem] theorem a_range (t:TypeId) (x:Operand):astepO T S ts (.range t x)=(aeval ts x).bind fun p=>rangeA T t p:=rfl
@[go_sem] theorem a_next (it:Operand):astepO T S ts (.next it true)=(aeval ts it).bind fun p=>nextA S p:=rfl
@[go_sem] theorem a_typeAssert (x:Operand) (t' t:TypeId) (ok:Bool):astepO T S ts (.typeAssert x t' t ok)=(aeval ts x).bind fun p=>(zAx T p t ok).map .pure:=rfl
@[go_sem] theorem a_extract (x:Operand) (i:Nat):astepO T S ts (.extract x i)=(aeval ts x).bind fun p=>(zAc p i).map .pure:=rfl
@[go_sem] theorem a_builtin (b:Builtin) (args:Array Operand) (tys:Array TypeId):astepO T S ts (.call { callee:=.builtin b,args:=args,argTypes:=tys })=(evs ts args.toList).bind fun vs=>zAa T S b tys.toList vs:=rfl
@[go_sem] theorem e_tmp (t:Nat):aeval ts (.tmp t)=ts.get t:=rfl
@[go_sem] theorem e_func (f:Nat):aeval ts (.func f)=some (.func (.func f) [] []):=rfl
@[go_sem] theorem e_int (k:IntKind) (n:Int):aeval ts (.const (.int k n))=some (.int k n):=rfl
@[go_sem] theorem e_bool (b:Bool):aeval ts (.const (.bool b))=some (.bool b):=rfl
@[go_sem] theorem evs_nil:evs ts []=some []:=rfl
@[go_sem] theorem evs_cons (o:Operand) (os:List Operand):evs ts (o :: os)=(aeval ts o).bind fun v=>(evs ts os).map (v :: ·):=by
 simp only [evs]
 cases aeval ts o <;> cases evs ts os <;> rfl
@[go_sem] theorem evP_nil:evP ts []=some []:=rfl
@[go_sem] theorem evP_cons (i:Nat) (o:Operand) (os:List (Nat × Operand)):evP ts ((i,o) :: os)=(aeval ts o).bind fun v=>(evP ts os).map ((i,v) :: ·):=by
 simp only [evP]
 cases aeval ts o <;> cases evP ts os <;> rfl
@[go_sem] theorem evO_none:evO ts none=some none:=rfl
@[go_sem] theorem evO_some (o:Operand):evO ts (some o)=(aeval ts o).map some:=rfl
@[go_sem] theorem callee_func {E:Env} (f:Nat) (args:Array Operand) (tys:Array TypeId):callee E ts { callee:=.value (.func f),args:=args,argTypes:=tys }=(evs ts args.toList).map fun vs=>(f,vs):=by
 simp only [callee,aeval]
 cases evs ts args.toList <;> simp
end
@[go_sem] theorem setT_some (ts:TS) (d:Nat) (v:AV):setT ts (some d) v=ts.set d v:=rfl
@[go_sem] theorem setT_none (ts:TS) (v:AV):setT ts none v=ts:=rfl
@[go_sem] theorem get_nil (d:Nat):TS.get [] d=none:=rfl
@[go_sem] theorem get_cons (k:Nat) (v:AV) (l:TS) (d:Nat):TS.get ((k,v) :: l) d=if k=d then some v else TS.get l d:=rfl
@[go_sem] theorem set_nil (d:Nat) (x:AV):TS.set [] d x=[(d,x)]:=rfl
@[go_sem] theorem set_cons (k:Nat) (v:AV) (l:TS) (d:Nat) (x:AV):TS.set ((k,v) :: l) d x=if k=d then (d,x) :: l else (k,v) :: TS.set l d x:=rfl
@[go_sem] theorem keep_nil (ks:List Nat):TS.keep ks []=[]:=rfl
@[go_sem] theorem keep_cons (ks:List Nat) (k:Nat) (v:AV) (l:TS):TS.keep ks ((k,v) :: l)=if ks.contains k=true then (k,v) :: TS.keep ks l else TS.keep ks l:=rfl
@[go_sem] theorem arg0:argTS 0 []=[]:=rfl
@[go_sem] theorem arg1 (a:AV):argTS 0 [a]=[(0,a)]:=rfl
@[go_sem] theorem arg2 (a b:AV):argTS 0 [a,b]=[(0,a),(1,b)]:=rfl
@[go_sem] theorem arg3 (a b c:AV):argTS 0 [a,b,c]=[(0,a),(1,b),(2,c)]:=rfl
@[go_sem] theorem arg4 (a b c d:AV):argTS 0 [a,b,c,d]=[(0,a),(1,b),(2,c),(3,d)]:=rfl
@[go_sem] theorem arg5 (a b c d e:AV):argTS 0 [a,b,c,d,e]=[(0,a),(1,b),(2,c),(3,d),(4,e)]:=rfl
@[go_sem] theorem arg6 (a b c d e f:AV):argTS 0 [a,b,c,d,e,f]=[(0,a),(1,b),(2,c),(3,d),(4,e),(5,f)]:=rfl
attribute [go_sem] List.contains_cons List.contains_nil Bool.or_false Bool.or_true Bool.true_or Bool.false_or
attribute [go_sem] zS ite_true ite_false if_true if_false
@[go_sem] theorem ite_true_eq {α:Type} (a b:α):(if true=true then a else b)=a:=rfl
@[go_sem] theorem ite_false_eq {α:Type} (a b:α):(if false=true then a else b)=b:=rfl
attribute [go_sem] zX Option.map_none qT Option.bind_none
theorem sg_dec {p:Prop} [Decidable p] {b:Bool} {x y:Prop} {hx:Hold x} {hy:Hold y} (h:p→sg x y hx hy b (some (.bool true))) (h':¬ p→sg x y hx hy b (some (.bool false))):sg x y hx hy b (some (.bool (decide p))):=by
 by_cases hp:p
 ·simp only [hp,decide_true];exact h hp
 ·simp only [hp,decide_false];exact h' hp
def qr (R:AEnd→St→Prop) (o:Option (List AV)) (S:St):Prop:=
 match o with
 | some vs=>R (.ret (tupA vs)) S
 | none=>False
@[go_sem] theorem qr_some (R:AEnd→St→Prop) (vs:List AV) (S:St):qr R (some vs) S=R (.ret (tupA vs)) S:=rfl
@[go_sem] theorem tup1 (v:AV):tupA [v]=v:=rfl
@[go_sem] theorem tup2 (v u:AV) (l:List AV):tupA (v :: u :: l)=.tuple (v :: u :: l):=rfl
@[go_sem] theorem res_nil {T:Tab} {S:St} {ts:TS}:resA T S ts []=some []:=rfl
@[go_sem] theorem res_tmp {T:Tab} {S:St} {ts:TS} (t:Nat) (l:List ResultVar):resA T S ts (.tmp t :: l)=(ts.get t).bind fun v=>(resA T S ts l).map (v :: ·):=by
 simp only [resA]
 cases ts.get t <;> cases resA T S ts l <;> rfl
@[go_sem] theorem res_cell {T:Tab} {S:St} {ts:TS} (a:Nat) (t:TypeId) (l:List ResultVar):resA T S ts (.cell a t :: l)=((ts.get a).bind (loadA T S t)).bind fun v=>(resA T S ts l).map (v :: ·):=by
 simp only [resA]
 cases (ts.get a).bind (loadA T S t) <;> cases resA T S ts l <;> rfl
section
variable {T:Tab} {S:St}
@[go_sem] theorem b_int (op:BinOp) (t:TypeId) (k:IntKind) (a b:Int):binA T op t (.int k a) (.int k b)=intOp op k a b:=by simp [binA]
@[go_sem] theorem i_add (k:IntKind) (a b:Int):intOp .add k a b=some (.int k (k.wrap (a+b))):=rfl
@[go_sem] theorem i_sub (k:IntKind) (a b:Int):intOp .sub k a b=some (.int k (k.wrap (a - b))):=rfl
@[go_sem] theorem i_mul (k:IntKind) (a b:Int):intOp .mul k a b=some (.int k (k.wrap (a * b))):=rfl
@[go_sem] theorem i_eql (k:IntKind) (a b:Int):intOp .eql k a b=some (.bool (decide (a=b))):=rfl
@[go_sem] theorem i_neq (k:IntKind) (a b:Int):intOp .neq k a b=some (.bool (decide (a≠b))):=by
 simp only [intOp,bne,ne_eq,decide_not];rfl
@[go_sem] theorem i_lss (k:IntKind) (a b:Int):intOp .lss k a b=some (.bool (decide (a<b))):=rfl
@[go_sem] theorem i_leq (k:IntKind) (a b:Int):intOp .leq k a b=some (.bool (decide (a≤b))):=rfl
@[go_sem] theorem i_gtr (k:IntKind) (a b:Int):intOp .gtr k a b=some (.bool (decide (a > b))):=rfl
@[go_sem] theorem i_geq (k:IntKind) (a b:Int):intOp .geq k a b=some (.bool (decide (a ≥ b))):=rfl
@[go_sem] theorem zAg (b:Bool):unA .not (.bool b)=some (.bool (!b)):=rfl
@[go_sem] theorem p_some (b:Bool) (x y:Option AV):(match some (AV.bool b) with
  | some (.bool t)=>(if t then x else y).map Res.pure
  | _=>none)=(if b=true then x else y).map Res.pure:=rfl
theorem wrap64 {x:Int} (h:-9223372036854775808≤x∧x≤9223372036854775807):IntKind.i64.wrap x=x:=by
 rw [IntKind.wrap_i64];omega
end
@[go_sem] theorem q_normal {E:Env} {rs:List ResultVar} {R:AEnd→St→Prop} {ts:TS} {S:St}:bodyQ E rs R .normal ts S=qr R (resA E.T S ts rs) S:=by
 simp only [bodyQ,qr];split <;> simp_all
@[go_sem] theorem q_ret {E:Env} {rs:List ResultVar} {R:AEnd→St→Prop} {ts:TS} {S:St}:bodyQ E rs R .ret ts S=qr R (resA E.T S ts rs) S:=by
 simp only [bodyQ,qr];split <;> simp_all
def cellsAt (h:List (Option Blk)) (b:Nat):Option (List AV):=
 match h[b]? with
 | some (some (.cells l))=>some l
 | _=>none
theorem zAr {T:Tab} {S:St} {t:TypeId} {i:TI} (h:T t=some i) {b o:Nat}:loadA T S t (.ref b o)=(cellsAt S.heap b).bind fun l=>rd i l o:=by
 simp only [loadA,h,cellsAt]
 cases S.heap[b]? with
 | none=>rfl
 | some x=>cases x with
  | none=>rfl
  | some B=>cases B <;> rfl
theorem zAl {T:Tab} {S:St} {t:TypeId} {i:TI} (h:T t=some i) {b o:Nat} {v:AV}:storeA T S t (.ref b o) v=(cellsAt S.heap b).bind fun l=>if v.cells.length=i.size∧o+i.size≤l.length∧v.cells.all AV.one then some (.write b (.cells (splice l o v.cells)) .undef) else none:=by
 simp only [storeA,h,cellsAt]
 cases S.heap[b]? with
 | none=>rfl
 | some x=>cases x with
  | none=>rfl
  | some B=>cases B <;> rfl
@[go_sem] theorem cellsAt_zero (l:List AV) (h:List (Option Blk)):cellsAt (some (.cells l) :: h) 0=some l:=rfl
@[go_sem] theorem cellsAt_succ (x:Option Blk) (h:List (Option Blk)) (n:Nat):cellsAt (x :: h) (n+1)=cellsAt h n:=rfl
def setH:List (Option Blk)→Nat→Blk→List (Option Blk)
 | [],0,B=>[some B]
 | [],i+1,B=>none :: setH [] i B
 | _ :: h,0,B=>some B :: h
 | x :: h,i+1,B=>x :: setH h i B
theorem setH_eq:∀ (h:List (Option Blk)) (i:Nat) (B:Blk),(h ++ List.replicate (i+1 - h.length) none).set i (some B)=setH h i B
 | [],0,B=>rfl
 | [],i+1,B=>by
  have:=setH_eq [] i B
  simp only [yB,qE,Nat.sub_zero] at this ⊢
  rw [List.replicate_succ,zH,this];rfl
 | x :: h,0,B=>by simp [setH]
 | x :: h,i+1,B=>by
  have:=setH_eq h i B
  simp only [zW,qX,zH,setH]
  rw [show i+1+1 - (h.length+1)=i+1 - h.length by omega,this]
@[go_sem] theorem put_mk (h:List (Option Blk)) (nt:Nat) (tk:List Nat) (i:Nat) (B:Blk):St.put ⟨h,nt,tk⟩ i B=⟨setH h i B,nt,tk⟩:=by
 simp only [St.put,setH_eq]
@[go_sem] theorem setH_zero (x:Option Blk) (h:List (Option Blk)) (B:Blk):setH (x :: h) 0 B=some B :: h:=rfl
@[go_sem] theorem setH_succ (x:Option Blk) (h:List (Option Blk)) (i:Nat) (B:Blk):setH (x :: h) (i+1) B=x :: setH h i B:=rfl
@[go_sem] theorem heap_mk (h:List (Option Blk)) (nt:Nat) (tk:List Nat):(St.mk h nt tk).heap=h:=rfl
@[go_sem] theorem toks_mk (h:List (Option Blk)) (nt:Nat) (tk:List Nat):(St.mk h nt tk).toks=tk:=rfl
@[go_sem] theorem nt_mk (h:List (Option Blk)) (nt:Nat) (tk:List Nat):(St.mk h nt tk).nt=nt:=rfl
@[go_sem] theorem heap_empty:St.empty.heap=[]:=rfl
@[go_sem] theorem toks_empty:St.empty.toks=[]:=rfl
@[go_sem] theorem nt_empty:St.empty.nt=0:=rfl
attribute [go_sem] yB qX List.append_nil qN
theorem zAu {E:Env} {c:MC} {Q:AQ} {ts:TS} {S:St} (I:Nat→TS→St→Prop) (n:Nat) (h0:I n ts S) (h:∀ n ts S,I n ts S→WC E c (thenQ (again I E.base E.bt n) Q) ts S):WC E (.loop c) Q ts S:=⟨I,⟨n,h0⟩,h⟩
theorem zDy {E:Env} {c:MC} {Q:AQ} {ts:TS} {S:St} (N:Nat) (f:Nat→TS) (g:Nat→St) (h0:f 0=ts) (h1:g 0=S)
  (h:∀ k,k≤N → ∀ I:TS→St→Prop,(k<N→I (f (k+1)) (g (k+1)))→WC E c (thenQ I Q) (f k) (g k)):WC E (.loop c) Q ts S:=by
 refine zAu (fun n ts' S' => ∃ k,k≤N∧n=N - k∧ts'=f k∧S'=g k) N ⟨0,qG _,rfl,h0.symm,h1.symm⟩ ?_
 rintro n ts' S' ⟨k,hk,rfl,rfl,rfl⟩
 exact h k hk _ fun hlt=>zAj (N - (k+1)) (by omega) ⟨k+1,hlt,rfl,rfl,rfl⟩
end Go.Av
end

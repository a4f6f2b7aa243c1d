/- Part 13 of the proof. -/
import Derived.Test.YtclmbbofpaecaaaGreatDoorVn12
import Derived.Laws.Bits64
set_option linter.all false
set_option linter.unusedVariables false
set_option linter.unusedSimpArgs false
set_option linter.unusedSectionVars false
open Bool renaming false_eq_true → zS, and_eq_true → zT, not_true → zV, false_and → qH, true_and → qY
open Int renaming toNat_natCast → qO, mul_le_mul_of_nonneg_right → qQ, mul_assoc → qV, le_refl → qZ, mul_nonneg → yI, le_trans → yQ
open List renaming getElem?_eq_getElem → zF, getD_eq_getElem?_getD → zG, getElem?_eq_none → zN, getElem?_append_right → zY, getElem_mem → qB, length_append → qC, getElem?_append_left → qJ, getElem?_map → qK, take_succ_eq_append_getElem → qM, append_assoc → qN, getElem?_range → qR, map_append → qS, flatMap_cons → qW, nil_append → yB, getElem?_set → yC, getElem?_replicate → yD, headD_cons → yF, all_eq_true → yG, tail_cons → yH, range_succ → yN
open Nat renaming reduceLeDiff → zA, reduceEqDiff → zB, reduceAdd → zC, reduceBEq → zD, le_of_ble_eq_true → zE, le_refl → zM, not_lt_zero → qU, mul_one → yL
open Option renaming bind_some → qT
open Option.some renaming injEq → yT
section
namespace Go.Av.Fx
open Go Go.Av Go.Av.Tb Go.Proofs
def lvM (t:TypeId) (name:String):Option FuncId:=
 if name = "quinaria/level.ends" then (if t=140 then some 238 else if t=161 then some 239 else if t=198 then some 240 else if t=200 then some 241 else none) else none
theorem lvM_ok:∀ t name f,lvM t name=some f → ∀ v w,(Go.method (Tryz.prog.types.size+Made.depth) t v name).run Tryz.prog w=Result.ok (f,v) w:=by
 intro t name f h v w
 unfold lvM at h
 split at h
 ·rename_i hn
  subst hn
  split at h
  ·rename_i ht;subst ht;cases h;kernel_rfl
  ·split at h
   ·rename_i ht;subst ht;cases h;kernel_rfl
   ·split at h
    ·rename_i ht;subst ht;cases h;kernel_rfl
    ·split at h
     ·rename_i ht;subst ht;cases h;kernel_rfl
     ·cases h
 ·cases h
noncomputable def E (n:Nat):Env:={ P:=Tryz.prog,T:=T,M:=lvM,N:=n,base:=0,bt:=0 }
theorem E_ok (n:Nat):(E n).Ok:=⟨T_ok,lvM_ok,fun _ _ _ _=>trivial,fun _ _ _ _ _ _ _ h=>False.elim h⟩
theorem mix:Tryz.prog.follows .mixedOrders=true:=by kernel_rfl
@[go_sem] theorem E_T (n:Nat):(E n).T=T:=rfl
@[go_sem] theorem E_P (n:Nat):(E n).P=Tryz.prog:=rfl
section
variable {n:Nat} {f:FuncId} {args args':List AV} {S:St} {K Kp:AV→St→Prop} {h1:Hold K} {h2:Hold Kp}
theorem cac {R:AEnd→St→Prop} (hf:Callable Tryz.prog f) (h:AC Tryz.prog f args S R) (k:∀ v S',R (.ret v) S'→K v S') (kp:∀ v S',R (.panic v) S'→Kp v S'):sc (E n) K Kp h1 h2 (some (f,args)) S:=zCb (E:=E n) hf h k kp
theorem cp {v:AV} (hf:Callable Tryz.prog f) (h:PC Tryz.prog f args' (.pure v)) (hs:SubL args args') (k:K v S):sc (E n) K Kp h1 h2 (some (f,args)) S:=zCa (E:=E n) hf h hs k
theorem ca {B:Blk} {mk:Nat→AV} (hf:Callable Tryz.prog f) (h:PC Tryz.prog f args' (.alloc B mk)) (hs:SubL args args') (k:K (mk S.heap.length) { S with heap:=S.heap ++ [some B] }):sc (E n) K Kp h1 h2 (some (f,args)) S:=call_alloc (E:=E n) hf h hs k
theorem cl {v:AV} (hf:Callable Tryz.prog f) (h:PC Tryz.prog f args' (.pure v)) (hl:LntL S.heap args args') (hv:v.flat=true) (k:K v S):sc (E n) K Kp h1 h2 (some (f,args)) S:=call_lend (E:=E n) hf h hl hv k
theorem qp {v:AV} (hf:Callable Tryz.prog f) (h:PC Tryz.prog f args' (.pure v)) (hs:SubL args args') (k:K v S):sqc (E n) K h1 (some (f,args)) S:=zBo (E:=E n) hf h hs k
end
section
variable {ts:TS}
@[go_sem] theorem e_slice:aeval ts (.const (.slice none 0 0))=some .nilS:=rfl
@[go_sem] theorem e_str (s:ByteArray):aeval ts (.const (.string s))=some (.str s):=rfl
@[go_sem] theorem e_nilp:aeval ts (.const (.pointer none))=some .nilp:=rfl
@[go_sem] theorem e_nilf:aeval ts (.const .nilFunc)=some .nilFunc:=rfl
@[go_sem] theorem e_nili:aeval ts (.const .nilIface)=some .nilIface:=rfl
@[go_sem] theorem e_nilm:aeval ts (.const (.map none))=some .nilMap:=rfl
end
def ints (l:List Int):List AV:=l.map (.int .i64)
abbrev sl (l:List Int):AV:=.slice (ints l) l.length .unk
@[simp] theorem ints_get (l:List Int) (i:Nat):(ints l)[i]? = (l[i]?).map (.int .i64):=by simp [ints]
@[simp] theorem zCm (l:List Int):(ints l).length=l.length:=by simp [ints]
@[simp] theorem ints_bnd (n k:Nat) (l:List Int):bndL n k (ints l)=true:=bndL_map _ (fun _=>rfl) l
structure Cnt where
 point:Int
 low:Int
 high:Int
 deriving DecidableEq
structure LLine where
 gives:List Int
 least:Int
 most:Int
 taps:Int
 counts:List Cnt
 deriving DecidableEq
abbrev cntC (c:Cnt):List AV:=[.int .i64 c.point,.int .i64 c.low,.int .i64 c.high]
def cnts (l:List Cnt):List AV:=l.flatMap cntC
@[simp] theorem cnts_bnd (n k:Nat) (l:List Cnt):bndL n k (cnts l)=true:=zBb _ (fun _=>rfl) l
abbrev lineC (l:LLine):List AV:=[sl l.gives,.int .i64 l.least,.int .i64 l.most,.int .i64 l.taps,.slice (cnts l.counts) l.counts.length .unk]
attribute [go_sem] lineC cntC
@[go_sem] theorem add_zero_int (a:Int):a+0=a:=Int.add_zero a
theorem zAi (n:Nat):((n:Int)).toNat=n:=qO n
theorem zCz {α β:Type} (f:α→β→α) (z:α) (l:List β) (k:Nat) (h:k<l.length):(l.take (k+1)).foldl f z=f ((l.take k).foldl f z) l[k]:=by
 rw [qM h,List.foldl_append];rfl
abbrev okL (n:Nat):Prop:=n<9223372036854775807
theorem in_pc (x lo hi:Int):PC Tryz.prog 100 [.int .i64 x,.int .i64 lo,.int .i64 hi] (.pure (.bool (decide (x ≥ lo) && decide (x≤hi)))):=by
 refine PC.of_empty (AC.run (E_ok 15) mix Tryz.func100 m100 rfl rfl rfl (zE rfl) ?_) rfl rfl
 simp only [go_sem,zB,zD,zC,reduceIte,reduceCtorEq,zA]
 refine sg_dec (fun h => ?_) (fun h => ?_)
 ·simp only [go_sem,h,decide_true,Tryz.f100,qY,zB,zD,zC,reduceIte,reduceCtorEq,zA]
 ·simp only [go_sem,h,decide_false,Tryz.f100,qH,zB,zD,zC,reduceIte,reduceCtorEq,zA]
def idx {α:Type} (p:α→Bool) (l:List α):Int:=match l.findIdx? p with
 | some i=>i
 | none => -1
theorem idx_at {α:Type} {p:α→Bool} {l:List α} {k:Nat} (h:k<l.length) (hp:p l[k]=true) (hn:∀ i (hi:i<k),p (l[i]'(by omega))=false):idx p l=k:=by
 have:l.findIdx? p=some k:=by
  rw [List.findIdx?_eq_some_iff_getElem]
  exact ⟨h,hp,fun j hj=>by simp [hn j hj]⟩
 unfold idx;rw [this]
theorem zDs {α:Type} {p:α→Bool} {l:List α} (hn:∀ i (hi:i<l.length),p l[i]=false):idx p l = -1:=by
 have:l.findIdx? p=none:=by
  rw [List.findIdx?_eq_none_iff]
  intro x hx
  obtain ⟨i,hi,rfl⟩:=List.mem_iff_getElem.1 hx
  exact hn i hi
 unfold idx;rw [this]
theorem zCg {α:Type} (p:α→Bool) (l:List α):decide (idx p l ≥ 0)=l.any p:=by
 unfold idx
 cases h:l.findIdx? p with
 | none =>
  rw [List.findIdx?_eq_none_iff] at h
  have:l.any p=false:=by simpa using h
  rw [this];rfl
 | some i =>
  rw [List.findIdx?_eq_some_iff_getElem] at h
  obtain ⟨hi,hp,_⟩:=h
  have:l.any p=true:=List.any_eq_true.2 ⟨l[i],qB hi,hp⟩
  rw [this];simp
theorem indexFunc_pc (l:List Int) (hl:okL l.length) (g:FuncId) (ng:Callable Tryz.prog g) (caps:List AV) (hc:bndL 0 0 caps=true) (p:Int→Bool) (hg:∀ x∈l,PC Tryz.prog g (.int .i64 x :: caps) (.pure (.bool (p x)))) :
  PC Tryz.prog 169 [sl l,.func (.func g) [] caps] (.pure (.int .i64 (idx p l))):=by
 refine PC.of_empty (AC.run (E_ok _) mix Tryz.func169 m169 rfl rfl rfl (zE rfl) ?_) (by simp [bndL,AV.bnd,hc]) rfl
 simp only [go_sem,zAa,zB,zD,zC,reduceIte,reduceCtorEq,zA]
 refine zBi l.length (fun k => ∀ i (hi:i<k) (hil:i<l.length),p l[i]=false) (fun k=>[(0,sl l),(1,.func (.func g) [] caps),(7,.int .i64 l.length),(8,.int .i64 k)]) (fun _=>St.empty) (fun i hi=>absurd hi (qU _)) rfl rfl ?_
 intro k hk hP I hI
 by_cases h:k<l.length
 ·have h':(k:Int)<l.length:=by omega
  have h2:0≤(k:Int)∧(k:Int)<l.length:=by omega
  have h3:l[k]? = some l[k]:=zF h
  have h4:IntKind.i64.wrap ((k:Int)+1)=(k+1:Nat):=wrap64 (by omega)
  simp only [go_sem,l169_0,h',decide_true,zB,zD,zC,reduceIte,reduceCtorEq,zA]
  simp only [go_sem,h2,zAi,yL,and_self,ints_get,h3,h4,zB,zD,zC,reduceIte,reduceCtorEq,zA]
  refine cp ng (hg _ (qB h)) (SubL.refl _) ?_
  simp only [go_sem,zB,zD,zC,reduceIte,reduceCtorEq,zA]
  refine sb_bool (fun hb => ?_) (fun hb => ?_)
  ·simp only [go_sem,Tryz.f169,zB,zD,zC,reduceIte,reduceCtorEq,zA]
   rw [idx_at h hb (fun i hi=>hP i hi (by omega))]
  ·simp only [go_sem,h4,zB,zD,zC,reduceIte,reduceCtorEq,zA]
   refine hI h fun i hi hil => ?_
   by_cases e:i=k
   ·subst e;exact hb
   ·exact hP i (by omega) hil
 ·have h':¬ (k:Int)<l.length:=by omega
  simp only [go_sem,l169_0,h',decide_false,Tryz.f169,zB,zD,zC,reduceIte,reduceCtorEq,zA]
  rw [zDs fun i hi=>hP i (by omega) hi]
theorem containsFunc_pc (l:List Int) (hl:okL l.length) (g:FuncId) (ng:Callable Tryz.prog g) (caps:List AV) (hc:bndL 0 0 caps=true) (p:Int→Bool) (hg:∀ x∈l,PC Tryz.prog g (.int .i64 x :: caps) (.pure (.bool (p x)))) :
  PC Tryz.prog 129 [sl l,.func (.func g) [] caps] (.pure (.bool (l.any p))):=by
 refine PC.of_empty (AC.run (E_ok _) mix Tryz.func129 m129 rfl rfl rfl (zE rfl) ?_) (by simp [bndL,AV.bnd,hc]) rfl
 simp only [go_sem,zB,zD,zC,reduceIte,reduceCtorEq,zA]
 refine cp n169 (indexFunc_pc l hl g ng caps hc p hg) (SubL.refl _) ?_
 simp only [go_sem,Tryz.f129,zCg,zB,zD,zC,reduceIte,reduceCtorEq,zA]
attribute [go_sem] List.drop_zero List.take_succ_cons List.take_zero List.take_nil List.drop_succ_cons
def inB (n lo hi:Int):Bool:=decide (n ≥ lo) && decide (n≤hi)
def badCnt (l:LLine) (c:Cnt):Bool:=!inB c.point 0 l.gives.length || !inB c.low 0 400 || !inB c.high 0 400 || decide (c.low > c.high)
def isLineB (l:LLine):Bool:=inB l.gives.length 1 5 && decide ((l.counts.length:Int)≤8) && inB l.least 1 l.most && decide (l.most≤60) && inB l.taps 0 2 && !l.gives.any (fun n => !inB n 0 60) && !l.counts.any (badCnt l)
theorem Lnt.func1 {h:List (Option Blk)} {fn:Fn} {c c':AV} (hc:Lnt h c c'):Lnt h (.func fn [] [c]) (.func fn [] [c']):=
 .func fn [] [c] [] [c'] rfl (fun j x y e=>by simp at e) rfl (fun j x y e e'=>by
  cases j with
  | zero=>simp at e e';subst e;subst e';exact hc
  | succ j=>simp at e)
abbrev okLine (l:LLine):Prop:=okL l.gives.length∧okL l.counts.length
theorem and_mask {n:Int} (h:0≤n) (h':n<4294967296):intOp .and .u64 n 4294967295=some (.int .u64 n):=by
 have hb:IntKind.u64.bits=64:=rfl
 have h1:(BitVec.ofInt 64 n &&& BitVec.ofInt 64 4294967295).toNat=n.toNat:=by
  rw [BitVec.toNat_and]
  have a1:(BitVec.ofInt 64 n).toNat=n.toNat:=by
   rw [BitVec.toNat_ofInt];omega
  have a2:(BitVec.ofInt 64 4294967295).toNat=2 ^ 32 - 1:=by decide
  rw [a1,a2,Nat.and_two_pow_sub_one_eq_mod]
  omega
 have h2:IntKind.u64.wrap ((BitVec.ofInt 64 n &&& BitVec.ofInt 64 4294967295).toNat:Int)=n:=by
  rw [h1,IntKind.wrap_u64];omega
 show some (AV.int .u64 (IntKind.u64.wrap ((BitVec.ofInt 64 n &&& BitVec.ofInt 64 4294967295).toNat:Int)))=_
 rw [h2]
theorem shr_small {n:Int} (h:0≤n) (h':n<4294967296):intOp .shr .u64 n 32=some (.int .u64 0):=by
 have:n.fdiv (2 ^ (min (32:Int).toNat IntKind.u64.bits))=0:=by
  have e:(min (32:Int).toNat IntKind.u64.bits)=32:=rfl
  rw [e,Int.fdiv_eq_ediv_of_nonneg _ (by decide)]
  omega
 show (if (32:Int)<0 then none else some (AV.int .u64 (n.fdiv (2 ^ (min (32:Int).toNat IntKind.u64.bits)))))=_
 rw [this];rfl
theorem wrapu {n:Int} (h:0≤n) (h':n<18446744073709551616):IntKind.u64.wrap n=n:=by rw [IntKind.wrap_u64];omega
theorem mul64_pc (n:Int) (h:0≤n) (h':n<4294967296):PC Tryz.prog 188 [.int .u64 1,.int .u64 n] (.pure (.tuple [.int .u64 0,.int .u64 n])):=by
 refine PC.of_empty (AC.run (E_ok _) mix Tryz.func188 m188 rfl rfl rfl (zE rfl) ?_) rfl rfl
 have a1:=and_mask (n:=1) (by decide) (by decide)
 have a2:=and_mask h h'
 have a3:=and_mask (n:=0) (by decide) (by decide)
 have s1:=shr_small (n:=1) (by decide) (by decide)
 have s2:=shr_small h h'
 have s3:=shr_small (n:=0) (by decide) (by decide)
 have w1:IntKind.u64.wrap n=n:=wrapu h (by omega)
 have w2:IntKind.u64.wrap 0=0:=rfl
 have w3:IntKind.u64.wrap 1=1:=rfl
 simp only [go_sem,a1,a2,a3,s1,s2,s3,w1,w2,w3,Int.one_mul,Int.zero_mul,Int.mul_zero,Int.add_zero,Int.zero_add,Tryz.f188,zB,zD,zC,reduceIte,reduceCtorEq,zA]
theorem mul_pc (n:Int) (h:0≤n) (h':n<4294967296):PC Tryz.prog 175 [.int .u64 1,.int .u64 n] (.pure (.tuple [.int .u64 0,.int .u64 n])):=by
 refine PC.of_empty (AC.run (E_ok _) mix Tryz.func175 m175 rfl rfl rfl (zE rfl) ?_) rfl rfl
 simp only [go_sem,zB,zD,zC,reduceIte,reduceCtorEq,zA]
 refine cp n188 (mul64_pc n h h') (SubL.refl _) ?_
 simp only [go_sem,zAc,Tryz.f175,zB,zD,zC,reduceIte,reduceCtorEq,zA]
@[go_sem] theorem z_copy {E:Env} {K:TS→St→Prop} {n:Nat} {rest:List MO} {hs:List Bool} {b:St} {ts:TS} {S:St} (d:Option Nat) (args:Array Operand) (tys:Array TypeId) :
  preM E K (n+1) (⟨none,d,.call { callee:=.builtin .copy,args:=args,argTypes:=tys }⟩ :: rest) (false :: hs) b ts S=sr (fun v S'=>preM E K n rest hs S' (setT ts d v) S') ⟨⟩ (astepO E.T S ts (.call { callee:=.builtin .copy,args:=args,argTypes:=tys })) S:=by
 simp only [preM,guardM,QOp,yF,yH,zS,if_false,isW,if_true,sr]
 cases h2:astepO E.T S ts (.call { callee:=.builtin .copy,args:=args,argTypes:=tys }) <;> rfl
theorem splice_eq (l vs:List AV) (o:Nat) (h:o+vs.length≤l.length):splice l o vs=l.take o ++ vs ++ l.drop (o+vs.length):=by
 apply List.ext_getElem?
 intro j
 rw [get_splice vs l o h j]
 by_cases h1:j<o
 ·rw [if_neg (by omega),qN,qJ (by simp;omega),List.getElem?_take,if_pos h1]
 ·by_cases h2:j<o+vs.length
  ·rw [if_pos (by omega),qN,zY (by simp;omega),qJ (by simp;omega)]
   congr 1
   simp;omega
  ·rw [if_neg (by omega),zY (by simp;omega),List.getElem?_drop]
   congr 1
   simp;omega
theorem mk22 {k k':IntKind} {n:Nat} (h:n≤100000000):zCe T 32 (.int k n) (.int k' n)=some (.alloc (.cells (ints (List.replicate n 0))) fun i=>.sref i 0 n n):=by
 have h1:0≤(n:Int)∧(n:Int)≤n∧(n:Int)≤1099511627776∧(n:Int) * 8≤1099511627776∧(1:Nat)≠0:=by omega
 have h2:(List.range (n * 1)).map (fun j=>([.int .i64 0]:List AV).getD (j % 1) .undef)=ints (List.replicate n 0):=by
  apply List.ext_getElem?
  intro j
  simp only [yL,qK,ints,yD]
  by_cases hj:j<n
  ·rw [qR hj,if_pos hj];simp [Nat.mod_one]
  ·rw [zN (by simpa using hj),if_neg hj];rfl
 show (if 0≤(n:Int)∧(n:Int)≤n∧(n:Int)≤1099511627776∧(n:Int) * (8:Nat)≤1099511627776∧(1:Nat)≠0 then some (Res.alloc (.cells ((List.range ((n:Int).toNat * 1)).map fun j=>([.int .i64 0]:List AV).getD (j % 1) .undef)) (.sref · 0 (n:Int).toNat (n:Int).toNat)) else none)=_
 rw [if_pos (by simpa using h1),qO,h2]
theorem copy22 {S:St} {b o n cap:Nat} {l m:List Int} {s:AV} (hb:S.heap[b]? = some (some (.cells (ints l)))) (hs:heldA S 1 s=some (ints m,m.length)) (h1:0<min m.length n) (h2:o+min m.length n≤l.length) :
  copyA T S 32 (.sref b o n cap) s=some (.write b (.cells (ints (l.take o ++ m.take (min m.length n) ++ l.drop (o+min m.length n)))) (.int .i64 (min m.length n:Nat))):=by
 have hall:((ints m).take (min m.length n)).all AV.one=true:=by
  rw [yG]
  intro x hx
  have:=List.mem_of_mem_take hx
  simp only [ints,List.mem_map] at this
  obtain ⟨y,_,rfl⟩:=this
  rfl
 have hc:(1:Nat)=1∧0<min m.length n∧o+min m.length n≤(ints l).length∧((ints m).take (min m.length n)).all AV.one=true:=⟨rfl,h1,by simpa using h2,hall⟩
 have:copyA T S 32 (.sref b o n cap) s=(match some ti3,heldA S 1 s,S.heap[b]? with
  | some ei,some (lx,nx),some (some (.cells l)) =>
   if ei.size=1∧0<min nx n∧o+min nx n≤l.length∧(lx.take (min nx n)).all AV.one then some (.write b (.cells (splice l o (lx.take (min nx n)))) (.int .i64 (min nx n:Nat))) else none
  | _,_,_=>none):=rfl
 rw [this,hs,hb]
 simp only
 rw [if_pos (by simpa [ti3] using hc),splice_eq _ _ _ (by simp;omega)]
 congr 3
 simp only [ints,qS,List.map_take,List.map_drop,List.length_take,List.length_map]
 congr 2
 omega
theorem slr_lo {b o n cap k:Nat} (h:k<cap) (hn:n≤cap) (hk:k≤n):sliceA T 32 (.sref b o n cap) (some (.int .i64 (k:Nat))) none none=some (.sref b (o+k) (n - k) (cap - k)):=by
 have h1:(0:Int)≤(k:Nat)∧((k:Nat):Int)≤(n:Nat):=by omega
 have:sliceA T 32 (.sref b o n cap) (some (.int .i64 (k:Nat))) none none=if cap<n then none else (Go.Av.bnd none n cap).bind fun h=>(Go.Av.bnd (some (.int .i64 (k:Nat))) 0 h).bind fun l=>if cap≤l then none else some (.sref b (o+l * 1) (h - l) (cap - l)):=rfl
 rw [this,if_neg (by omega)]
 simp only [Go.Av.bnd,qT]
 rw [if_pos h1]
 simp only [qT,qO,yL]
 rw [if_neg (by omega)]
theorem slr_hi {b o n cap k:Nat} (hc:0<cap) (hn:n≤cap) (hk:k≤cap):sliceA T 32 (.sref b o n cap) none (some (.int .i64 (k:Nat))) none=some (.sref b o k cap):=by
 have h1:(0:Int)≤(k:Nat)∧((k:Nat):Int)≤(cap:Nat):=by omega
 have:sliceA T 32 (.sref b o n cap) none (some (.int .i64 (k:Nat))) none=if cap<n then none else (Go.Av.bnd (some (.int .i64 (k:Nat))) n cap).bind fun h=>(Go.Av.bnd none 0 h).bind fun l=>if cap≤l then none else some (.sref b (o+l * 1) (h - l) (cap - l)):=rfl
 rw [this,if_neg (by omega)]
 simp only [Go.Av.bnd]
 rw [if_pos h1]
 simp only [qT,qO,Nat.zero_mul,Nat.add_zero,Nat.sub_zero]
 rw [if_neg (by omega)]
theorem repeat_pc (x:Int) (n:Nat) (h0:0<n) (h:n≤1000000):PC Tryz.prog 150 [.slice [.int .i64 x] 1 .unk,.int .i64 n] (.alloc (.cells (ints (List.replicate n x))) fun i=>.sref i 0 n n):=by
 refine PC.of_alloc (AC.run (E_ok _) mix Tryz.func150 m150 rfl rfl rfl (zE rfl) ?_) (by simp [bndL,AV.bnd]) (by simp)
 have a1:¬ ((n:Int)<0):=by omega
 simp only [go_sem,a1,decide_false,AV.ofVal,AV.atom,zAa,convA,zB,zD,zC,reduceIte,reduceCtorEq,zA]
 have w1:IntKind.u64.wrap ((1:Nat):Int)=1:=rfl
 have w2:IntKind.u64.wrap (n:Int)=n:=wrapu (by omega) (by omega)
 simp only [go_sem,zAa,convA,w1,w2,zB,zD,zC,reduceIte,reduceCtorEq,zA]
 refine cp n175 (mul_pc n (by omega) (by omega)) (SubL.refl _) ?_
 have a2:¬ ((n:Int) > 9223372036854775807):=by omega
 have z0:decide ((0:Int) > 0)=false:=rfl
 have a3:IntKind.i64.wrap (n:Int)=n:=wrap64 (by omega)
 simp only [go_sem,z0,a2,decide_false,zAa,convA,zAc,a3,zB,zD,zC,reduceIte,reduceCtorEq,zA]
 rw [mk22 (by omega)]
 simp only [go_sem,zAa,zB,zD,zC,reduceIte,reduceCtorEq,zA]
 rw [copy22 (l:=List.replicate n 0) (m:=[x]) rfl rfl (by simp;omega) (by simp;omega)]
 have e1:(List.replicate n (0:Int)).take 0 ++ [x].take (min [x].length n) ++ (List.replicate n 0).drop (0+min [x].length n)=List.replicate 1 x ++ List.replicate (n - 1) 0:=by
  have:min 1 n=1:=by omega
  simp [this]
 have e2:min [x].length n=1:=by simp;omega
 rw [e1,e2]
 simp only [go_sem,zB,zD,zC,reduceIte,reduceCtorEq,zA]
 refine zAu (fun r ts S => ∃ k,0<k∧k≤n∧r=n - k∧ts=[(7,.sref 0 0 n n),(8,.int .i64 (k:Nat))]∧S=⟨[some (.cells (ints (List.replicate k x ++ List.replicate (n - k) 0)))],0,[]⟩) (n - 1) ⟨1,by omega,by omega,rfl,rfl,rfl⟩ ?_
 rintro r ts S ⟨k,k0,kn,rfl,rfl,rfl⟩
 by_cases hk:k<n
 ·have hk':(k:Int)<n:=by omega
  simp only [go_sem,l150_0,zAa,hk',decide_true,zB,zD,zC,reduceIte,reduceCtorEq,zA]
  rw [slr_lo hk (zM _) kn]
  simp only [go_sem,zAa,zB,zD,zC,reduceIte,reduceCtorEq,zA]
  rw [slr_hi h0 (zM _) kn]
  simp only [go_sem,zAa,zB,zD,zC,reduceIte,reduceCtorEq,zA]
  rw [copy22 (l:=List.replicate k x ++ List.replicate (n - k) 0) (m:=List.replicate k x) rfl (by
   simp only [heldA,List.getElem?_cons_zero]
   rw [if_pos (by simp)]
   simp [ints]) (by simp;omega) (by simp;omega)]
  have e3:min (List.replicate k x).length (n - k)=min k (n - k):=by simp
  have e4:(List.replicate k x ++ List.replicate (n - k) (0:Int)).take k ++ (List.replicate k x).take (min k (n - k)) ++ (List.replicate k x ++ List.replicate (n - k) 0).drop (k+min k (n - k))=List.replicate (k+min k (n - k)) x ++ List.replicate (n - (k+min k (n - k))) 0:=by
   rw [List.take_append_of_le_length (by simp),List.take_of_length_le (by simp),List.take_replicate,List.drop_append,List.drop_of_length_le (by simp)]
   simp only [List.length_replicate,yB,List.drop_replicate]
   rw [List.replicate_append_replicate]
   congr 2 <;> omega
  have e5:IntKind.i64.wrap ((k:Int)+((min k (n - k):Nat):Int))=((k+min k (n - k):Nat):Int):=by
   rw [wrap64 (by omega)];omega
  rw [e3,e4]
  simp only [go_sem,e5,zB,zD,zC,reduceIte,reduceCtorEq,zA]
  exact zAj (n - (k+min k (n - k))) (by omega) ⟨k+min k (n - k),by omega,by omega,rfl,rfl,rfl⟩
 ·have hk':¬ (k:Int)<n:=by omega
  have:k=n:=by omega
  subst this
  simp only [go_sem,l150_0,zAa,hk',decide_false,Tryz.f150,zB,zD,zC,reduceIte,reduceCtorEq,zA]
  exact ⟨0,rfl,by simp⟩
theorem index_pc (l:List Int) (hl:okL l.length) (v:Int):PC Tryz.prog 178 [sl l,.int .i64 v] (.pure (.int .i64 (idx (fun x=>decide (v=x)) l))):=by
 refine PC.of_empty (AC.run (E_ok _) mix Tryz.func178 m178 rfl rfl rfl (zE rfl) ?_) (by simp [bndL,AV.bnd]) rfl
 simp only [go_sem,zAa,zB,zD,zC,reduceIte,reduceCtorEq,zA]
 refine zBi l.length (fun k => ∀ i (hi:i<k) (hil:i<l.length),decide (v=l[i])=false) (fun k=>[(0,sl l),(1,.int .i64 v),(7,.int .i64 l.length),(8,.int .i64 k)]) (fun _=>St.empty) (fun i hi=>absurd hi (qU _)) rfl rfl ?_
 intro k hk hP I hI
 by_cases h:k<l.length
 ·have h':(k:Int)<l.length:=by omega
  have h2:0≤(k:Int)∧(k:Int)<l.length:=by omega
  have h3:l[k]? = some l[k]:=zF h
  have h4:IntKind.i64.wrap ((k:Int)+1)=(k+1:Nat):=wrap64 (by omega)
  simp only [go_sem,l178_0,h',decide_true,zB,zD,zC,reduceIte,reduceCtorEq,zA]
  by_cases hb:v=l[k]
  ·simp only [go_sem,h2,zAi,yL,and_self,ints_get,h3,Tryz.f178,zB,zD,zC,reduceIte,reduceCtorEq,zA]
   refine sb_dec (fun _ => ?_) (fun hn=>absurd hb hn)
   simp only [go_sem,Tryz.f178,zB,zD,zC,reduceIte,reduceCtorEq,zA]
   rw [idx_at h (by simpa using hb) (fun i hi=>hP i hi (by omega))]
  ·simp only [go_sem,h2,zAi,yL,and_self,ints_get,h3,zB,zD,zC,reduceIte,reduceCtorEq,zA]
   refine sb_dec (fun hn=>absurd hn hb) (fun _ => ?_)
   simp only [go_sem,h4,zB,zD,zC,reduceIte,reduceCtorEq,zA]
   refine hI h fun i hi hil => ?_
   by_cases e:i=k
   ·subst e;simpa using hb
   ·exact hP i (by omega) hil
 ·have h':¬ (k:Int)<l.length:=by omega
  simp only [go_sem,l178_0,h',decide_false,Tryz.f178,zB,zD,zC,reduceIte,reduceCtorEq,zA]
  rw [zDs fun i hi=>hP i (by omega) hi]
theorem any_eq (l:List Int) (v:Int):l.any (fun x=>decide (v=x))=l.contains v:=by
 induction l with
 | nil=>rfl
 | cons x l ih=>rw [List.any_cons,List.contains_cons,ih];rfl
theorem contains_pc (l:List Int) (hl:okL l.length) (v:Int):PC Tryz.prog 160 [sl l,.int .i64 v] (.pure (.bool (l.contains v))):=by
 refine PC.of_empty (AC.run (E_ok _) mix Tryz.func160 m160 rfl rfl rfl (zE rfl) ?_) (by simp [bndL,AV.bnd]) rfl
 simp only [go_sem,zB,zD,zC,reduceIte,reduceCtorEq,zA]
 refine cp n178 (index_pc l hl v) (SubL.refl _) ?_
 simp only [go_sem,Tryz.f160,zCg,any_eq,zB,zD,zC,reduceIte,reduceCtorEq,zA]
def bndTS (n k:Nat):TS→Bool
 | []=>true
 | (_,v) :: l=>v.bnd n k && bndTS n k l
theorem bndTS_get {n k:Nat}:∀ {ts:TS} {d:Nat} {v:AV},bndTS n k ts=true→ts.get d=some v→v.bnd n k=true
 | [],d,v,_,h=>by simp [TS.get] at h
 | (a,u) :: ts,d,v,hb,h=>by
  simp only [bndTS,zT] at hb
  simp only [TS.get] at h
  split at h
  ·simp only [yT] at h;subst h;exact hb.1
  ·exact bndTS_get hb.2 h
structure Neat (base bt:Nat) (ts:TS) (S:St):Prop where
 base:base≤S.heap.length
 bt:bt≤S.nt
 ts:bndTS S.heap.length S.nt ts=true
 heap:∀ (i:Nat) (B:Blk),S.heap[i]? = some (some B)→B.bnd S.heap.length S.nt=true
 toks:∀ t∈S.toks,t<S.nt
theorem zCs {T:Tab} {S:St} {t e:TypeId} {ei:TI} {l lx:List AV} {n nx:Nat} {tl:Tail} {x:AV} (h1:descOf T t=some (.slice e)) (h2:T e=some ei) (h3:ei.size≠0) (h4:heldA S ei.size x=some (lx,nx)) (h5:nx≠0) (h6:lx.all AV.one=true)
  (h7:(n+nx) * ei.bytes≤1099511627776) (h8:n+nx≤1099511627776) (h9:l.length=n * ei.size) :
  appendA T S t (.slice l n tl) x=(match tl with
   | .exact=>some (.tok none (fun j=>.slice (l ++ lx) (n+nx) (.tok j)))
   | .tok k=>some (.tok (some k) (fun j=>.slice (l ++ lx) (n+nx) (.tok j)))
   | .unk=>none):=by
 unfold appendA
 simp only [h1,h2,h4,if_neg h3,if_neg h5,h6,zV,zS,if_false]
 rw [if_pos ⟨h7,h8,h9⟩]
 cases tl <;> rfl
structure Bound where
 a:Int
 b:Int
 most:Int
 deriving DecidableEq
abbrev bndC (c:Bound):List AV:=[.int .i64 c.a,.int .i64 c.b,.int .i64 c.most]
def bnds (l:List Bound):List AV:=l.flatMap bndC
@[simp] theorem bnds_len (l:List Bound):(bnds l).length=3 * l.length:=by
 induction l with
 | nil=>rfl
 | cons c l ih=>simp only [bnds,qW,qC] at ih ⊢;rw [ih];simp [bndC];omega
@[simp] theorem bnds_bnd (n k:Nat) (l:List Bound):bndL n k (bnds l)=true:=zBb _ (fun _=>rfl) l
theorem bnds_app (l l':List Bound):bnds l ++ bnds l'=bnds (l ++ l'):=by simp [bnds]
theorem bnds_one (l:List Bound):(bnds l).all AV.one=true:=by
 induction l with
 | nil=>rfl
 | cons c l ih=>simp only [bnds,qW,List.all_append] at ih ⊢;rw [ih];rfl
theorem bnds_at:∀ (l:List Bound) (k:Nat) (h:k<l.length),((bnds l).drop (k * 3)).take 3=bndC l[k]
 | c :: l,0,h=>by simp [bnds,bndC]
 | c :: l,k+1,h=>by
  have:=bnds_at l k (by simpa using h)
  rw [show (k+1) * 3=3+k * 3 by omega,← List.drop_drop]
  simpa [bnds,bndC] using this
@[go_sem] theorem bld191 (a b c:Int):buildA T 150 [(0,.int .i64 a),(1,.int .i64 b),(2,.int .i64 c)]=some (.agg [.int .i64 a,.int .i64 b,.int .i64 c]):=rfl
@[go_sem] theorem bs154_1 (a b c:Int):zAe T 138 1 [(0,.agg [.int .i64 a,.int .i64 b,.int .i64 c])]=some (.slice [.int .i64 a,.int .i64 b,.int .i64 c] 1 .exact):=rfl
@[go_sem] theorem bs154_2 (a b c d e f:Int):zAe T 138 2 [(0,.agg [.int .i64 a,.int .i64 b,.int .i64 c]),(1,.agg [.int .i64 d,.int .i64 e,.int .i64 f])]=some (.slice [.int .i64 a,.int .i64 b,.int .i64 c,.int .i64 d,.int .i64 e,.int .i64 f] 2 .exact):=rfl
@[go_sem] theorem bs22_1 (a:Int):zAe T 32 1 [(0,.int .i64 a)]=some (.slice [.int .i64 a] 1 .exact):=rfl
@[go_sem] theorem bs22_2 (a b:Int):zAe T 32 2 [(0,.int .i64 a),(1,.int .i64 b)]=some (.slice [.int .i64 a,.int .i64 b] 2 .exact):=rfl
def tailN:Nat→Tail
 | 0=>.exact
 | k+1=>.tok k
def toksN:Nat→List Nat
 | 0=>[]
 | k+1=>[k]
def w64 (n:Int):Int:=IntKind.i64.wrap n
def heapR (R:List (List Int)):List (Option Blk):=R.map fun r=>some (.cells (ints r))
@[simp] theorem heapR_len (R:List (List Int)):(heapR R).length=R.length:=by simp [heapR]
theorem heapR_get {R:List (List Int)} {g:List (Option Blk)} {i:Nat} (h:i<R.length):(heapR R ++ g)[i]? = some (some (.cells (ints R[i]))):=by
 rw [qJ (by simpa using h)]
 simp [heapR,h]
theorem setH_R {g:List (Option Blk)} {r:List Int}:∀ {R:List (List Int)} {i:Nat},i<R.length→setH (heapR R ++ g) i (.cells (ints r))=heapR (R.set i r) ++ g
 | [],i,h=>by simp at h
 | x :: R,0,h=>rfl
 | x :: R,i+1,h=>by
  have:=setH_R (g:=g) (r:=r) (R:=R) (i:=i) (by simpa using h)
  show _ :: setH (heapR R ++ g) i _=_
  rw [this];rfl
theorem zDt (l:List Int) (j:Nat) (v:Int):(ints l).set j (.int .i64 v)=ints (l.set j v):=by simp [ints,List.map_set]
theorem heapR_snoc (R:List (List Int)) (r:List Int):heapR R ++ [some (.cells (ints r))]=heapR (R ++ [r]):=by simp [heapR]
section
variable {E:Env} {K:TS→St→Prop} {n:Nat} {rest:List MO} {hs:List Bool} {b:St} {ts:TS} {S:St} (d:Option Nat) (args:Array Operand) (tys:Array TypeId)
@[go_sem] theorem y_min:preM E K (n+1) (⟨none,d,.call { callee:=.builtin .min,args:=args,argTypes:=tys }⟩ :: rest) [] b ts S=sq (fun v S'=>preM E K n rest [] b (setT ts d v) S') ⟨⟩ (astepO E.T b ts (.call { callee:=.builtin .min,args:=args,argTypes:=tys })) S:=zEm d .min args tys rfl
@[go_sem] theorem y_max:preM E K (n+1) (⟨none,d,.call { callee:=.builtin .max,args:=args,argTypes:=tys }⟩ :: rest) [] b ts S=sq (fun v S'=>preM E K n rest [] b (setT ts d v) S') ⟨⟩ (astepO E.T b ts (.call { callee:=.builtin .max,args:=args,argTypes:=tys })) S:=zEm d .max args tys rfl
@[go_sem] theorem y_len:preM E K (n+1) (⟨none,d,.call { callee:=.builtin .len,args:=args,argTypes:=tys }⟩ :: rest) [] b ts S=sq (fun v S'=>preM E K n rest [] b (setT ts d v) S') ⟨⟩ (astepO E.T b ts (.call { callee:=.builtin .len,args:=args,argTypes:=tys })) S:=zEm d .len args tys rfl
@[go_sem] theorem y_app:preM E K (n+1) (⟨none,d,.call { callee:=.builtin .append,args:=args,argTypes:=tys }⟩ :: rest) [] b ts S=sq (fun v S'=>preM E K n rest [] b (setT ts d v) S') ⟨⟩ (astepO E.T b ts (.call { callee:=.builtin .append,args:=args,argTypes:=tys })) S:=zEm d .append args tys rfl
end
end Go.Av.Fx
end
section
namespace Go.Fw
abbrev Mat:=List (List Int)
theorem pow_le {b:Int} (hb:1≤b) (m:Nat):∀ {n:Nat},m≤n→b ^ m≤b ^ n
 | n,h=>by
  induction n with
  | zero=>rw [Nat.le_zero.1 h];exact qZ _
  | succ n ih =>
   by_cases e:m=n+1
   ·rw [e];exact qZ _
   ·have h1:=ih (by omega)
    rw [Int.pow_succ]
    have h2:b ^ n * 1≤b ^ n * b:=Int.mul_le_mul_of_nonneg_left hb (Int.le_of_lt (Int.pow_pos (by omega)))
    rw [Int.mul_one] at h2
    exact yQ h1 h2
def ent (W:Mat) (a b:Nat):Int:=(W.getD a []).getD b 0
def put (W:Mat) (a b:Nat) (v:Int):Mat:=W.set a ((W.getD a []).set b v)
def Sq (n:Nat) (W:Mat):Prop:=W.length=n ∧ ∀ (i:Nat) (r:List Int),W[i]? = some r→r.length=n
theorem Sq.set {n:Nat} {R:Mat} (h:Sq n R) (i:Nat) {r:List Int} (hr:i<n→r.length=n):Sq n (R.set i r):=by
 refine ⟨by simp [h.1],fun j x hx => ?_⟩
 rw [yC] at hx
 split at hx
 ·split at hx
  ·cases hx;exact hr (by rw [← h.1];assumption)
  ·cases hx
 ·exact h.2 j x hx
theorem Sq.getD {n:Nat} {R:Mat} (h:Sq n R) {i:Nat} (hi:i<n):(R.getD i []).length=n:=by
 have hl:i<R.length:=by rw [h.1];exact hi
 rw [zG,zF hl]
 exact h.2 i _ (zF hl)
theorem Sq.put {n:Nat} {W:Mat} (h:Sq n W) (a b:Nat) (v:Int):Sq n (put W a b v):=
 h.set a fun ha=>by rw [List.length_set];exact h.getD ha
theorem ent_put {n:Nat} {W:Mat} (h:Sq n W) {a b:Nat} (ha:a<n) (hb:b<n) (v:Int) (i j:Nat) :
  ent (Fw.put W a b v) i j=if i=a∧j=b then v else ent W i j:=by
 unfold ent Fw.put
 have hl:a<W.length:=by rw [h.1];exact ha
 by_cases hi:i=a
 ·subst hi
  have e:(W.set i ((W.getD i []).set b v)).getD i []=(W.getD i []).set b v:=by
   rw [zG,List.getElem?_set_self hl];rfl
  rw [e]
  have hlen:=h.getD ha
  by_cases hj:j=b
  ·subst hj
   rw [if_pos ⟨rfl,rfl⟩,zG,List.getElem?_set_self (by rw [hlen];exact hb)];rfl
  ·rw [if_neg (fun x=>hj x.2),zG,List.getElem?_set_ne (fun x=>hj x.symm),← zG]
 ·rw [if_neg (fun x=>hi x.1)]
  have e:(W.set a ((W.getD a []).set b v)).getD i []=W.getD i []:=by
   rw [zG,List.getElem?_set_ne (fun x=>hi x.symm),← zG]
  rw [e]
def upd (far:Int) (c a:Nat) (W:Mat) (b:Nat):Mat:=
 if ent W a c<far∧ent W c b<far then put W a b (min (ent W a b) (ent W a c+ent W c b)) else W
def row (far:Int) (n c:Nat) (W:Mat) (a:Nat):Mat:=(List.range n).foldl (upd far c a) W
def stage (far:Int) (n:Nat) (W:Mat) (c:Nat):Mat:=(List.range n).foldl (row far n c) W
def upto (far:Int) (n k:Nat) (W:Mat):Mat:=(List.range k).foldl (stage far n) W
theorem fold_ind {α:Type} (P:Nat→α→Prop) (f:α→Nat→α) (z:α):∀ (n:Nat),P 0 z→(∀ k,k<n → ∀ w,P k w→P (k+1) (f w k))→P n ((List.range n).foldl f z)
 | 0,h0,_=>h0
 | n+1,h0,hs=>by
  rw [yN,List.foldl_append]
  exact hs n (Nat.lt_succ_self n) _ (fold_ind P f z n h0 fun k hk=>hs k (Nat.lt_succ_of_lt hk))
theorem fold_succ {α:Type} (f:α→Nat→α) (z:α) (n:Nat):(List.range (n+1)).foldl f z=f ((List.range n).foldl f z) n:=by
 rw [yN,List.foldl_append];rfl
theorem Sq.upd {n:Nat} {W:Mat} (h:Sq n W) (far:Int) (c a b:Nat):Sq n (upd far c a W b):=by
 unfold Fw.upd;split
 ·exact h.put _ _ _
 ·exact h
theorem Sq.row {n:Nat} {W:Mat} (h:Sq n W) (far:Int) (m c a:Nat):Sq n (row far m c W a):=
 fold_ind (fun _ w=>Sq n w) _ _ _ h fun _ _ _ hw=>hw.upd _ _ _ _
theorem Sq.stage {n:Nat} {W:Mat} (h:Sq n W) (far:Int) (m c:Nat):Sq n (stage far m W c):=
 fold_ind (fun _ w=>Sq n w) _ _ _ h fun _ _ _ hw=>hw.row _ _ _ _
theorem Sq.upto {n:Nat} {W:Mat} (h:Sq n W) (far:Int) (m k:Nat):Sq n (upto far m k W):=
 fold_ind (fun _ w=>Sq n w) _ _ _ h fun _ _ _ hw=>hw.stage _ _ _
theorem ent_upd {n:Nat} {W:Mat} (h:Sq n W) {a b:Nat} (ha:a<n) (hb:b<n) (far:Int) (c i j:Nat) :
  ent (upd far c a W b) i j=if (i=a∧j=b)∧ent W a c<far∧ent W c b<far then min (ent W a b) (ent W a c+ent W c b) else ent W i j:=by
 unfold upd
 by_cases hg:ent W a c<far∧ent W c b<far
 ·rw [if_pos hg,ent_put h ha hb]
  by_cases hij:i=a∧j=b
  ·rw [if_pos hij,if_pos ⟨hij,hg⟩]
  ·rw [if_neg hij,if_neg (fun x=>hij x.1)]
 ·rw [if_neg hg,if_neg (fun x=>hg x.2)]
theorem upd_le {n:Nat} {W:Mat} (h:Sq n W) {a b:Nat} (ha:a<n) (hb:b<n) (far:Int) (c i j:Nat):ent (upd far c a W b) i j≤ent W i j:=by
 rw [ent_upd h ha hb]
 split
 ·rename_i hh
  obtain ⟨⟨rfl,rfl⟩,_⟩:=hh
  exact Int.min_le_left _ _
 ·exact qZ _
theorem row_le {n:Nat} {W:Mat} (h:Sq n W) {a:Nat} (ha:a<n) (far:Int) (c i j:Nat):ent (row far n c W a) i j≤ent W i j:=
 (fold_ind (fun _ w=>Sq n w∧ent w i j≤ent W i j) _ _ n ⟨h,qZ _⟩ fun k hk w hw=>⟨hw.1.upd _ _ _ _,yQ (upd_le hw.1 ha hk far c i j) hw.2⟩).2
theorem stage_le {n:Nat} {W:Mat} (h:Sq n W) (far:Int) (c i j:Nat):ent (stage far n W c) i j≤ent W i j:=
 (fold_ind (fun _ w=>Sq n w∧ent w i j≤ent W i j) _ _ n ⟨h,qZ _⟩ fun k hk w hw=>⟨hw.1.row _ _ _ _,yQ (row_le hw.1 hk far c i j) hw.2⟩).2
theorem upto_le {n:Nat} {W:Mat} (h:Sq n W) (far:Int) (k i j:Nat):ent (upto far n k W) i j≤ent W i j:=
 (fold_ind (fun _ w=>Sq n w∧ent w i j≤ent W i j) _ _ k ⟨h,qZ _⟩ fun k hk w hw=>⟨hw.1.stage _ _ _,yQ (stage_le hw.1 far k i j) hw.2⟩).2
theorem upto_mono {n:Nat} {W:Mat} (h:Sq n W) (far:Int) (k i j:Nat):∀ m,ent (upto far n (k+m) W) i j≤ent (upto far n k W) i j
 | 0=>qZ _
 | m+1=>by
  have e:upto far n (k+(m+1)) W=stage far n (upto far n (k+m) W) (k+m):=fold_succ _ _ _
  rw [e]
  exact yQ (stage_le (h.upto far n _) far _ i j) (upto_mono h far k i j m)
def step (far:Int) (c:Nat) (W:Mat) (i j:Nat):Int:=
 if ent W i c<far∧ent W c j<far then min (ent W i j) (ent W i c+ent W c j) else ent W i j
theorem step_col {far:Int} {c:Nat} {W:Mat} (h0:ent W c c=0) (i:Nat):step far c W i c=ent W i c:=by
 unfold step;rw [h0,Int.add_zero,Int.min_self];split <;> rfl
theorem step_row {far:Int} {c:Nat} {W:Mat} (h0:ent W c c=0) (j:Nat):step far c W c j=ent W c j:=by
 unfold step;rw [h0,Int.zero_add,Int.min_self];split <;> rfl
theorem row_ent {n:Nat} {W w:Mat} {far:Int} {c a:Nat} (hc:c<n) (ha:a<n) (h0:ent W c c=0) (hs:Sq n w)
  (hw:∀ i j,i<n→j<n→ent w i j=if i<a then step far c W i j else ent W i j) :
  ∀ i j,i<n→j<n→ent (row far n c w a) i j=if i<a+1 then step far c W i j else ent W i j:=by
 have key:=(fold_ind (fun b v=>Sq n v ∧ ∀ i j,i<n→j<n→ent v i j=if i<a∨(i=a∧j<b) then step far c W i j else ent W i j) (upd far c a) w n
  ⟨hs,fun i j hi hj=>by rw [hw i j hi hj];simp⟩ ?_).2
 ·intro i j hi hj
  have:=key i j hi hj
  unfold row
  rw [this]
  by_cases h:i<a+1
  ·rw [if_pos h,if_pos (by omega)]
  ·rw [if_neg h,if_neg (by omega)]
 ·rintro b hb v ⟨hv,he⟩
  refine ⟨hv.upd _ _ _ _,fun i j hi hj => ?_⟩
  have e1:ent v a c=ent W a c:=by
   rw [he a c ha hc,step_col h0];split <;> rfl
  have e2:ent v c b=ent W c b:=by
   rw [he c b hc hb,step_row h0];split <;> rfl
  have e3:ent v a b=ent W a b:=by
   rw [he a b ha hb,if_neg (by omega)]
  rw [ent_upd hv ha hb,e1,e2,e3]
  by_cases hij:i=a∧j=b
  ·obtain ⟨rfl,rfl⟩:=hij
   rw [if_pos (show i<i∨i=i∧j<j+1 by omega)]
   unfold step
   by_cases hg:ent W i c<far∧ent W c j<far
   ·rw [if_pos ⟨⟨rfl,rfl⟩,hg⟩,if_pos hg]
   ·rw [if_neg (fun x=>hg x.2),if_neg hg,e3]
  ·rw [if_neg (fun x=>hij x.1),he i j hi hj]
   by_cases h:i<a∨i=a∧j<b
   ·rw [if_pos h,if_pos (by omega)]
   ·rw [if_neg h,if_neg (by omega)]
theorem stage_ent {n:Nat} {W:Mat} {far:Int} {c:Nat} (hc:c<n) (h0:ent W c c=0) (hs:Sq n W) :
  ∀ i j,i<n→j<n→ent (stage far n W c) i j=step far c W i j:=by
 have key:=(fold_ind (fun a v=>Sq n v ∧ ∀ i j,i<n→j<n→ent v i j=if i<a then step far c W i j else ent W i j) (row far n c) W n
  ⟨hs,fun i j hi hj=>by simp⟩ ?_).2
 ·intro i j hi hj
  have:=key i j hi hj
  rw [if_pos hi] at this
  exact this
 ·rintro a ha v ⟨hv,he⟩
  exact ⟨hv.row _ _ _ _,row_ent hc ha h0 hv he⟩
structure Tri (far:Int) (n k:Nat) (U:Int) (W:Mat):Prop where
 small:∀ i j,i<n→j<n→ent W i j<far→ent W i j≤U
 tri:∀ c,c<k → ∀ i j,i<n→j<n→ent W i c<far→ent W c j<far→ent W i j≤ent W i c+ent W c j
theorem Tri.stage {far:Int} {n k:Nat} {U:Int} {W:Mat} (h:Tri far n k U W) (hs:Sq n W) (hk:k<n) (h0:∀ i,i<n→ent W i i=0)
  (hU:0≤U) (hf:2 * U<far):Tri far n (k+1) (2 * U) (stage far n W k):=by
 have he:=stage_ent (far:=far) hk (h0 k hk) hs
 refine ⟨fun i j hi hj hlt => ?_,fun c hc i j hi hj h1 h2 => ?_⟩
 ·rw [he i j hi hj] at hlt ⊢
  unfold step at hlt ⊢
  split
  ·rename_i hg
   have a1:=h.small i k hi hk hg.1
   have a2:=h.small k j hk hj hg.2
   have:=Int.min_le_right (ent W i j) (ent W i k+ent W k j)
   omega
  ·rename_i hg
   rw [if_neg hg] at hlt
   have:=h.small i j hi hj hlt
   omega
 ·have hcn:c<n:=by omega
  rw [he i c hi hcn] at h1 ⊢
  rw [he c j hcn hj] at h2 ⊢
  rw [he i j hi hj]
  by_cases hck:c=k
  ·subst hck
   rw [step_col (h0 c hcn)] at h1 ⊢
   rw [step_row (h0 c hcn)] at h2 ⊢
   unfold step
   rw [if_pos ⟨h1,h2⟩]
   exact Int.min_le_right _ _
  ·have hc':c<k:=by omega
   have t1:∀ i j,i<n→j<n→ent W i c<far→ent W c j<far→ent W i j≤ent W i c+ent W c j:=h.tri c hc'
   have hb:∀ i j,i<n→j<n→ent W i c<far→ent W c j<far→ent W i j<far:=fun i j hi hj x y=>by
    have:=t1 i j hi hj x y
    have:=h.small i c hi hcn x
    have:=h.small c j hcn hj y
    omega
   have sle:∀ i j,step far k W i j≤ent W i j:=fun i j=>by
    unfold step;split
    ·exact Int.min_le_left _ _
    ·exact qZ _
   have sle2:∀ i j,ent W i k<far→ent W k j<far→step far k W i j≤ent W i k+ent W k j:=fun i j x y=>by
    unfold step;rw [if_pos ⟨x,y⟩];exact Int.min_le_right _ _
   have cs:∀ i j,step far k W i j=ent W i j∨(ent W i k<far∧ent W k j<far∧step far k W i j=ent W i k+ent W k j):=fun i j=>by
    unfold step;split
    ·rename_i hg
     rcases Int.le_total (ent W i j) (ent W i k+ent W k j) with q | q
     ·left;exact Int.min_eq_left q
     ·right;exact ⟨hg.1,hg.2,Int.min_eq_right q⟩
    ·left;rfl
   rcases cs i c with e1 | ⟨f1,f2,e1⟩ <;> rcases cs c j with e2 | ⟨g1,g2,e2⟩
   ·rw [e1] at h1 ⊢;rw [e2] at h2 ⊢
    exact yQ (sle i j) (t1 i j hi hj h1 h2)
   ·rw [e1] at h1 ⊢;rw [e2]
    have:=t1 i k hi hk h1 g1
    have:=sle2 i j (hb i k hi hk h1 g1) g2
    omega
   ·rw [e2] at h2 ⊢;rw [e1]
    have:=t1 k j hk hj f2 h2
    have:=sle2 i j f1 (hb k j hk hj f2 h2)
    omega
   ·rw [e1,e2]
    have:=t1 k k hk hk f2 g1
    rw [h0 k hk] at this
    have:=sle2 i j f1 g2
    omega
theorem upto_tri {far:Int} {n:Nat} {U:Int} {W:Mat} (hs:Sq n W) (h0:∀ i,i<n→ent W i i=0) (hU:0≤U) (hf:2 ^ (n+1) * U<far)
  (hsm:∀ i j,i<n→j<n→ent W i j<far→ent W i j≤U) (hd:∀ i,i<n→0≤ent (upto far n n W) i i) :
  ∀ k,k≤n→Tri far n k (2 ^ k * U) (upto far n k W)
 | 0,_=>⟨fun i j hi hj h=>by
  have e:upto far n 0 W=W:=rfl
  rw [e] at h ⊢
  have:=hsm i j hi hj h
  simpa using this,fun c hc=>absurd hc (qU _)⟩
 | k+1,hk=>by
  have ih:=upto_tri hs h0 hU hf hsm hd k (by omega)
  have hz:∀ i,i<n→ent (upto far n k W) i i=0:=fun i hi=>by
   have a1:=upto_le hs far k i i
   rw [h0 i hi] at a1
   have a2:=upto_mono hs far k i i (n - k)
   rw [show k+(n - k)=n by omega] at a2
   have:=hd i hi
   omega
  have hp:(2:Int) ^ (k+1)≤2 ^ (n+1):=pow_le (by decide) _ (by omega)
  have hU':0≤2 ^ k * U:=yI (Int.le_of_lt (Int.pow_pos (by decide))) hU
  have h2:2 * (2 ^ k * U)=2 ^ (k+1) * U:=by rw [Int.pow_succ,Int.mul_comm (2 ^ k) 2,qV]
  have:=ih.stage (hs.upto far n k) (by omega) hz hU' (by
   rw [h2]
   exact Int.lt_of_le_of_lt (qQ hp hU) hf)
  rw [h2] at this
  have e:upto far n (k+1) W=Fw.stage far n (upto far n k W) k:=fold_succ _ _ _
  rw [e];exact this
def Obeys (far:Int) (n:Nat) (W:Mat) (x:Nat→Int):Prop:=∀ i j,i<n→j<n→ent W i j<far→x j - x i≤ent W i j
theorem Obeys.upd {far:Int} {n:Nat} {W:Mat} {x:Nat→Int} (h:Obeys far n W x) (hs:Sq n W) {a b c:Nat} (ha:a<n) (hb:b<n) (hc:c<n):Obeys far n (upd far c a W b) x:=by
 intro i j hi hj hlt
 rw [ent_upd hs ha hb] at hlt ⊢
 split
 ·rename_i hg
  rw [if_pos hg] at hlt
  obtain ⟨⟨rfl,rfl⟩,g1,g2⟩:=hg
  have a1:=h i c hi hc g1
  have a2:=h c j hc hj g2
  rcases Int.le_total (ent W i j) (ent W i c+ent W c j) with q | q
  ·rw [Int.min_eq_left q] at hlt ⊢;exact h i j hi hj hlt
  ·rw [Int.min_eq_right q];omega
 ·rename_i hg
  rw [if_neg hg] at hlt
  exact h i j hi hj hlt
theorem Obeys.upto {far:Int} {n:Nat} {W:Mat} {x:Nat→Int} (h:Obeys far n W x) (hs:Sq n W) {k:Nat} (hk:k≤n):Obeys far n (upto far n k W) x:=
 (fold_ind (fun _ w=>Sq n w∧Obeys far n w x) _ _ k ⟨hs,h⟩ fun c hc w hw=>fold_ind (fun _ w=>Sq n w∧Obeys far n w x) _ _ n hw fun a ha w hw =>
  fold_ind (fun _ w=>Sq n w∧Obeys far n w x) _ _ n hw fun b hb w hw=>⟨hw.1.upd _ _ _ _,hw.2.upd hw.1 ha hb (by omega)⟩).2
structure Low (n c a:Nat) (X:Int) (W:Mat):Prop where
 all:∀ i j,i<n→j<n → -(7 * X)≤ent W i j
 new:∀ i j,a≤i→i<n→j<n → -X≤ent W i j
 own:∀ j,j<n → -(3 * X)≤ent W c j
structure LowIn (n c a b:Nat) (X:Int) (W:Mat):Prop where
 all:∀ i j,i<n→j<n → -(7 * X)≤ent W i j
 new:∀ i j,a+1≤i→i<n→j<n → -X≤ent W i j
 own:∀ j,j<n → -(3 * X)≤ent W c j
 here:∀ j,b≤j→j<n → -X≤ent W a j
 col:-(4 * X)≤ent W a c
 diag:a=c → -(2 * X)≤ent W a c
theorem Low.to {n c a:Nat} {X:Int} {W:Mat} (h:Low n c a X W) (hX:0≤X) (ha:a<n) (hc:c<n):LowIn n c a 0 X W:=
 ⟨h.all,fun i j h1=>h.new i j (by omega),h.own,fun j _ hj=>h.new a j (zM _) ha hj,by have:=h.new a c (zM _) ha hc;omega,fun _=>by have:=h.new a c (zM _) ha hc;omega⟩
theorem LowIn.upd {n c a b:Nat} {X:Int} {W:Mat} (h:LowIn n c a b X W) (hX:0≤X) (hs:Sq n W) (ha:a<n) (hb:b<n) (hc:c<n) (far:Int):LowIn n c a (b+1) X (upd far c a W b):=by
 have e:=ent_upd hs ha hb far c
 have hv:-(7 * X)≤ent W a c+ent W c b:=by
  have:=h.col;have:=h.own b hb;omega
 have hv3:a=c → -(3 * X)≤ent W a c+ent W c b:=fun q=>by
  subst q
  have:=h.diag rfl;have:=h.here b (zM _) hb;omega
 have hvc:b=c → -(4 * X)≤ent W a c+ent W c b:=fun q=>by
  subst q
  have:=h.here b (zM _) hb;have:=h.own b hb;omega
 have hvd:a=c→b=c → -(2 * X)≤ent W a c+ent W c b:=fun q r=>by
  subst q;subst r
  have:=h.here b (zM _) hb;omega
 refine ⟨fun i j hi hj => ?_,fun i j h1 hi hj => ?_,fun j hj => ?_,fun j h1 hj => ?_, ?_,fun q => ?_⟩
 ·rw [e];split
  ·rename_i g;obtain ⟨⟨rfl,rfl⟩,_⟩:=g
   have:=h.all i j hi hj;omega
  ·exact h.all i j hi hj
 ·rw [e,if_neg (by omega)];exact h.new i j h1 hi hj
 ·rw [e];split
  ·rename_i g;obtain ⟨⟨q,rfl⟩,_⟩:=g
   have:=hv3 q.symm;have:=h.own j hj;subst q;omega
  ·exact h.own j hj
 ·rw [e,if_neg (by omega)];exact h.here j (by omega) hj
 ·rw [e];split
  ·rename_i g;obtain ⟨⟨_,q⟩,_⟩:=g
   have:=hvc q.symm;have:=h.col;subst q;omega
  ·exact h.col
 ·rw [e];split
  ·rename_i g;obtain ⟨⟨_,r⟩,_⟩:=g
   have:=hvd q r.symm;have:=h.diag q;subst r;omega
  ·exact h.diag q
theorem LowIn.back {n c a:Nat} {X:Int} {W:Mat} (h:LowIn n c a n X W):Low n c (a+1) X W:=⟨h.all,fun i j h1=>h.new i j h1,h.own⟩
theorem Low.start {n:Nat} {X:Int} {W:Mat} (hX:0≤X) (h:∀ i j,i<n→j<n → -X≤ent W i j) {c:Nat} (hc:c<n):Low n c 0 X W:=
 ⟨fun i j hi hj=>by have:=h i j hi hj;omega,fun i j _ hi hj=>h i j hi hj,fun j hj=>by have:=h c j hc hj;omega⟩
theorem lowIn_at {n c a:Nat} {X:Int} {W:Mat} (hX:0≤X) (hs:Sq n W) (ha:a<n) (hc:c<n) (far:Int) (h:LowIn n c a 0 X W):∀ b,b≤n→LowIn n c a b X ((List.range b).foldl (upd far c a) W)
 | 0,_=>h
 | b+1,hb=>by
  rw [fold_succ]
  exact (lowIn_at hX hs ha hc far h b (by omega)).upd hX (fold_ind (fun _ w=>Sq n w) _ _ _ hs fun _ _ _ hw=>hw.upd _ _ _ _) ha (by omega) hc far
theorem low_at {n c:Nat} {X:Int} {W:Mat} (hX:0≤X) (hs:Sq n W) (hc:c<n) (far:Int) (h:∀ i j,i<n→j<n → -X≤ent W i j):∀ a,a≤n→Low n c a X ((List.range a).foldl (row far n c) W)
 | 0,_=>Low.start hX h hc
 | a+1,ha=>by
  rw [fold_succ]
  exact (lowIn_at hX (fold_ind (fun _ w=>Sq n w) _ _ _ hs fun _ _ _ hw=>hw.row _ _ _ _) (by omega) hc far ((low_at hX hs hc far h a (by omega)).to hX (by omega) hc) n (zM _)).back
theorem low_upto {n:Nat} {X:Int} {W:Mat} (hX:0≤X) (hs:Sq n W) (far:Int) (h:∀ i j,i<n→j<n → -X≤ent W i j):∀ k,k≤n → ∀ i j,i<n→j<n → -(7 ^ k * X)≤ent (upto far n k W) i j
 | 0,_=>fun i j hi hj=>by
  have e:upto far n 0 W=W:=rfl
  rw [e]
  have:=h i j hi hj
  simpa using this
 | k+1,hk=>fun i j hi hj=>by
  have hp:(0:Int)≤7 ^ k * X:=yI (Int.le_of_lt (Int.pow_pos (by decide))) hX
  have:=(low_at hp (hs.upto far n k) (show k<n by omega) far (low_upto hX hs far h k (by omega)) n (zM _)).all i j hi hj
  have e:upto far n (k+1) W=stage far n (upto far n k W) k:=fold_succ _ _ _
  rw [e,Int.pow_succ,Int.mul_comm (7 ^ k) 7,qV]
  exact this
theorem low_in {n:Nat} {X:Int} {W:Mat} (hX:0≤X) (hs:Sq n W) (far:Int) (h:∀ i j,i<n→j<n → -X≤ent W i j) {c a b:Nat} (hc:c<n) (ha:a<n) (hb:b≤n) :
  ∀ i j,i<n→j<n → -(7 ^ n * X)≤ent ((List.range b).foldl (upd far c a) ((List.range a).foldl (row far n c) (upto far n c W))) i j:=by
 intro i j hi hj
 have hp:(0:Int)≤7 ^ c * X:=yI (Int.le_of_lt (Int.pow_pos (by decide))) hX
 have hq:=hs.upto far n c
 have:=(lowIn_at hp (fold_ind (fun _ w=>Sq n w) _ _ _ hq fun _ _ _ hw=>hw.row _ _ _ _) ha hc far ((low_at hp hq hc far (low_upto hX hs far h c (by omega)) a (by omega)).to hp ha hc) b hb).all i j hi hj
 have hm:(7:Int) ^ (c+1)≤7 ^ n:=pow_le (by decide) _ (by omega)
 have hm':=qQ hm hX
 rw [Int.pow_succ,Int.mul_comm (7 ^ c) 7,qV] at hm'
 refine yQ ?_ this
 omega
theorem high_in {n:Nat} {W:Mat} (hs:Sq n W) (far:Int) {c a b:Nat} (ha:a≤n) (hb:b≤n) (i j:Nat) (hab:b=0∨a<n) :
  ent ((List.range b).foldl (upd far c a) ((List.range a).foldl (row far n c) (upto far n c W))) i j≤ent W i j:=by
 have h1:=upto_le hs far c i j
 have h2:=fold_ind (fun _ w=>Sq n w∧ent w i j≤ent W i j) (row far n c) (upto far n c W) a ⟨hs.upto far n c,h1⟩ fun k hk w hw=>⟨hw.1.row _ _ _ _,yQ (row_le hw.1 (by omega) far c i j) hw.2⟩
 exact (fold_ind (fun _ w=>Sq n w∧ent w i j≤ent W i j) (upd far c a) _ b h2 fun k hk w hw=>⟨hw.1.upd _ _ _ _,yQ (upd_le hw.1 (by omega) (by omega) far c i j) hw.2⟩).2
def closed (far:Int) (n:Nat) (W:Mat):Option Mat:=
 if (List.range n).all fun i=>decide (0≤ent (upto far n n W) i i) then some (upto far n n W) else none
theorem closed_none {far:Int} {n:Nat} {W:Mat} (hs:Sq n W) (hf:0<far) (h:closed far n W=none) (x:Nat→Int):¬ Obeys far n W x:=by
 intro hx
 unfold closed at h
 split at h
 ·cases h
 ·rename_i hn
  apply hn
  rw [yG]
  intro i hi
  have hi':=List.mem_range.1 hi
  rw [decide_eq_true_iff]
  have ho:=hx.upto hs (zM n)
  by_cases hlt:ent (upto far n n W) i i<far
  ·have:=ho i i hi' hi' hlt;omega
  ·omega
structure Closed (far:Int) (n:Nat) (W V:Mat):Prop where
 sq:Sq n V
 le:∀ i j,ent V i j≤ent W i j
 tri:∀ i k j,i<n→k<n→j<n→ent V i k<far→ent V k j<far→ent V i j≤ent V i k+ent V k j∧ent V i j<far
 diag:∀ i,i<n→ent V i i=0
 obeys:∀ x,Obeys far n W x→Obeys far n V x
theorem closed_some {far:Int} {n:Nat} {U:Int} {W V:Mat} (hs:Sq n W) (h0:∀ i,i<n→ent W i i=0) (hU:0≤U) (hf:2 ^ (n+1) * U<far)
  (hsm:∀ i j,i<n→j<n→ent W i j<far→ent W i j≤U) (h:closed far n W=some V):Closed far n W V:=by
 unfold closed at h
 split at h
 ·rename_i hall
  simp only [yT] at h
  subst h
  rw [yG] at hall
  have hd:∀ i,i<n→0≤ent (upto far n n W) i i:=fun i hi=>by simpa using hall i (List.mem_range.2 hi)
  have ht:=upto_tri hs h0 hU hf hsm hd n (zM _)
  refine ⟨hs.upto far n n,fun i j=>upto_le hs far n i j,fun i k j hi hk hj h1 h2 => ?_,fun i hi => ?_,fun x hx=>hx.upto hs (zM _)⟩
  ·have t:=ht.tri k hk i j hi hj h1 h2
   have s1:=ht.small i k hi hk h1
   have s2:=ht.small k j hk hj h2
   refine ⟨t, ?_⟩
   rw [Int.pow_succ,Int.mul_comm (2 ^ n) 2,qV] at hf
   omega
  ·have:=upto_le hs far n i i
   rw [h0 i hi] at this
   have:=hd i hi
   omega
 ·cases h
end Go.Fw
end

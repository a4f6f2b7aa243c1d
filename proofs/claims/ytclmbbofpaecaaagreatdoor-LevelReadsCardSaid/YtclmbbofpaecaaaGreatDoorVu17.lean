/- Part 17 of the proof. -/
import Derived.Test.YtclmbbofpaecaaaGreatDoorVu16
import Derived.Laws.Bits64
import Derived.Test.YtclmbbofpaecaaaGreatDoorVu1
import Derived.Test.YtclmbbofpaecaaaGreatDoorVu11
set_option linter.all false
set_option linter.unusedVariables false
set_option linter.unusedSimpArgs false
set_option linter.unusedSectionVars false
open Bool renaming and_eq_true → zR, false_eq_true → zU, not_true → zX, true_and → qU, false_and → qW
open Int renaming toNat_natCast → qQ, le_refl → yF, le_trans → yP
open List renaming getElem?_eq_getElem → zF, getD_eq_getElem?_getD → zI, all_cons → zK, all_nil → zM, mem_cons_self → zO, getElem?_eq_none → zP, mem_cons_of_mem → zQ, length_cons → zT, getElem_mem → qA, getElem?_append_right → qD, length_append → qE, take_succ_eq_append_getElem → qG, append_assoc → qK, getElem?_map → qN, getElem?_append_left → qO, map_append → qP, getElem?_range → qT, all_eq_true → qX, cons_append → yB, flatMap_cons → yD, getElem?_set → yG, getElem?_replicate → yH, nil_append → yJ, headD_cons → yM, take_of_length_le → yN, length_take → yQ, tail_cons → yS
open Nat renaming reduceLeDiff → zA, reduceEqDiff → zB, reduceAdd → zC, reduceBEq → zD, le_of_ble_eq_true → zE, le_refl → zN, lt_or_ge → zW, zero_le → qI, not_lt_zero → yC, mul_one → yO
open Option renaming bind_some → zY
open Option.some renaming injEq → yU
section
namespace Go.Av.Fx
open Go Go.Av Go.Av.Tb Go.Proofs
def lvM (t:TypeId) (name:String):Option FuncId:=
 if name = "quinaria/level.ends" then (if t=140 then some 238 else if t=161 then some 239 else if t=198 then some 240 else if t=200 then some 241 else none) else none
theorem lvM_ok:∀ t name f,lvM t name=some f → ∀ v w,(Go.method (Tryz.prog.types.size+Made.depth) t v name).run Tryz.prog w=Result.ok (f,v) w:=by
 intro t name f h v w
 unfold lvM at h
 split at h
 ·rename_i hn
  subst hn
  split at h
  ·rename_i ht;subst ht;cases h;kernel_rfl
  ·split at h
   ·rename_i ht;subst ht;cases h;kernel_rfl
   ·split at h
    ·rename_i ht;subst ht;cases h;kernel_rfl
    ·split at h
     ·rename_i ht;subst ht;cases h;kernel_rfl
     ·cases h
 ·cases h
noncomputable def E (n:Nat):Env:={ P:=Tryz.prog,T:=T,M:=lvM,N:=n,base:=0,bt:=0 }
theorem E_ok (n:Nat):(E n).Ok:=⟨T_ok,lvM_ok,fun _ _ _ _=>trivial,fun _ _ _ _ _ _ _ h=>False.elim h⟩
theorem mix:Tryz.prog.follows .mixedOrders=true:=by kernel_rfl
@[go_sem] theorem E_T (n:Nat):(E n).T=T:=rfl
@[go_sem] theorem E_P (n:Nat):(E n).P=Tryz.prog:=rfl
section
variable {n:Nat} {f:FuncId} {args args':List AV} {S:St} {K Kp:AV→St→Prop} {h1:Hold K} {h2:Hold Kp}
theorem cac {R:AEnd→St→Prop} (hf:Callable Tryz.prog f) (h:AC Tryz.prog f args S R) (k:∀ v S',R (.ret v) S'→K v S') (kp:∀ v S',R (.panic v) S'→Kp v S'):sc (E n) K Kp h1 h2 (some (f,args)) S:=zCe (E:=E n) hf h k kp
theorem cp {v:AV} (hf:Callable Tryz.prog f) (h:PC Tryz.prog f args' (.pure v)) (hs:SubL args args') (k:K v S):sc (E n) K Kp h1 h2 (some (f,args)) S:=zCd (E:=E n) hf h hs k
theorem ca {B:Blk} {mk:Nat→AV} (hf:Callable Tryz.prog f) (h:PC Tryz.prog f args' (.alloc B mk)) (hs:SubL args args') (k:K (mk S.heap.length) { S with heap:=S.heap ++ [some B] }):sc (E n) K Kp h1 h2 (some (f,args)) S:=call_alloc (E:=E n) hf h hs k
theorem cl {v:AV} (hf:Callable Tryz.prog f) (h:PC Tryz.prog f args' (.pure v)) (hl:LntL S.heap args args') (hv:v.flat=true) (k:K v S):sc (E n) K Kp h1 h2 (some (f,args)) S:=call_lend (E:=E n) hf h hl hv k
theorem qp {v:AV} (hf:Callable Tryz.prog f) (h:PC Tryz.prog f args' (.pure v)) (hs:SubL args args') (k:K v S):sqc (E n) K h1 (some (f,args)) S:=zBq (E:=E n) hf h hs k
end
section
variable {ts:TS}
@[go_sem] theorem e_slice:aeval ts (.const (.slice none 0 0))=some .nilS:=rfl
@[go_sem] theorem e_str (s:ByteArray):aeval ts (.const (.string s))=some (.str s):=rfl
@[go_sem] theorem e_nilp:aeval ts (.const (.pointer none))=some .nilp:=rfl
@[go_sem] theorem e_nilf:aeval ts (.const .nilFunc)=some .nilFunc:=rfl
@[go_sem] theorem e_nili:aeval ts (.const .nilIface)=some .nilIface:=rfl
@[go_sem] theorem e_nilm:aeval ts (.const (.map none))=some .nilMap:=rfl
end
def ints (l:List Int):List AV:=l.map (.int .i64)
abbrev sl (l:List Int):AV:=.slice (ints l) l.length .unk
@[simp] theorem zBa (l:List Int) (i:Nat):(ints l)[i]? = (l[i]?).map (.int .i64):=by simp [ints]
@[simp] theorem zCo (l:List Int):(ints l).length=l.length:=by simp [ints]
@[simp] theorem ints_bnd (n k:Nat) (l:List Int):bndL n k (ints l)=true:=bndL_map _ (fun _=>rfl) l
structure Cnt where
 point:Int
 low:Int
 high:Int
 deriving DecidableEq
structure LLine where
 gives:List Int
 least:Int
 most:Int
 taps:Int
 counts:List Cnt
 deriving DecidableEq
abbrev cntC (c:Cnt):List AV:=[.int .i64 c.point,.int .i64 c.low,.int .i64 c.high]
def cnts (l:List Cnt):List AV:=l.flatMap cntC
@[simp] theorem cnts_bnd (n k:Nat) (l:List Cnt):bndL n k (cnts l)=true:=zBd _ (fun _=>rfl) l
abbrev lineC (l:LLine):List AV:=[sl l.gives,.int .i64 l.least,.int .i64 l.most,.int .i64 l.taps,.slice (cnts l.counts) l.counts.length .unk]
attribute [go_sem] lineC cntC
@[go_sem] theorem add_zero_int (a:Int):a+0=a:=Int.add_zero a
theorem zAg (n:Nat):((n:Int)).toNat=n:=qQ n
theorem zDb {α β:Type} (f:α→β→α) (z:α) (l:List β) (k:Nat) (h:k<l.length):(l.take (k+1)).foldl f z=f ((l.take k).foldl f z) l[k]:=by
 rw [qG h,List.foldl_append];rfl
abbrev okL (n:Nat):Prop:=n<9223372036854775807
theorem in_pc (x lo hi:Int):PC Tryz.prog 100 [.int .i64 x,.int .i64 lo,.int .i64 hi] (.pure (.bool (decide (x ≥ lo) && decide (x≤hi)))):=by
 refine PC.of_empty (AC.run (E_ok 15) mix Tryz.func100 m100 rfl rfl rfl (zE rfl) ?_) rfl rfl
 simp only [go_sem,zB,zD,zC,reduceIte,reduceCtorEq,zA]
 refine sg_dec (fun h => ?_) (fun h => ?_)
 ·simp only [go_sem,h,decide_true,Tryz.f100,qU,zB,zD,zC,reduceIte,reduceCtorEq,zA]
 ·simp only [go_sem,h,decide_false,Tryz.f100,qW,zB,zD,zC,reduceIte,reduceCtorEq,zA]
def idx {α:Type} (p:α→Bool) (l:List α):Int:=match l.findIdx? p with
 | some i=>i
 | none => -1
theorem idx_at {α:Type} {p:α→Bool} {l:List α} {k:Nat} (h:k<l.length) (hp:p l[k]=true) (hn:∀ i (hi:i<k),p (l[i]'(by omega))=false):idx p l=k:=by
 have:l.findIdx? p=some k:=by
  rw [List.findIdx?_eq_some_iff_getElem]
  exact ⟨h,hp,fun j hj=>by simp [hn j hj]⟩
 unfold idx;rw [this]
theorem zEs {α:Type} {p:α→Bool} {l:List α} (hn:∀ i (hi:i<l.length),p l[i]=false):idx p l = -1:=by
 have:l.findIdx? p=none:=by
  rw [List.findIdx?_eq_none_iff]
  intro x hx
  obtain ⟨i,hi,rfl⟩:=List.mem_iff_getElem.1 hx
  exact hn i hi
 unfold idx;rw [this]
theorem zDc {α:Type} (p:α→Bool) (l:List α):decide (idx p l ≥ 0)=l.any p:=by
 unfold idx
 cases h:l.findIdx? p with
 | none =>
  rw [List.findIdx?_eq_none_iff] at h
  have:l.any p=false:=by simpa using h
  rw [this];rfl
 | some i =>
  rw [List.findIdx?_eq_some_iff_getElem] at h
  obtain ⟨hi,hp,_⟩:=h
  have:l.any p=true:=List.any_eq_true.2 ⟨l[i],qA hi,hp⟩
  rw [this];simp
attribute [go_sem] List.drop_zero List.take_succ_cons List.take_zero List.take_nil List.drop_succ_cons
def inB (n lo hi:Int):Bool:=decide (n ≥ lo) && decide (n≤hi)
def badCnt (l:LLine) (c:Cnt):Bool:=!inB c.point 0 l.gives.length || !inB c.low 0 400 || !inB c.high 0 400 || decide (c.low > c.high)
def isLineB (l:LLine):Bool:=inB l.gives.length 1 5 && decide ((l.counts.length:Int)≤8) && inB l.least 1 l.most && decide (l.most≤60) && inB l.taps 0 2 && !l.gives.any (fun n => !inB n 0 60) && !l.counts.any (badCnt l)
theorem Lnt.func1 {h:List (Option Blk)} {fn:Fn} {c c':AV} (hc:Lnt h c c'):Lnt h (.func fn [] [c]) (.func fn [] [c']):=
 .func fn [] [c] [] [c'] rfl (fun j x y e=>by simp at e) rfl (fun j x y e e'=>by
  cases j with
  | zero=>simp at e e';subst e;subst e';exact hc
  | succ j=>simp at e)
abbrev okLine (l:LLine):Prop:=okL l.gives.length∧okL l.counts.length
theorem and_mask {n:Int} (h:0≤n) (h':n<4294967296):intOp .and .u64 n 4294967295=some (.int .u64 n):=by
 have hb:IntKind.u64.bits=64:=rfl
 have h1:(BitVec.ofInt 64 n &&& BitVec.ofInt 64 4294967295).toNat=n.toNat:=by
  rw [BitVec.toNat_and]
  have a1:(BitVec.ofInt 64 n).toNat=n.toNat:=by
   rw [BitVec.toNat_ofInt];omega
  have a2:(BitVec.ofInt 64 4294967295).toNat=2 ^ 32 - 1:=by decide
  rw [a1,a2,Nat.and_two_pow_sub_one_eq_mod]
  omega
 have h2:IntKind.u64.wrap ((BitVec.ofInt 64 n &&& BitVec.ofInt 64 4294967295).toNat:Int)=n:=by
  rw [h1,IntKind.wrap_u64];omega
 show some (AV.int .u64 (IntKind.u64.wrap ((BitVec.ofInt 64 n &&& BitVec.ofInt 64 4294967295).toNat:Int)))=_
 rw [h2]
theorem shr_small {n:Int} (h:0≤n) (h':n<4294967296):intOp .shr .u64 n 32=some (.int .u64 0):=by
 have:n.fdiv (2 ^ (min (32:Int).toNat IntKind.u64.bits))=0:=by
  have e:(min (32:Int).toNat IntKind.u64.bits)=32:=rfl
  rw [e,Int.fdiv_eq_ediv_of_nonneg _ (by decide)]
  omega
 show (if (32:Int)<0 then none else some (AV.int .u64 (n.fdiv (2 ^ (min (32:Int).toNat IntKind.u64.bits)))))=_
 rw [this];rfl
theorem wrapu {n:Int} (h:0≤n) (h':n<18446744073709551616):IntKind.u64.wrap n=n:=by rw [IntKind.wrap_u64];omega
theorem mul64_pc (n:Int) (h:0≤n) (h':n<4294967296):PC Tryz.prog 188 [.int .u64 1,.int .u64 n] (.pure (.tuple [.int .u64 0,.int .u64 n])):=by
 refine PC.of_empty (AC.run (E_ok _) mix Tryz.func188 m188 rfl rfl rfl (zE rfl) ?_) rfl rfl
 have a1:=and_mask (n:=1) (by decide) (by decide)
 have a2:=and_mask h h'
 have a3:=and_mask (n:=0) (by decide) (by decide)
 have s1:=shr_small (n:=1) (by decide) (by decide)
 have s2:=shr_small h h'
 have s3:=shr_small (n:=0) (by decide) (by decide)
 have w1:IntKind.u64.wrap n=n:=wrapu h (by omega)
 have w2:IntKind.u64.wrap 0=0:=rfl
 have w3:IntKind.u64.wrap 1=1:=rfl
 simp only [go_sem,a1,a2,a3,s1,s2,s3,w1,w2,w3,Int.one_mul,Int.zero_mul,Int.mul_zero,Int.add_zero,Int.zero_add,Tryz.f188,zB,zD,zC,reduceIte,reduceCtorEq,zA]
theorem mul_pc (n:Int) (h:0≤n) (h':n<4294967296):PC Tryz.prog 175 [.int .u64 1,.int .u64 n] (.pure (.tuple [.int .u64 0,.int .u64 n])):=by
 refine PC.of_empty (AC.run (E_ok _) mix Tryz.func175 m175 rfl rfl rfl (zE rfl) ?_) rfl rfl
 simp only [go_sem,zB,zD,zC,reduceIte,reduceCtorEq,zA]
 refine cp n188 (mul64_pc n h h') (SubL.refl _) ?_
 simp only [go_sem,zAc,Tryz.f175,zB,zD,zC,reduceIte,reduceCtorEq,zA]
@[go_sem] theorem z_copy {E:Env} {K:TS→St→Prop} {n:Nat} {rest:List MO} {hs:List Bool} {b:St} {ts:TS} {S:St} (d:Option Nat) (args:Array Operand) (tys:Array TypeId) :
  preM E K (n+1) (⟨none,d,.call { callee:=.builtin .copy,args:=args,argTypes:=tys }⟩ :: rest) (false :: hs) b ts S=sr (fun v S'=>preM E K n rest hs S' (setT ts d v) S') ⟨⟩ (astepO E.T S ts (.call { callee:=.builtin .copy,args:=args,argTypes:=tys })) S:=by
 simp only [preM,guardM,QOp,yM,yS,zU,if_false,isW,if_true,sr]
 cases h2:astepO E.T S ts (.call { callee:=.builtin .copy,args:=args,argTypes:=tys }) <;> rfl
theorem splice_eq (l vs:List AV) (o:Nat) (h:o+vs.length≤l.length):splice l o vs=l.take o ++ vs ++ l.drop (o+vs.length):=by
 apply List.ext_getElem?
 intro j
 rw [get_splice vs l o h j]
 by_cases h1:j<o
 ·rw [if_neg (by omega),qK,qO (by simp;omega),List.getElem?_take,if_pos h1]
 ·by_cases h2:j<o+vs.length
  ·rw [if_pos (by omega),qK,qD (by simp;omega),qO (by simp;omega)]
   congr 1
   simp;omega
  ·rw [if_neg (by omega),qD (by simp;omega),List.getElem?_drop]
   congr 1
   simp;omega
theorem mk22 {k k':IntKind} {n:Nat} (h:n≤100000000):zCh T 32 (.int k n) (.int k' n)=some (.alloc (.cells (ints (List.replicate n 0))) fun i=>.sref i 0 n n):=by
 have h1:0≤(n:Int)∧(n:Int)≤n∧(n:Int)≤1099511627776∧(n:Int) * 8≤1099511627776∧(1:Nat)≠0:=by omega
 have h2:(List.range (n * 1)).map (fun j=>([.int .i64 0]:List AV).getD (j % 1) .undef)=ints (List.replicate n 0):=by
  apply List.ext_getElem?
  intro j
  simp only [yO,qN,ints,yH]
  by_cases hj:j<n
  ·rw [qT hj,if_pos hj];simp [Nat.mod_one]
  ·rw [zP (by simpa using hj),if_neg hj];rfl
 show (if 0≤(n:Int)∧(n:Int)≤n∧(n:Int)≤1099511627776∧(n:Int) * (8:Nat)≤1099511627776∧(1:Nat)≠0 then some (Res.alloc (.cells ((List.range ((n:Int).toNat * 1)).map fun j=>([.int .i64 0]:List AV).getD (j % 1) .undef)) (.sref · 0 (n:Int).toNat (n:Int).toNat)) else none)=_
 rw [if_pos (by simpa using h1),qQ,h2]
theorem copy22 {S:St} {b o n cap:Nat} {l m:List Int} {s:AV} (hb:S.heap[b]? = some (some (.cells (ints l)))) (hs:heldA S 1 s=some (ints m,m.length)) (h1:0<min m.length n) (h2:o+min m.length n≤l.length) :
  copyA T S 32 (.sref b o n cap) s=some (.write b (.cells (ints (l.take o ++ m.take (min m.length n) ++ l.drop (o+min m.length n)))) (.int .i64 (min m.length n:Nat))):=by
 have hall:((ints m).take (min m.length n)).all AV.one=true:=by
  rw [qX]
  intro x hx
  have:=List.mem_of_mem_take hx
  simp only [ints,List.mem_map] at this
  obtain ⟨y,_,rfl⟩:=this
  rfl
 have hc:(1:Nat)=1∧0<min m.length n∧o+min m.length n≤(ints l).length∧((ints m).take (min m.length n)).all AV.one=true:=⟨rfl,h1,by simpa using h2,hall⟩
 have:copyA T S 32 (.sref b o n cap) s=(match some ti3,heldA S 1 s,S.heap[b]? with
  | some ei,some (lx,nx),some (some (.cells l)) =>
   if ei.size=1∧0<min nx n∧o+min nx n≤l.length∧(lx.take (min nx n)).all AV.one then some (.write b (.cells (splice l o (lx.take (min nx n)))) (.int .i64 (min nx n:Nat))) else none
  | _,_,_=>none):=rfl
 rw [this,hs,hb]
 simp only
 rw [if_pos (by simpa [ti3] using hc),splice_eq _ _ _ (by simp;omega)]
 congr 3
 simp only [ints,qP,List.map_take,List.map_drop,yQ,List.length_map]
 congr 2
 omega
theorem slr_lo {b o n cap k:Nat} (h:k<cap) (hn:n≤cap) (hk:k≤n):sliceA T 32 (.sref b o n cap) (some (.int .i64 (k:Nat))) none none=some (.sref b (o+k) (n - k) (cap - k)):=by
 have h1:(0:Int)≤(k:Nat)∧((k:Nat):Int)≤(n:Nat):=by omega
 have:sliceA T 32 (.sref b o n cap) (some (.int .i64 (k:Nat))) none none=if cap<n then none else (Go.Av.bnd none n cap).bind fun h=>(Go.Av.bnd (some (.int .i64 (k:Nat))) 0 h).bind fun l=>if cap≤l then none else some (.sref b (o+l * 1) (h - l) (cap - l)):=rfl
 rw [this,if_neg (by omega)]
 simp only [Go.Av.bnd,zY]
 rw [if_pos h1]
 simp only [zY,qQ,yO]
 rw [if_neg (by omega)]
theorem slr_hi {b o n cap k:Nat} (hc:0<cap) (hn:n≤cap) (hk:k≤cap):sliceA T 32 (.sref b o n cap) none (some (.int .i64 (k:Nat))) none=some (.sref b o k cap):=by
 have h1:(0:Int)≤(k:Nat)∧((k:Nat):Int)≤(cap:Nat):=by omega
 have:sliceA T 32 (.sref b o n cap) none (some (.int .i64 (k:Nat))) none=if cap<n then none else (Go.Av.bnd (some (.int .i64 (k:Nat))) n cap).bind fun h=>(Go.Av.bnd none 0 h).bind fun l=>if cap≤l then none else some (.sref b (o+l * 1) (h - l) (cap - l)):=rfl
 rw [this,if_neg (by omega)]
 simp only [Go.Av.bnd]
 rw [if_pos h1]
 simp only [zY,qQ,Nat.zero_mul,Nat.add_zero,Nat.sub_zero]
 rw [if_neg (by omega)]
theorem repeat_pc (x:Int) (n:Nat) (h0:0<n) (h:n≤1000000):PC Tryz.prog 150 [.slice [.int .i64 x] 1 .unk,.int .i64 n] (.alloc (.cells (ints (List.replicate n x))) fun i=>.sref i 0 n n):=by
 refine PC.of_alloc (AC.run (E_ok _) mix Tryz.func150 m150 rfl rfl rfl (zE rfl) ?_) (by simp [bndL,AV.bnd]) (by simp)
 have a1:¬ ((n:Int)<0):=by omega
 simp only [go_sem,a1,decide_false,AV.ofVal,AV.atom,zAa,convA,zB,zD,zC,reduceIte,reduceCtorEq,zA]
 have w1:IntKind.u64.wrap ((1:Nat):Int)=1:=rfl
 have w2:IntKind.u64.wrap (n:Int)=n:=wrapu (by omega) (by omega)
 simp only [go_sem,zAa,convA,w1,w2,zB,zD,zC,reduceIte,reduceCtorEq,zA]
 refine cp n175 (mul_pc n (by omega) (by omega)) (SubL.refl _) ?_
 have a2:¬ ((n:Int) > 9223372036854775807):=by omega
 have z0:decide ((0:Int) > 0)=false:=rfl
 have a3:IntKind.i64.wrap (n:Int)=n:=wrap64 (by omega)
 simp only [go_sem,z0,a2,decide_false,zAa,convA,zAc,a3,zB,zD,zC,reduceIte,reduceCtorEq,zA]
 rw [mk22 (by omega)]
 simp only [go_sem,zAa,zB,zD,zC,reduceIte,reduceCtorEq,zA]
 rw [copy22 (l:=List.replicate n 0) (m:=[x]) rfl rfl (by simp;omega) (by simp;omega)]
 have e1:(List.replicate n (0:Int)).take 0 ++ [x].take (min [x].length n) ++ (List.replicate n 0).drop (0+min [x].length n)=List.replicate 1 x ++ List.replicate (n - 1) 0:=by
  have:min 1 n=1:=by omega
  simp [this]
 have e2:min [x].length n=1:=by simp;omega
 rw [e1,e2]
 simp only [go_sem,zB,zD,zC,reduceIte,reduceCtorEq,zA]
 refine zAs (fun r ts S => ∃ k,0<k∧k≤n∧r=n - k∧ts=[(7,.sref 0 0 n n),(8,.int .i64 (k:Nat))]∧S=⟨[some (.cells (ints (List.replicate k x ++ List.replicate (n - k) 0)))],0,[]⟩) (n - 1) ⟨1,by omega,by omega,rfl,rfl,rfl⟩ ?_
 rintro r ts S ⟨k,k0,kn,rfl,rfl,rfl⟩
 by_cases hk:k<n
 ·have hk':(k:Int)<n:=by omega
  simp only [go_sem,l150_0,zAa,hk',decide_true,zB,zD,zC,reduceIte,reduceCtorEq,zA]
  rw [slr_lo hk (zN _) kn]
  simp only [go_sem,zAa,zB,zD,zC,reduceIte,reduceCtorEq,zA]
  rw [slr_hi h0 (zN _) kn]
  simp only [go_sem,zAa,zB,zD,zC,reduceIte,reduceCtorEq,zA]
  rw [copy22 (l:=List.replicate k x ++ List.replicate (n - k) 0) (m:=List.replicate k x) rfl (by
   simp only [heldA,List.getElem?_cons_zero]
   rw [if_pos (by simp)]
   simp [ints]) (by simp;omega) (by simp;omega)]
  have e3:min (List.replicate k x).length (n - k)=min k (n - k):=by simp
  have e4:(List.replicate k x ++ List.replicate (n - k) (0:Int)).take k ++ (List.replicate k x).take (min k (n - k)) ++ (List.replicate k x ++ List.replicate (n - k) 0).drop (k+min k (n - k))=List.replicate (k+min k (n - k)) x ++ List.replicate (n - (k+min k (n - k))) 0:=by
   rw [List.take_append_of_le_length (by simp),yN (by simp),List.take_replicate,List.drop_append,List.drop_of_length_le (by simp)]
   simp only [List.length_replicate,yJ,List.drop_replicate]
   rw [List.replicate_append_replicate]
   congr 2 <;> omega
  have e5:IntKind.i64.wrap ((k:Int)+((min k (n - k):Nat):Int))=((k+min k (n - k):Nat):Int):=by
   rw [wrap64 (by omega)];omega
  rw [e3,e4]
  simp only [go_sem,e5,zB,zD,zC,reduceIte,reduceCtorEq,zA]
  exact zAh (n - (k+min k (n - k))) (by omega) ⟨k+min k (n - k),by omega,by omega,rfl,rfl,rfl⟩
 ·have hk':¬ (k:Int)<n:=by omega
  have:k=n:=by omega
  subst this
  simp only [go_sem,l150_0,zAa,hk',decide_false,Tryz.f150,zB,zD,zC,reduceIte,reduceCtorEq,zA]
  exact ⟨0,rfl,by simp⟩
theorem index_pc (l:List Int) (hl:okL l.length) (v:Int):PC Tryz.prog 178 [sl l,.int .i64 v] (.pure (.int .i64 (idx (fun x=>decide (v=x)) l))):=by
 refine PC.of_empty (AC.run (E_ok _) mix Tryz.func178 m178 rfl rfl rfl (zE rfl) ?_) (by simp [bndL,AV.bnd]) rfl
 simp only [go_sem,zAa,zB,zD,zC,reduceIte,reduceCtorEq,zA]
 refine zBj l.length (fun k => ∀ i (hi:i<k) (hil:i<l.length),decide (v=l[i])=false) (fun k=>[(0,sl l),(1,.int .i64 v),(7,.int .i64 l.length),(8,.int .i64 k)]) (fun _=>St.empty) (fun i hi=>absurd hi (yC _)) rfl rfl ?_
 intro k hk hP I hI
 by_cases h:k<l.length
 ·have h':(k:Int)<l.length:=by omega
  have h2:0≤(k:Int)∧(k:Int)<l.length:=by omega
  have h3:l[k]? = some l[k]:=zF h
  have h4:IntKind.i64.wrap ((k:Int)+1)=(k+1:Nat):=wrap64 (by omega)
  simp only [go_sem,l178_0,h',decide_true,zB,zD,zC,reduceIte,reduceCtorEq,zA]
  by_cases hb:v=l[k]
  ·simp only [go_sem,h2,zAg,yO,and_self,zBa,h3,Tryz.f178,zB,zD,zC,reduceIte,reduceCtorEq,zA]
   refine sb_dec (fun _ => ?_) (fun hn=>absurd hb hn)
   simp only [go_sem,Tryz.f178,zB,zD,zC,reduceIte,reduceCtorEq,zA]
   rw [idx_at h (by simpa using hb) (fun i hi=>hP i hi (by omega))]
  ·simp only [go_sem,h2,zAg,yO,and_self,zBa,h3,zB,zD,zC,reduceIte,reduceCtorEq,zA]
   refine sb_dec (fun hn=>absurd hn hb) (fun _ => ?_)
   simp only [go_sem,h4,zB,zD,zC,reduceIte,reduceCtorEq,zA]
   refine hI h fun i hi hil => ?_
   by_cases e:i=k
   ·subst e;simpa using hb
   ·exact hP i (by omega) hil
 ·have h':¬ (k:Int)<l.length:=by omega
  simp only [go_sem,l178_0,h',decide_false,Tryz.f178,zB,zD,zC,reduceIte,reduceCtorEq,zA]
  rw [zEs fun i hi=>hP i (by omega) hi]
theorem any_eq (l:List Int) (v:Int):l.any (fun x=>decide (v=x))=l.contains v:=by
 induction l with
 | nil=>rfl
 | cons x l ih=>rw [List.any_cons,List.contains_cons,ih];rfl
theorem contains_pc (l:List Int) (hl:okL l.length) (v:Int):PC Tryz.prog 160 [sl l,.int .i64 v] (.pure (.bool (l.contains v))):=by
 refine PC.of_empty (AC.run (E_ok _) mix Tryz.func160 m160 rfl rfl rfl (zE rfl) ?_) (by simp [bndL,AV.bnd]) rfl
 simp only [go_sem,zB,zD,zC,reduceIte,reduceCtorEq,zA]
 refine cp n178 (index_pc l hl v) (SubL.refl _) ?_
 simp only [go_sem,Tryz.f160,zDc,any_eq,zB,zD,zC,reduceIte,reduceCtorEq,zA]
def bndTS (n k:Nat):TS→Bool
 | []=>true
 | (_,v) :: l=>v.bnd n k && bndTS n k l
theorem bndTS_get {n k:Nat}:∀ {ts:TS} {d:Nat} {v:AV},bndTS n k ts=true→ts.get d=some v→v.bnd n k=true
 | [],d,v,_,h=>by simp [TS.get] at h
 | (a,u) :: ts,d,v,hb,h=>by
  simp only [bndTS,zR] at hb
  simp only [TS.get] at h
  split at h
  ·simp only [yU] at h;subst h;exact hb.1
  ·exact bndTS_get hb.2 h
structure Neat (base bt:Nat) (ts:TS) (S:St):Prop where
 base:base≤S.heap.length
 bt:bt≤S.nt
 ts:bndTS S.heap.length S.nt ts=true
 heap:∀ (i:Nat) (B:Blk),S.heap[i]? = some (some B)→B.bnd S.heap.length S.nt=true
 toks:∀ t∈S.toks,t<S.nt
theorem zCt {T:Tab} {S:St} {t e:TypeId} {ei:TI} {l lx:List AV} {n nx:Nat} {tl:Tail} {x:AV} (h1:descOf T t=some (.slice e)) (h2:T e=some ei) (h3:ei.size≠0) (h4:heldA S ei.size x=some (lx,nx)) (h5:nx≠0) (h6:lx.all AV.one=true)
  (h7:(n+nx) * ei.bytes≤1099511627776) (h8:n+nx≤1099511627776) (h9:l.length=n * ei.size) :
  appendA T S t (.slice l n tl) x=(match tl with
   | .exact=>some (.tok none (fun j=>.slice (l ++ lx) (n+nx) (.tok j)))
   | .tok k=>some (.tok (some k) (fun j=>.slice (l ++ lx) (n+nx) (.tok j)))
   | .unk=>none):=by
 unfold appendA
 simp only [h1,h2,h4,if_neg h3,if_neg h5,h6,zX,zU,if_false]
 rw [if_pos ⟨h7,h8,h9⟩]
 cases tl <;> rfl
structure Bound where
 a:Int
 b:Int
 most:Int
 deriving DecidableEq
abbrev bndC (c:Bound):List AV:=[.int .i64 c.a,.int .i64 c.b,.int .i64 c.most]
def bnds (l:List Bound):List AV:=l.flatMap bndC
@[simp] theorem bnds_len (l:List Bound):(bnds l).length=3 * l.length:=by
 induction l with
 | nil=>rfl
 | cons c l ih=>simp only [bnds,yD,qE] at ih ⊢;rw [ih];simp [bndC];omega
@[simp] theorem bnds_bnd (n k:Nat) (l:List Bound):bndL n k (bnds l)=true:=zBd _ (fun _=>rfl) l
theorem bnds_app (l l':List Bound):bnds l ++ bnds l'=bnds (l ++ l'):=by simp [bnds]
theorem bnds_one (l:List Bound):(bnds l).all AV.one=true:=by
 induction l with
 | nil=>rfl
 | cons c l ih=>simp only [bnds,yD,List.all_append] at ih ⊢;rw [ih];rfl
theorem bnds_at:∀ (l:List Bound) (k:Nat) (h:k<l.length),((bnds l).drop (k * 3)).take 3=bndC l[k]
 | c :: l,0,h=>by simp [bnds,bndC]
 | c :: l,k+1,h=>by
  have:=bnds_at l k (by simpa using h)
  rw [show (k+1) * 3=3+k * 3 by omega,← List.drop_drop]
  simpa [bnds,bndC] using this
@[go_sem] theorem bld191 (a b c:Int):buildA T 150 [(0,.int .i64 a),(1,.int .i64 b),(2,.int .i64 c)]=some (.agg [.int .i64 a,.int .i64 b,.int .i64 c]):=rfl
@[go_sem] theorem bs154_1 (a b c:Int):zAe T 138 1 [(0,.agg [.int .i64 a,.int .i64 b,.int .i64 c])]=some (.slice [.int .i64 a,.int .i64 b,.int .i64 c] 1 .exact):=rfl
@[go_sem] theorem bs154_2 (a b c d e f:Int):zAe T 138 2 [(0,.agg [.int .i64 a,.int .i64 b,.int .i64 c]),(1,.agg [.int .i64 d,.int .i64 e,.int .i64 f])]=some (.slice [.int .i64 a,.int .i64 b,.int .i64 c,.int .i64 d,.int .i64 e,.int .i64 f] 2 .exact):=rfl
@[go_sem] theorem bs22_1 (a:Int):zAe T 32 1 [(0,.int .i64 a)]=some (.slice [.int .i64 a] 1 .exact):=rfl
@[go_sem] theorem bs22_2 (a b:Int):zAe T 32 2 [(0,.int .i64 a),(1,.int .i64 b)]=some (.slice [.int .i64 a,.int .i64 b] 2 .exact):=rfl
def tailN:Nat→Tail
 | 0=>.exact
 | k+1=>.tok k
def toksN:Nat→List Nat
 | 0=>[]
 | k+1=>[k]
def w64 (n:Int):Int:=IntKind.i64.wrap n
def heapR (R:List (List Int)):List (Option Blk):=R.map fun r=>some (.cells (ints r))
@[simp] theorem heapR_len (R:List (List Int)):(heapR R).length=R.length:=by simp [heapR]
theorem heapR_get {R:List (List Int)} {g:List (Option Blk)} {i:Nat} (h:i<R.length):(heapR R ++ g)[i]? = some (some (.cells (ints R[i]))):=by
 rw [qO (by simpa using h)]
 simp [heapR,h]
theorem setH_R {g:List (Option Blk)} {r:List Int}:∀ {R:List (List Int)} {i:Nat},i<R.length→setH (heapR R ++ g) i (.cells (ints r))=heapR (R.set i r) ++ g
 | [],i,h=>by simp at h
 | x :: R,0,h=>rfl
 | x :: R,i+1,h=>by
  have:=setH_R (g:=g) (r:=r) (R:=R) (i:=i) (by simpa using h)
  show _ :: setH (heapR R ++ g) i _=_
  rw [this];rfl
theorem zDx (l:List Int) (j:Nat) (v:Int):(ints l).set j (.int .i64 v)=ints (l.set j v):=by simp [ints,List.map_set]
theorem heapR_snoc (R:List (List Int)) (r:List Int):heapR R ++ [some (.cells (ints r))]=heapR (R ++ [r]):=by simp [heapR]
section
variable {E:Env} {K:TS→St→Prop} {n:Nat} {rest:List MO} {hs:List Bool} {b:St} {ts:TS} {S:St} (d:Option Nat) (args:Array Operand) (tys:Array TypeId)
@[go_sem] theorem y_min:preM E K (n+1) (⟨none,d,.call { callee:=.builtin .min,args:=args,argTypes:=tys }⟩ :: rest) [] b ts S=sq (fun v S'=>preM E K n rest [] b (setT ts d v) S') ⟨⟩ (astepO E.T b ts (.call { callee:=.builtin .min,args:=args,argTypes:=tys })) S:=zEq d .min args tys rfl
@[go_sem] theorem y_max:preM E K (n+1) (⟨none,d,.call { callee:=.builtin .max,args:=args,argTypes:=tys }⟩ :: rest) [] b ts S=sq (fun v S'=>preM E K n rest [] b (setT ts d v) S') ⟨⟩ (astepO E.T b ts (.call { callee:=.builtin .max,args:=args,argTypes:=tys })) S:=zEq d .max args tys rfl
@[go_sem] theorem y_len:preM E K (n+1) (⟨none,d,.call { callee:=.builtin .len,args:=args,argTypes:=tys }⟩ :: rest) [] b ts S=sq (fun v S'=>preM E K n rest [] b (setT ts d v) S') ⟨⟩ (astepO E.T b ts (.call { callee:=.builtin .len,args:=args,argTypes:=tys })) S:=zEq d .len args tys rfl
@[go_sem] theorem y_app:preM E K (n+1) (⟨none,d,.call { callee:=.builtin .append,args:=args,argTypes:=tys }⟩ :: rest) [] b ts S=sq (fun v S'=>preM E K n rest [] b (setT ts d v) S') ⟨⟩ (astepO E.T b ts (.call { callee:=.builtin .append,args:=args,argTypes:=tys })) S:=zEq d .append args tys rfl
end
end Go.Av.Fx
end
section
namespace Go.Av.Fx
open Go Go.Av Go.Av.Tb Go.Proofs
open Go.Fw (Sq ent upd row stage upto closed)
def far:Int:=1099511627776
def row0 (n a:Nat):List Int:=(List.replicate n far).set a 0
def mat0 (n m:Nat):List (List Int):=(List.range m).map (row0 n)
def putB (R:List (List Int)) (x:Bound):List (List Int):=Fw.addc R ⟨x.a.toNat,x.b.toNat,x.most⟩
theorem sq_mat0 (n:Nat):Sq n (mat0 n n):=(Fw.Good.base (far:=far) (U:=0) (B:=0) (by decide) (yF _) (yF _)).sq
def bd (x:Bound):Fw.Bd:=⟨x.a.toNat,x.b.toNat,x.most⟩
def bsM (n:Nat) (bs:List Bound):Fw.Mat:=(bs.map bd).foldl Fw.addc (Fw.base far n)
theorem bsM_eq (n:Nat) (bs:List Bound):bs.foldl putB (mat0 n n)=bsM n bs:=by
 unfold bsM;rw [List.foldl_map];rfl
theorem bsM_low (n:Nat) (X:Int) (hX:0≤X) (bs:List Bound) (hin:∀ x∈bs,0≤x.a∧x.a<n∧0≤x.b∧x.b<n) (hm:∀ x∈bs,-X≤x.most):∀ i j,i<n→j<n → -X≤ent (bsM n bs) i j:=by
 unfold bsM
 have:∀ (bs:List Bound) (W:Fw.Mat),Sq n W→(∀ i j,i<n→j<n → -X≤ent W i j)→(∀ x∈bs,0≤x.a∧x.a<n∧0≤x.b∧x.b<n)→(∀ x∈bs,-X≤x.most) → ∀ i j,i<n→j<n → -X≤ent ((bs.map bd).foldl Fw.addc W) i j:=by
  intro bs
  induction bs with
  | nil=>exact fun W _ h _ _=>h
  | cons x bs ih =>
   intro W hW h h1 h2
   have hx:=h1 x zO
   refine ih _ (hW.put _ _ _) (fun i j hi hj => ?_) (fun y hy=>h1 y (zQ _ hy)) (fun y hy=>h2 y (zQ _ hy))
   rw [Fw.ent_addc hW (c:=bd x) (by show x.a.toNat<n;omega) (by show x.b.toNat<n;omega)]
   split
   ·have:=h _ _ (show (bd x).a<n by show x.a.toNat<n;omega) (show (bd x).b<n by show x.b.toNat<n;omega)
    have h3:-X≤(bd x).m:=h2 x zO
    omega
   ·exact h i j hi hj
 refine this bs _ (sq_mat0 n) (fun i j hi hj => ?_) hin hm
 rw [Fw.ent_base hi hj]
 split
 ·omega
 ·show -X≤1099511627776;omega
theorem bsM_high (n:Nat) (bs:List Bound) (hin:∀ x∈bs,0≤x.a∧x.a<n∧0≤x.b∧x.b<n) (i j:Nat) (hi:i<n) (hj:j<n):ent (bsM n bs) i j≤far:=by
 unfold bsM
 refine yP (Fw.fold_le (sq_mat0 n) (fun c hc => ?_) i j) ?_
 ·obtain ⟨x,hx,rfl⟩:=List.mem_map.1 hc
  have:=hin x hx
  exact ⟨by show x.a.toNat<n;omega,by show x.b.toNat<n;omega⟩
 ·rw [show mat0 n n=Fw.base far n from rfl,Fw.ent_base hi hj]
  split
  ·decide
  ·exact yF _
theorem zBf {n:Nat} {V:Fw.Mat} (h:Sq n V) {a b:Nat} (ha:a<n) (hb:b<n):(ints (V.getD a []))[b]? = some (.int .i64 (ent V a b)):=by
 rw [zBa]
 have:=h.getD ha
 unfold ent
 rw [zI (l:=V.getD a []),zF (by omega)];rfl
end Go.Av.Fx
end
section
namespace Go.Av.Fx
open Go Go.Av Go.Av.Tb Go.Proofs
open Go.Fw (Sq ent Bd)
structure Ln (l:LLine):Prop where
 pts:1≤l.gives.length∧l.gives.length≤5
 cts:l.counts.length≤8
 least:1≤l.least∧l.least≤l.most
 most:l.most≤60
 taps:0≤l.taps∧l.taps≤2
 gives:∀ g∈l.gives,0≤g∧g≤60
 counts:∀ c∈l.counts,(0≤c.point∧c.point≤l.gives.length)∧0≤c.low∧c.low≤c.high∧c.high≤400
theorem inB_iff {n lo hi:Int}:inB n lo hi=true↔lo≤n∧n≤hi:=by
 simp [inB]
theorem Ln.ok {l:LLine} (h:Ln l):okLine l:=by
 have:=h.pts;have:=h.cts;exact ⟨by show _<_;omega,by show _<_;omega⟩
def lowL (l:LLine) (set:List Int) (i:Nat):Int:=if set.contains (i:Int)=true then l.gives.getD i 0+l.least else l.gives.getD i 0
def highL (l:LLine) (set:List Int) (i:Nat):Int:=if set.contains (i:Int)=true then l.gives.getD i 0+l.most else l.gives.getD i 0
def lineB (l:LLine) (set:List Int) (b dry:Nat):List Bd:=
 ⟨dry,b,400⟩ :: ((List.range l.gives.length).flatMap (fun i=>[⟨b+i,b+i+1,-lowL l set i⟩,⟨b+i+1,b+i,highL l set i⟩]) ++
  (List.range (l.gives.length+1)).map (fun p=>⟨b+p,dry,0⟩) ++ l.counts.flatMap (fun c=>[⟨dry,b+c.point.toNat,c.high⟩,⟨b+c.point.toNat,dry,-c.low⟩]))
theorem Ln.give {l:LLine} (h:Ln l) (i:Nat):0≤l.gives.getD i 0∧l.gives.getD i 0≤60:=by
 rw [zI]
 cases hx:l.gives[i]? with
 | none=>simp
 | some g=>exact h.gives g (List.mem_of_getElem? hx)
theorem Ln.low {l:LLine} (h:Ln l) (set:List Int) (i:Nat):0≤lowL l set i∧lowL l set i≤highL l set i∧highL l set i≤120:=by
 have:=h.give i;have:=h.least;have:=h.most
 unfold lowL highL;split <;> omega
def closeC (n:Nat) (cs:List Bd):Option Fw.Mat:=Fw.closed far n (cs.foldl Fw.addc (Fw.base far n))
def explM (l:LLine) (set:List Int):Option Fw.Mat:=if (set.length:Int) > l.taps then none else closeC (l.gives.length+2) (lineB l set 0 (l.gives.length+1))
end Go.Av.Fx
end
section
namespace Go.Av.Fx
open Go Go.Av Go.Av.Tb Go.Proofs
open Go.Fw (Sq ent Bd Mat)
@[go_sem] theorem one_int (k:IntKind) (n:Int):AV.one (.int k n)=true:=rfl
@[go_sem] theorem one_bool (b:Bool):AV.one (.bool b)=true:=rfl
@[go_sem] theorem one_str (b:ByteArray):AV.one (.str b)=true:=rfl
@[go_sem] theorem one_slice (l:List AV) (n:Nat) (t:Tail):AV.one (.slice l n t)=true:=rfl
@[go_sem] theorem one_nilS:AV.one .nilS=true:=rfl
@[go_sem] theorem one_sref (i o n c:Nat):AV.one (.sref i o n c)=true:=rfl
@[go_sem] theorem one_ref (i o:Nat):AV.one (.ref i o)=true:=rfl
@[go_sem] theorem one_eptr (l:List AV) (o:Nat):AV.one (.eptr l o)=true:=rfl
@[go_sem] theorem one_func (f:Fn) (a b:List AV):AV.one (.func f a b)=true:=rfl
@[go_sem] theorem one_nilFunc:AV.one .nilFunc=true:=rfl
@[go_sem] theorem one_iface (t:TypeId) (v:AV):AV.one (.iface t v)=true:=rfl
@[go_sem] theorem one_map (i:Nat):AV.one (.map i)=true:=rfl
@[go_sem] theorem cl_agg (l:List AV):AV.cells (.agg l)=l:=rfl
@[go_sem] theorem cl_int (k:IntKind) (n:Int):AV.cells (.int k n)=[.int k n]:=rfl
@[go_sem] theorem cl_bool (b:Bool):AV.cells (.bool b)=[.bool b]:=rfl
@[go_sem] theorem cl_str (b:ByteArray):AV.cells (.str b)=[.str b]:=rfl
@[go_sem] theorem cl_slice (l:List AV) (n:Nat) (t:Tail):AV.cells (.slice l n t)=[.slice l n t]:=rfl
@[go_sem] theorem cl_nilS:AV.cells .nilS=[.nilS]:=rfl
@[go_sem] theorem cl_sref (i o n c:Nat):AV.cells (.sref i o n c)=[.sref i o n c]:=rfl
@[go_sem] theorem cl_ref (i o:Nat):AV.cells (.ref i o)=[.ref i o]:=rfl
@[go_sem] theorem cl_eptr (l:List AV) (o:Nat):AV.cells (.eptr l o)=[.eptr l o]:=rfl
@[go_sem] theorem cl_func (f:Fn) (a b:List AV):AV.cells (.func f a b)=[.func f a b]:=rfl
@[go_sem] theorem cl_nilFunc:AV.cells .nilFunc=[.nilFunc]:=rfl
@[go_sem] theorem cl_iface (t:TypeId) (v:AV):AV.cells (.iface t v)=[.iface t v]:=rfl
@[go_sem] theorem cl_map (i:Nat):AV.cells (.map i)=[.map i]:=rfl
theorem cells_one {v:AV} (h:AV.one v=true):AV.cells v=[v]:=by cases v <;> first | rfl | cases h
section
variable (a b c:Int) (l m:List AV) (n k:Nat) (t u:Tail) (x0 x1 x2 x3 x4:AV)
@[go_sem] theorem bd42_:buildA T 28 []=some (.agg [.int .i64 0,.int .i64 0]):=rfl
@[go_sem] theorem bd42_2:buildA T 28 [(0,.int .i64 a),(1,.int .i64 b)]=some (.agg [.int .i64 a,.int .i64 b]):=rfl
@[go_sem] theorem bd128_2:buildA T 155 [(0,.int .i64 a),(1,.int .i64 b)]=some (.agg [.int .i64 a,.int .i64 b]):=rfl
@[go_sem] theorem bs22_3:zAe T 32 3 [(0,.int .i64 a),(1,.int .i64 b),(2,.int .i64 c)]=some (.slice [.int .i64 a,.int .i64 b,.int .i64 c] 3 .exact):=rfl
@[go_sem] theorem bs22_0:zAe T 32 0 []=some (.slice [] 0 .exact):=rfl
@[go_sem] theorem bs126_1:zAe T 153 1 [(0,.agg [.int .i64 a,.int .i64 b])]=some (.slice [.int .i64 a,.int .i64 b] 1 .exact):=rfl
@[go_sem] theorem bs32_1:zAe T 35 1 [(0,.slice l n t)]=some (.slice [.slice l n t] 1 .exact):=rfl
@[go_sem] theorem bs32_1n:zAe T 35 1 [(0,.nilS)]=some (.slice [.nilS] 1 .exact):=rfl
@[go_sem] theorem bs32_3 (o:List AV) (q:Nat) (v:Tail):zAe T 35 3 [(0,.slice l n t),(1,.slice m k u),(2,.slice o q v)]=some (.slice [.slice l n t,.slice m k u,.slice o q v] 3 .exact):=rfl
@[go_sem] theorem bs93_1 (i o:Nat):zAe T 106 1 [(0,.sref i o n k)]=some (.slice [.sref i o n k] 1 .exact):=rfl
end
abbrev wS (W:Mat):AV:=.slice (W.map sl) W.length .unk
structure Span where
 low:Int
 high:Int
 deriving DecidableEq
@[simp] theorem wS_bnd (n k:Nat) (W:Mat):bndL n k (W.map sl)=true:=bndL_map _ (fun _=>by simp [AV.bnd]) W
theorem zDo {n:Nat} {W:Mat} (h:Sq n W) {a:Nat} (ha:a<n):(W.map sl)[a]? = some (sl (W.getD a [])):=by
 have hl:a<W.length:=by rw [h.1];exact ha
 rw [qN,zF hl,zI,zF hl];rfl
def spanM (W:Mat) (a b:Nat):Span:=⟨w64 (0 - ent W b a),ent W a b⟩
abbrev Theft:=List Int × Mat
abbrev thC (t:Theft):List AV:=[sl t.1,wS t.2]
def thefts (L:List Theft):List AV:=L.flatMap thC
@[simp] theorem thefts_bnd (n k:Nat) (L:List Theft):bndL n k (thefts L)=true:=zBd _ (fun t=>by simp [bndL,AV.bnd]) L
abbrev lnC (l:LLine) (L:List Theft):List AV:=[sl l.gives,.int .i64 l.least,.int .i64 l.most,.int .i64 l.taps,.slice (cnts l.counts) l.counts.length .unk,.slice (thefts L) L.length .unk]
attribute [go_sem] lnC thC
mutual
theorem zCn {n k n' k':Nat} (hn:n≤n') (hk:k≤k'):∀ v:AV,v.bnd n k=true→v.bnd n' k'=true
 | .ref i o,h=>by simp only [AV.bnd,decide_eq_true_iff] at h ⊢;omega
 | .sref i _ _ _,h=>by simp only [AV.bnd,decide_eq_true_iff] at h ⊢;omega
 | .map i,h=>by simp only [AV.bnd,decide_eq_true_iff] at h ⊢;omega
 | .eptr l _,h=>by simp only [AV.bnd] at h ⊢;exact bndL_le hn hk l h
 | .slice l _ .unk,h=>by simp only [AV.bnd] at h ⊢;exact bndL_le hn hk l h
 | .slice l _ .exact,h=>by simp only [AV.bnd] at h ⊢;exact bndL_le hn hk l h
 | .slice l _ (.tok j),h=>by
  simp only [AV.bnd,zR,decide_eq_true_iff] at h ⊢
  exact ⟨bndL_le hn hk l h.1,by omega⟩
 | .func _ a b,h=>by
  simp only [AV.bnd,zR] at h ⊢
  exact ⟨bndL_le hn hk a h.1,bndL_le hn hk b h.2⟩
 | .iface _ v,h=>by simp only [AV.bnd] at h ⊢;exact zCn hn hk v h
 | .agg l,h=>by simp only [AV.bnd] at h ⊢;exact bndL_le hn hk l h
 | .tuple l,h=>by simp only [AV.bnd] at h ⊢;exact bndL_le hn hk l h
 | .bool _,_=>rfl
 | .int _ _,_=>rfl
 | .str _,_=>rfl
 | .nilp,_=>rfl
 | .nilS,_=>rfl
 | .nilFunc,_=>rfl
 | .nilIface,_=>rfl
 | .nilMap,_=>rfl
theorem bndL_le {n k n' k':Nat} (hn:n≤n') (hk:k≤k'):∀ l:List AV,bndL n k l=true→bndL n' k' l=true
 | [],_=>rfl
 | v :: l,h=>by
  simp only [bndL,zR] at h ⊢
  exact ⟨zCn hn hk v h.1,bndL_le hn hk l h.2⟩
end
end Go.Av.Fx
end
section
namespace Go.Av
open Go
def Env.iter (E:Env) (S:St) (l:Nat) (Y:List AV→St→(AV→St→Prop)→Prop) (C:Cx→Prop):Env:=
 {E with base:=S.heap.length,bt:=S.nt,R:=none,Y:=fun l' args S2 R2=>l'=l∧Y args S2 R2,C:=C }
theorem IterC.run {E:Env} (hE:E.Ok) (hmix:E.P.follows .mixedOrders=true) {f:FuncId} {fn:Func} {ks:Nat→List Nat} {dm:Nat→Nat × List Bool} {mc:MC} (hf:E.P.funcs[f]? = some fn) (hm:fn.body.bind (toMC E.N ks dm)=some mc) (hN:fn.ntmps=E.N) {caps:List AV} {S:St} {Y:List AV→St→(AV→St→Prop)→Prop} {R:St→Prop}
  (hargs:caps.length+1≤E.N)
  (h:∀ (l:Nat) (C:Cx→Prop),WC (E.iter S l Y C) mc (bodyQ (E.iter S l Y C) fn.results.toList fun e S'=>(∃ x,e=.ret x)∧R S') (argTS 0 (.func (.yield l) [] [] :: caps)) S):IterC E.P f caps S Y R:=by
 intro l C hCle hY c w vs hC hst hl
 have hok:(E.iter S l Y C).Ok:=⟨hE.T,hE.M,hCle,fun l' args S2 K c w vs ⟨e,hy⟩ hc hs hr=>by
  subst e;exact hY args S2 K c w vs hy hc hs hr⟩
 cases hb:fn.body with
 | none=>rw [hb] at hm;cases hm
 | some code =>
  rw [hb] at hm
  refine (AC.of_bodyC (E:=E.iter S l Y C) hok hf hb (toMC_ok _ _ hm) hN rfl rfl (by show caps.length+1≤E.N;exact hargs) (fun E' hE' hP=>draw_ok hE' (hP ▸ hmix)) (h l C) rfl c w vs hC hst hl).mono fun e w' ⟨ae,S',c',h1,h2,h3,h4⟩ => ?_
  obtain ⟨⟨x,rfl⟩,hR⟩:=h2
  cases e with
  | returned y=>exact ⟨y,S',c',rfl,h1,hR,h4⟩
  | panicked ch=>exact h3.elim
  | outgrown=>exact h3.elim
end Go.Av
end
section
namespace Go.Av.Fx
open Go Go.Av Go.Av.Tb Go.Proofs
open Go.Fw (Sq ent Bd Mat)
@[go_sem] theorem iter_T (E:Env) (S:St) (l:Nat) (Y:List AV→St→(AV→St→Prop)→Prop) (C:Cx→Prop):(E.iter S l Y C).T=E.T:=rfl
@[go_sem] theorem iter_P (E:Env) (S:St) (l:Nat) (Y:List AV→St→(AV→St→Prop)→Prop) (C:Cx→Prop):(E.iter S l Y C).P=E.P:=rfl
@[go_sem] theorem round_T (E:Env) (S:St) (l:Nat):(E.inRound l S).T=E.T:=rfl
@[go_sem] theorem round_P (E:Env) (S:St) (l:Nat):(E.inRound l S).P=E.P:=rfl
noncomputable def Es (n:Nat) (S:St):Env:={ E n with base:=S.heap.length,bt:=S.nt }
theorem Es_ok (n:Nat) (S:St):(Es n S).Ok:=⟨(E_ok n).T,(E_ok n).M,(E_ok n).Cle,(E_ok n).Y⟩
@[go_sem] theorem Es_T (n:Nat) (S:St):(Es n S).T=T:=rfl
@[go_sem] theorem Es_P (n:Nat) (S:St):(Es n S).P=Tryz.prog:=rfl
def setA:List Int→AV
 | []=>.nilS
 | s=>.slice (ints s) s.length .exact
def ones (m:Nat):List (List Int):=(List.range m).map fun (i:Nat)=>[(i:Int)]
def twosAt (m i:Nat):List (List Int):=(List.range (m - (i+1))).map fun (j:Nat)=>[(i:Int),((i+1+j:Nat):Int)]
def twos (m:Nat):List (List Int):=(List.range m).flatMap (twosAt m)
def setsL (m:Nat):List (List Int):=[] :: (ones m ++ twos m)
theorem sy_yield {E:Env} {K:AV→St→Prop} {h:Hold K} {l:Nat} {args:List AV} {S:St} {R:AV→St→Prop} (hy:E.Y l args S R) (hk:∀ v S',R v S'→K v S'):sy E K h (some (l,args)) S:=⟨R,hy,hk⟩
def thR (L:List Theft):List AV:=L.flatMap fun t=>[setA t.1,wS t.2]
def thT:List Theft→AV
 | []=>.nilS
 | t :: L=>.slice (thR (t :: L)) (L.length+1) (.tok L.length)
def addT (l:LLine) (L:List Theft) (s:List Int):List Theft:=match explM l s with
 | some W=>L ++ [(s,W)]
 | none=>L
def theftsL (l:LLine):List Theft:=(setsL l.gives.length).foldl (addT l) []
theorem thT_one (L:List Theft):AV.one (thT L)=true:=by cases L <;> rfl
attribute [go_sem] thT_one
@[go_sem] theorem onlyN_normal (K:TS→St→Prop) (ts:TS) (S:St):onlyN K .normal ts S=K ts S:=rfl
@[go_sem] theorem zipTS_1 (p:Nat) (v:AV) (ts:TS):zipTS [p] [v] ts=ts.set p v:=rfl
@[go_sem] theorem ne00:decide ((0:Int)≠0)=false:=rfl
@[go_sem] theorem ne10:decide ((1:Int)≠0)=true:=rfl
@[go_sem] theorem ne20:decide ((2:Int)≠0)=true:=rfl
@[go_sem] theorem ne30:decide ((3:Int)≠0)=true:=rfl
@[go_sem] theorem ne40:decide ((4:Int)≠0)=true:=rfl
@[go_sem] theorem ne50:decide ((5:Int)≠0)=true:=rfl
@[go_sem] theorem ne60:decide ((6:Int)≠0)=true:=rfl
@[go_sem] theorem ne70:decide ((7:Int)≠0)=true:=rfl
@[go_sem] theorem ne80:decide ((8:Int)≠0)=true:=rfl
@[go_sem] theorem ne90:decide ((9:Int)≠0)=true:=rfl
@[go_sem] theorem eq00:decide ((0:Int)=0)=true:=rfl
@[go_sem] theorem eq10:decide ((1:Int)=0)=false:=rfl
@[go_sem] theorem eq20:decide ((2:Int)=0)=false:=rfl
@[go_sem] theorem eq30:decide ((3:Int)=0)=false:=rfl
@[go_sem] theorem eq40:decide ((4:Int)=0)=false:=rfl
@[go_sem] theorem eq50:decide ((5:Int)=0)=false:=rfl
@[go_sem] theorem eq60:decide ((6:Int)=0)=false:=rfl
@[go_sem] theorem eq70:decide ((7:Int)=0)=false:=rfl
@[go_sem] theorem eq80:decide ((8:Int)=0)=false:=rfl
@[go_sem] theorem eq90:decide ((9:Int)=0)=false:=rfl
def possB (l:LLine):Bool:=decide ((theftsL l).length > 0)
abbrev zeroLn:AV:=.agg [.nilS,.int .i64 0,.int .i64 0,.int .i64 0,.nilS,.nilS]
def askE (l:LLine) (fine:Bool):Int:=if isLineB l=true then (if fine=true then (if possB l=true then 0 else 7) else 2) else 2
def askedA (l:LLine) (fine:Bool):AV:=if isLineB l=true then (if fine=true then (if possB l=true then .tuple [.agg (lnC l (theftsL l)),.int .i64 0] else .tuple [zeroLn,.int .i64 7]) else .tuple [zeroLn,.int .i64 2]) else .tuple [zeroLn,.int .i64 2]
theorem askedA_bnd (l:LLine) (fine:Bool):(askedA l fine).bnd 0 0=true:=by
 unfold askedA;repeat' split
 all_goals simp [AV.bnd,bndL]
def gro (l:List AV):AV:=match l with
 | []=>.nilS
 | a :: l=>.slice (a :: l) (l.length+1) (.tok l.length)
theorem gro_app (T:Tab) (t e:TypeId) (ei:TI) (h1:descOf T t=some (.slice e)) (h2:T e=some ei) (h3:ei.size=1) (h4:ei.bytes≤100) (l:List AV) (x:AV) (tx:Tail) (hx:AV.one x=true) (hn:appendA T ⟨[],0,[]⟩ t .nilS (.slice [x] 1 tx)=some (.tok none fun j=>.slice [x] 1 (.tok j)))
  (hl:l.length≤100000) {K:AV→St→Prop} {hK:Hold K} {h:List (Option Blk)} (hnil:∀ S:St,appendA T S t .nilS (.slice [x] 1 tx)=some (.tok none fun j=>.slice [x] 1 (.tok j))) (next:K (gro (l ++ [x])) ⟨h,l.length+1,toksN (l.length+1)⟩):sr K hK (appendA T ⟨h,l.length,toksN l.length⟩ t (gro l) (.slice [x] 1 tx)) ⟨h,l.length,toksN l.length⟩:=by
 cases l with
 | nil =>
  show sr K hK (appendA T ⟨h,0,[]⟩ t .nilS (.slice [x] 1 tx)) _
  rw [hnil,sr_tok];exact next
 | cons a l =>
  show sr K hK (appendA T ⟨h,(a :: l).length,toksN (a :: l).length⟩ t (.slice (a :: l) (l.length+1) (.tok l.length)) _) _
  simp only [zT] at hl
  have hh:heldA ⟨h,(a :: l).length,toksN (a :: l).length⟩ ei.size (.slice [x] 1 tx)=some ([x],1):=by rw [h3];rfl
  rw [zCt (e:=e) (ei:=ei) (lx:=[x]) (nx:=1) h1 h2 (by rw [h3];decide) hh (by decide) (by simp only [zK,zM,hx,Bool.and_true]) (by
   have:(l.length+1+1) * ei.bytes≤(l.length+1+1) * 100:=Nat.mul_le_mul_left _ h4
   omega) (by omega) (by rw [h3];simp)]
  rw [zBx]
  refine ⟨zO, ?_⟩
  have:killTok (toksN (l.length+1)) (some l.length)=[]:=by simp [killTok,toksN]
  show K (.slice (a :: l ++ [x]) (l.length+1+1) (.tok (l.length+1))) ⟨h,l.length+1+1,(l.length+1) :: killTok (toksN (l.length+1)) (some l.length)⟩
  rw [this]
  have e:gro (a :: l ++ [x])=.slice (a :: l ++ [x]) (l.length+1+1) (.tok (l.length+1)):=by simp [gro]
  rw [← e];exact next
theorem sr_gro22 (l:List AV) (n:Int) (tx:Tail) {q:Nat} (hq:l.length=q) (hl:q≤100000) {K:AV→St→Prop} {hK:Hold K} {h:List (Option Blk)} (next:K (gro (l ++ [.int .i64 n])) ⟨h,q+1,toksN (q+1)⟩):sr K hK (appendA T ⟨h,q,toksN q⟩ 32 (gro l) (.slice [.int .i64 n] 1 tx)) ⟨h,q,toksN q⟩:=by
 subst hq;exact gro_app T 32 3 ti3 rfl rfl rfl (by decide) l _ tx rfl rfl hl (fun S=>rfl) next
@[go_sem] theorem y_guard_c {E:Env} {K:TS→St→Prop} {n:Nat} {rest:List MO} {b:St} {ts:TS} {S:St} (t:Nat) (g:Bool) (d:Option Nat) (o:Op) (f:Bool) (hs:List Bool) :
  preM E K (n+1) (⟨some (t,g),d,o⟩ :: rest) (f :: hs) b ts S=sg (preM E K (n+1) (⟨none,d,o⟩ :: rest) (f :: hs) b ts S) (preM E K n rest hs b (setT ts d .undef) S) ⟨⟩ ⟨⟩ g (ts.get t):=by
 simp only [preM,guardM,sg]
 cases ts.get t with
 | none=>rfl
 | some v=>cases v with
  | bool x=>cases x <;> cases g <;> rfl
  | _=>rfl

theorem wc_forGP {E:Env} {c:MC} {Q:AQ} {ts:TS} {S:St} (N:Nat) (P:Nat→Prop) (f:Nat→TS) (g:Nat→St) (hP:P 0) (h0:f 0=ts) (h1:g 0=S) (hb:∀ k,k≤N→Neat E.base E.bt (f k) (g k))
  (h:∀ k,k≤N→P k → ∀ I:TS→St→Prop,(k<N→P (k+1) → ∀ extra,I (f (k+1)) ⟨(g (k+1)).heap ++ extra,(g (k+1)).nt,(g (k+1)).toks⟩)→WC E c (thenQ I Q) (f k) (g k)):WC E (.loop c) Q ts S:=by
 refine zAs (fun n ts' S' => ∃ k,k≤N∧P k∧n=N - k∧ts'=f k∧S'=g k) N ⟨0,qI _,hP,rfl,h0.symm,h1.symm⟩ ?_
 rintro n ts' S' ⟨k,hk,hp,rfl,rfl,rfl⟩
 refine h k hk hp _ fun hlt hp' extra=>⟨N - (k+1),by omega,.inr ⟨f (k+1),g (k+1),(hb _ hlt).base,(hb _ hlt).bt, ?_, ?_,k+1,hlt,hp',rfl,rfl,rfl⟩⟩
 ·refine ⟨by simp,fun i B hB=>⟨?_,(hb _ hlt).heap i B hB⟩,zN _,fun t ht=>⟨ht,(hb _ hlt).toks t ht⟩⟩
  have hi:i<(g (k+1)).heap.length:=by
   rcases zW i (g (k+1)).heap.length with h' | h'
   ·exact h'
   ·rw [zP h'] at hB;cases hB
  show ((g (k+1)).heap ++ extra)[i]? = _
  rw [qO hi];exact hB
 ·intro d v hv
  exact ⟨v,hv,Sub.refl v,bndTS_get (hb _ hlt).ts hv⟩
@[go_sem] theorem eq22_nn:binA T .eql 32 .nilS .nilS=some (.bool true):=rfl
theorem eq22_sn {l:List AV} {n:Nat} {t:Tail} (h:0<n):binA T .eql 32 (.slice l n t) .nilS=some (.bool false):=by
 have:binA T .eql 32 (.slice l n t) .nilS=(if 0<n then some false else none).map .bool:=rfl
 rw [this,if_pos h];rfl
theorem ints_all (l:List Int):(ints l).all AV.one=true:=by simp [ints,qX];intro x hx;rfl
theorem clone_nil:PC Tryz.prog 120 [.nilS] (.pure .nilS):=by
 refine PC.of_empty (AC.run (E_ok _) mix Tryz.func120 m120 rfl rfl rfl (zE rfl) ?_) (by simp [bndL,AV.bnd]) rfl
 simp only [go_sem,Tryz.f120,zB,zD,zC,reduceIte,reduceCtorEq,zA]
theorem clone_pc (l:List Int) (hl:l.length≤100000) (hne:0<l.length):PC Tryz.prog 120 [sl l] (.tok none fun j=>.slice (ints l) l.length (.tok j)):=by
 refine PC.of_tok (AC.run (E_ok _) mix Tryz.func120 m120 rfl rfl rfl (zE rfl) ?_) (by simp [bndL,AV.bnd]) (by simp)
 have e:=eq22_sn (l:=ints l) (t:=.unk) hne
 simp only [go_sem,e,zAa,zB,zD,zC,reduceIte,reduceCtorEq,zA]
 rw [zCt (e:=3) (ei:=ti3) (lx:=ints l) (nx:=l.length) rfl rfl (by decide) (by simp [heldA,ti3]) (by omega) (ints_all l) (by simp [ti3];omega) (by omega) (by simp [ti3])]
 simp only [go_sem,yJ,Nat.zero_add,Tryz.f120,zB,zD,zC,reduceIte,reduceCtorEq,zA]
 exact ⟨0,rfl,zO⟩
@[go_sem] theorem arg7 (a b c d e f g:AV):argTS 0 [a,b,c,d,e,f,g]=[(0,a),(1,b),(2,c),(3,d),(4,e),(5,f),(6,g)]:=rfl
inductive IsL:AV→List Int→Prop where
 | nil:IsL .nilS []
 | row (l:List Int) (t:Tail) (h:0<l.length):IsL (.slice (ints l) l.length t) l
theorem IsL.sub {v:AV} {l:List Int} (h:IsL v l):Sub v (sl l):=by
 cases h with
 | nil=>exact Sub.nil
 | row l t h=>exact Sub.unk _ _ _
theorem IsL.one {v:AV} {l:List Int} (h:IsL v l):AV.one v=true:=by cases h <;> rfl
theorem IsL.frz {v:AV} {l:List Int} (h:IsL v l) (hp:List (Option Blk)):Frz hp v (sl l):=by
 cases h with
 | nil=>exact .nil
 | row l t h=>exact .unk _ _ _
theorem zDj (H:List (Option Blk)) (l:List (Option Blk)) (i:Nat) (B:Blk):setH (H ++ l) (H.length+i) B=H ++ setH l i B:=by
 induction H with
 | nil=>simp
 | cons x H ih =>
  rw [yB,show (x :: H).length+i=(H.length+i)+1 by simp;omega]
  show x :: setH (H ++ l) (H.length+i) B=_
  rw [ih];rfl
theorem zAd (S:St) (i:Nat) (B:Blk):S.put i B=⟨setH S.heap i B,S.nt,S.toks⟩:=by cases S;exact put_mk _ _ _ _ _
theorem Frz.two {h:List (Option Blk)} {a b a' b':AV} (h1:Frz h a a') (h2:Frz h b b'):Frz h (.tuple [a,b]) (.tuple [a',b']):=
 .tuple _ _ rfl fun j x y hx hy=>by
  match j,hx,hy with
  | 0,hx,hy=>simp only [List.getElem?_cons_zero,yU] at hx hy;subst hx;subst hy;exact h1
  | 1,hx,hy=>simp only [List.getElem?_cons_succ,List.getElem?_cons_zero,yU] at hx hy;subst hx;subst hy;exact h2
  | j+2,hx,hy=>simp at hx

def metA (ks:List Int):List (AV × AV):=ks.map fun k=>(.int .i64 k,.bool true)
def addK (ks:List Int) (n:Int):List Int:=if ks.contains n=true then ks else ks ++ [n]
theorem zEt (n:Int):∀ (ks:List Int) (i:Nat),(ks.contains n=false→findA (.int .i64) (.int .i64 n) (metA ks) i=some none)∧(ks.contains n=true → ∃ j,findA (.int .i64) (.int .i64 n) (metA ks) i=some (some (i+j,.bool true))∧ks[j]? = some n)
 | [],i=>⟨fun _=>rfl,fun h=>by simp at h⟩
 | k :: ks,i=>by
  have ih:=zEt n ks (i+1)
  by_cases e:n=k
  ·subst e
   refine ⟨fun h=>by simp at h,fun _=>⟨0, ?_,rfl⟩⟩
   simp [metA,findA,eqKey]
  ·have e1:findA (.int .i64) (.int .i64 n) (metA (k :: ks)) i=findA (.int .i64) (.int .i64 n) (metA ks) (i+1):=by
    have hb:(n == k)=false:=by simp [e]
    simp only [metA,List.map_cons,findA,eqKey,if_true,hb]
   have e2:(k :: ks).contains n=ks.contains n:=by
    rw [List.contains_cons];simp [e]
   rw [e1,e2]
   refine ⟨ih.1,fun h => ?_⟩
   obtain ⟨j,h1,h2⟩:=ih.2 h
   exact ⟨j+1,by rw [h1,show i+1+j=i+(j+1) by omega],by simpa using h2⟩
theorem mapUpd {S:St} {i:Nat} {ks:List Int} (h:S.heap[i]? = some (some (.map (metA ks)))) (n:Int):zBb T S 181 (.map i) (.int .i64 n) (.bool true)=some (.write i (.map (metA (addK ks n))) .undef):=by
 have d1:descOf T 181=some (.map 3 4):=rfl
 have d2:descOf T 3=some (.int .i64):=rfl
 simp only [zBb,d1,d2,h,isKey,if_true]
 unfold addK
 cases hc:ks.contains n
 ·rw [((zEt n ks 0).1 hc)]
  simp [metA]
 ·obtain ⟨j,h1,h2⟩:=(zEt n ks 0).2 hc
  rw [h1]
  simp only [Nat.zero_add]
  have:(metA ks).set j (.int .i64 n,.bool true)=metA ks:=by
   refine List.ext_getElem? fun q => ?_
   rw [yG]
   by_cases e:j=q
   ·subst e
    have hj:j<ks.length:=by
     rcases zW j ks.length with h' | h'
     ·exact h'
     ·rw [zP h'] at h2;cases h2
    simp [metA,hj]
    have:=zF hj
    rw [h2] at this
    simpa using this
   ·rw [if_neg e]
  rw [this];rfl
def susStep (n p:Nat) (lo hi:Int) (acc:Bool × List Int) (t:Theft):Bool × List Int:=
 if (spanM t.2 n p).low > hi then acc else if (spanM t.2 n p).high<lo then acc else (true,t.1.foldl addK acc.2)
def susLo (read off:Int):Int:=if read - off > 0 then read - off else 0
def susHi (read off:Int):Int:=if read+off<400 then read+off else 400
def susL (l:LLine) (L:List Theft) (p:Nat) (read off:Int):Int:=
 if (L.foldl (susStep (l.gives.length+1) p (susLo read off) (susHi read off)) (false,[])).1=true then (L.foldl (susStep (l.gives.length+1) p (susLo read off) (susHi read off)) (false,[])).2.length else -1
end Go.Av.Fx
end

/- Part 18 of the proof. -/
import Derived.Test.YtclmbbofpaecaaaGreatDoorVu17
import Derived.Test.YtclmbbofpaecaaaGreatDoorVu11
import Derived.RecoverIn
import Derived.Test.YtclmbbofpaecaaaGreatDoorVu3
set_option linter.all false
set_option linter.unusedVariables false
set_option linter.unusedSimpArgs false
set_option linter.unusedSectionVars false
open Array renaming getD_eq_getD_getElem? → qB, getElem?_append_left → yR
open Bool renaming and_eq_true → zR, false_eq_true → zU, not_true → zX, not_false → qF
open List renaming getElem?_eq_getElem → zF, getD_eq_getElem?_getD → zI, mem_cons_self → zO, getElem?_eq_none → zP, mem_cons_of_mem → zQ, getElem_mem → qA, getElem?_append_right → qD, length_append → qE, getElem?_map → qN, getElem?_append_left → qO, getElem?_range → qT, flatMap_cons → yD, range_succ → yI, take_of_length_le → yN
open Nat renaming reduceLeDiff → zA, reduceEqDiff → zB, reduceAdd → zC, reduceBEq → zD, le_of_ble_eq_true → zE, le_refl → zN, lt_or_ge → zW, zero_le → qI, not_lt_zero → yC
open Option renaming map_some → zV, getD_some → qH
open Option.some renaming injEq → yU
open Go.Result renaming andThen_ok → yV
open Go.Sem renaming run_bind → yW
open Go.Sem renaming run_pure → yX
section
namespace Go.Av.Fx
open Go Go.Av Go.Av.Tb Go.Proofs
open Go.Fw (Sq ent Bd Mat)
structure Ch where
 point:Int
 left:Int
 deriving DecidableEq
abbrev chC (c:Ch):List AV:=[.int .i64 c.point,.int .i64 c.left]
attribute [go_sem] chC
def better (o x:Ch):Ch:=if x.left<o.left then x else o
def bestL (L:List Ch):Ch:=L.foldl better (L.headD ⟨0,0⟩)
def worstStep (l:LLine) (L:List Theft) (p:Nat) (off:Int) (c:Int) (read:Nat):Int:=if susL l L p read off > c then susL l L p read off else c
def worstL (l:LLine) (L:List Theft) (p:Nat) (off:Int):Int:=(List.range 401).foldl (worstStep l L p off) 0
def choices (l:LLine) (L:List Theft) (off:Int) (m:Nat):List Ch:=(List.range m).map fun (p:Nat)=>⟨p,worstL l L p off⟩
def nextL (l:LLine) (off:Int):Ch:=bestL (choices l (theftsL l) off (l.gives.length+1))
def nextA (l:LLine) (off:Int):AV:=if askE l (inB off 0 20)=0 then .tuple [.int .i64 (nextL l off).point,.int .i64 (nextL l off).left,.int .i64 0] else .tuple [.int .i64 0,.int .i64 0,.int .i64 (askE l (inB off 0 20))]
end Go.Av.Fx
end
section
namespace Go.Av
open Go
def modeOf (c:Cx):Option AV→FrameMode→Prop
 | none,u=>u=.returning
 | some v,u => ∃ x,u=.panicking [{ v:=x,recovered:=false }]∧VRel c v x
def DC (P:Program) (g:FuncId) (caps:List AV) (pan:Option AV) (S:St) (R:St→Prop):Prop:=
 ∀ c w vs u,StRel c S w→LRel c caps vs→modeOf c pan u→CallsDIn Fence.wide 0 P g vs.toArray u w fun e u' w'=>(∃ y,e=.returned y)∧settle u'=.returning ∧ ∃ S' c',c.le c'∧R S'∧StRel c' S' w'
theorem DC.run {E:Env} (hE:E.Ok) (hmix:E.P.follows .mixedOrders=true) {g:FuncId} {fn:Func} {id:Nat} {o:Oper} {d:Nat} {code:Code} {ks:Nat→List Nat} {dm:Nat→Nat × List Bool} {mc:MC}
  (hf:E.P.funcs[g]? = some fn) (hb:fn.body=some (.seq (.region id #[o] false) code)) (ho:o.op=.call { callee:=.builtin .recover,args:=#[],argTypes:=#[] }) (hg:o.guard=none) (hd:o.dst=some d)
  (hm:toMC E.N ks dm code=some mc) (hN:fn.ntmps=E.N) (hres:fn.results=#[]) {caps:List AV} {pan:Option AV} {S:St} {R:St→Prop} (hargs:caps.length≤E.N) (hdN:d<E.N) (hbase:E.base=S.heap.length) (hbt:E.bt=S.nt)
  (hR:E.R=none) (hC:∀ c,E.C c) (hK:E.K=false)
  (h:WC E mc (fun e _ S'=>match e with | .normal=>R S' | .ret=>R S' | _=>False) ((argTS 0 caps).set d (pan.getD .nilIface)) S):DC E.P g caps pan S R:=by
 intro c w vs u hst hl hu
 have hlen:vs.length=caps.length:=hl.1.symm
 refine callsDIn_of_wpSIn hf hb trivial fun c₀ cs hc₀ => ?_
 refine wpSIn_seq (wpSIn_region ?_)
 have hexec:(execOp ({ tmps:=vs.toArray ++ Array.replicate (fn.ntmps - vs.toArray.size) Go.undef,defers:=[] }:Act).eval o).run E.P w=.ok .recover w:=by
  simp only [execOp,ho]
  simp [resolve,invoke,builtin,go_sem]
 have hrest:∀ (x:Value) (cs':List Frame) (u':FrameMode),cs'={ c₀ with mode:=u' } :: cs→settle u'=.returning→VRel c (pan.getD .nilIface) x →
   code.wpSIn Fence.wide 0 E.P (bodyPostS E.P fn c₀ cs fun e u' w'=>(∃ y,e=.returned y)∧settle u'=.returning ∧ ∃ S' c',c.le c'∧R S'∧StRel c' S' w')
    (({ tmps:=vs.toArray ++ Array.replicate (fn.ntmps - vs.toArray.size) Go.undef,defers:=[] }:Act).put o.dst x) cs' w:=by
  intro x cs' u' hcs hset hx
  have sim0:Sim E c c [] (argTS 0 caps) S { tmps:=vs.toArray ++ Array.replicate (fn.ntmps - vs.toArray.size) Go.undef,defers:=[] } w:=by
   refine ⟨(Cx.le.refl c).S,hC c,⟨fun i n e=>by rw [hbase];exact (hst.dom i n e).1,fun k x e=>by rw [hbt];exact (hst.tdom k x e).1⟩,hst,fun d v e => ?_,Marks.nil _ _ _ _, ?_⟩
   ·obtain ⟨_,h2⟩:=zEo _ _ _ _ e
    rw [Nat.sub_zero] at h2
    obtain ⟨u,hu,hr⟩:=hl.get h2
    have hd:d<vs.length:=by
     rcases zW d vs.length with h' | h'
     ·exact h'
     ·rw [zP h'] at hu;cases hu
    rw [qB,yR (by simpa using hd)]
    simp only [List.getElem?_toArray,hu,qH]
    exact hr
   ·simp;omega
  have sim1:=sim0.put (Cx.le.refl c) hst (dst:=o.dst) hx (by rw [hd];simpa [dstOk] using hdN)
  rw [hd] at sim1
  have hw:=WC_ok (fun E' hE' hP=>draw_ok hE' (hP ▸ hmix)) (toMC_ok _ _ hm) E hE rfl rfl c [] _ _ S c _ w h sim1
  rw [Env.F_wide hR] at hw
  refine wpSIn_of_wpIn rfl ?_
  rw [hd]
  refine wpIn_mono hw fun e a' w' hq => ?_
  obtain ⟨ae,ts',S',c',h1,h2,h3⟩:=hq
  obtain ⟨ms,m1,m2,m3,m4⟩:=h3.ds
  rw [hK] at m4
  rw [m4 rfl] at m1
  have hdef:a'.defers=[]:=by simpa using m1
  have hst':StRel (c'.withXO c.XO) S' w':=by
   refine h3.st.withXO _ (fun b ob e=>h3.st.XO b ob (h3.le.XO b ob e)) fun i n B _ _ _ e3 => ?_
   cases hx:c.XO n with
   | none=>rfl
   | some ob=>rw [h3.le.XO n ob hx] at e3;cases e3
  have hr0:(results fn a'.tmps).run E.P w'=.ok (.tuple #[]) w':=by
   simp [results,hres]
  have done:R S'→a'.defers=[] ∧ ∃ u'',cs'={ c₀ with mode:=u'' } :: cs ∧ ∃ v,(results fn a'.tmps).run E.P w'=.ok v w'∧((∃ y,Ending.returned v=.returned y)∧settle u''=.returning ∧ ∃ S' c',c.le c'∧R S'∧StRel c' S' w'):=
   fun hRS=>⟨hdef,u',hcs,.tuple #[],hr0,⟨_,rfl⟩,hset,S',_,h3.le.back,hRS,hst'⟩
  cases ae with
  | normal =>
   cases e <;> first | exact h1.elim | skip
   exact done h2
  | ret =>
   cases e <;> first | exact h1.elim | skip
   exact done h2
  | exit i=>exact h2.elim
  | panic v=>exact h2.elim
 show wpOpsSIn Fence.wide 0 E.P #[o] _ [0] _ _ _
 simp only [wpOpsSIn,List.getElem?_toArray]
 refine ⟨fun _ _=>trivial, ?_⟩
 have hwanted:Region.wanted o (yielded #[o] (vs.toArray ++ Array.replicate (fn.ntmps - vs.toArray.size) Go.undef))=true:=by
  unfold Region.wanted;rw [hg]
 rw [if_pos hwanted,hexec]
 simp only
 cases pan with
 | none =>
  have hu:u=.returning:=hu
  have:recoverD (c₀ :: cs)=none:=by
   simp only [recoverD,hc₀,hu]
  rw [this]
  exact hrest .nilIface _ .returning (by rw [← hu,← hc₀]) rfl .nilIface
 | some v =>
  obtain ⟨x,hu,hx⟩:=hu
  have:recoverD (c₀ :: cs)=some (x,{ c₀ with mode:=.panicking [{ v:=x,recovered:=true }] } :: cs):=by
   simp only [recoverD,hc₀,hu]
  rw [this]
  exact hrest x _ (.panicking [{ v:=x,recovered:=true }]) rfl rfl hx
def Env.from (E:Env) (S:St):Env:={ E with base:=S.heap.length,bt:=S.nt }
theorem Env.Ok.from {E:Env} (h:E.Ok) (S:St):(E.from S).Ok:=⟨h.T,h.M,h.Cle,h.Y⟩
def endQ (E:Env) (rs:List ResultVar) (g:FuncId) (caps:List AV) (R:AEnd→St→Prop):AQ
 | .normal,ts,S'=>DC E.P g caps none S' fun S2 => ∃ vs,resA E.T S2 ts rs=some vs∧R (.ret (tupA vs)) S2
 | .ret,ts,S'=>DC E.P g caps none S' fun S2 => ∃ vs,resA E.T S2 ts rs=some vs∧R (.ret (tupA vs)) S2
 | .panic v,ts,S'=>DC E.P g caps (some v) S' fun S2 => ∃ vs,resA E.T S2 ts rs=some vs∧R (.ret (tupA vs)) S2
 | .exit _,_,_=>False
theorem AC.deferring {E:Env} (hE:E.Ok) (hmix:E.P.follows .mixedOrders=true) {f:FuncId} {fn:Func} {a x:Code} {id:Nat} {o1 o2:Oper} {t:Nat} {tys:Array TypeId} {ks:Nat→List Nat} {dm:Nat→Nat × List Bool} {ma mx:MC}
  (hf:E.P.funcs[f]? = some fn) (hb:fn.body=some (.seq a (.seq (.region id #[o1,o2] false) x))) (ho2:o2.op=.defer { callee:=.value (.tmp t),args:=#[],argTypes:=tys }) (hg1:o1.guard=none) (hg2:o2.guard=none) (hd1:o1.dst=some t) (hd2:o2.dst=none)
  (hma:toMC E.N ks dm a=some ma) (hmx:toMC E.N ks dm x=some mx) (hN:fn.ntmps=E.N) (ht:t<E.N) {args:List AV} {S:St} {R:AEnd→St→Prop} (hbase:E.base=S.heap.length) (hbt:E.bt=S.nt) (hargs:args.length≤E.N)
  (hR:E.R=none) (hC:∀ c,E.C c) (hK:E.K=false)
  (h:WC E ma (onlyN fun ts1 S1 => ∃ g caps,astepO E.T S1 ts1 o1.op=some (.pure (.func (.func g) [] caps))∧Callable E.P g∧WC (E.from S1) mx (endQ E fn.results.toList g caps R) (ts1.set t (.func (.func g) [] caps)) S1) (argTS 0 args) S):AC E.P f args S R:=by
 intro c w vs hs hl
 have hlen:vs.length=args.length:=hl.1.symm
 refine (callsIn_wide (n:=0)).1 (callsIn_of_wp_marks hf hb trivial ?_)
 have hsim:Sim E c c [] (argTS 0 args) S { tmps:=vs.toArray ++ Array.replicate (fn.ntmps - vs.toArray.size) Go.undef,defers:=[] } w:=by
  refine ⟨(Cx.le.refl c).S,hC c,⟨fun i n e=>by rw [hbase];exact (hs.dom i n e).1,fun k x e=>by rw [hbt];exact (hs.tdom k x e).1⟩,hs,fun d v e => ?_,Marks.nil _ _ _ _, ?_⟩
  ·obtain ⟨_,h2⟩:=zEo _ _ _ _ e
   rw [Nat.sub_zero] at h2
   obtain ⟨u,hu,hr⟩:=hl.get h2
   have hd:d<vs.length:=by
    rcases zW d vs.length with h' | h'
    ·exact h'
    ·rw [zP h'] at hu;cases hu
   rw [qB,yR (by simpa using hd)]
   simp only [List.getElem?_toArray,hu,qH]
   exact hr
  ·simp;omega
 have nodef:∀ {c c':Cx} {ds l:List Deferred},Marks E.K c c' ds l→l=ds:=fun ⟨ms,m1,_,_,m4⟩=>by rw [m4 hK] at m1;simpa using m1
 have draws:∀ (E':Env),E'.Ok→E'.P=E.P→_:=fun E' hE' hP=>draw_ok hE' (hP ▸ hmix)
 refine wpIn_seq ?_
 have hw:=WC_ok draws (toMC_ok _ _ hma) E hE rfl rfl c [] _ _ S c _ w h hsim
 rw [Env.F_wide hR] at hw
 refine wpIn_mono hw fun e a1 w1 hq => ?_
 obtain ⟨ae,ts1,S1,c1,h1,h2,h3⟩:=hq
 cases ae with
 | exit i=>exact h2.elim
 | ret=>exact h2.elim
 | panic v=>exact h2.elim
 | normal =>
 cases e <;> first | exact h1.elim | skip
 obtain ⟨g,caps,hst,hcall,hx⟩:=h2
 show (Code.seq (.region id #[o1,o2] false) x).wpIn Fence.wide 0 E.P _ a1 w1
 refine wpIn_seq (wpIn_region ?_)
 have hd0:=nodef h3.ds
 show wpOpsIn Fence.wide 0 E.P #[o1,o2] _ [0,1] a1 w1
 have g1:(#[o1,o2]:Array Oper)[0]? = some o1:=rfl
 have g2:(#[o1,o2]:Array Oper)[1]? = some o2:=rfl
 have want1:∀ y,Region.wanted o1 y=true:=fun y=>by unfold Region.wanted;rw [hg1]
 have want2:∀ y,Region.wanted o2 y=true:=fun y=>by unfold Region.wanted;rw [hg2]
 simp only [wpOpsIn,g1,g2,want1,want2,if_true]
 obtain ⟨v1,w2,hy,hp⟩:=astep_ok (P:=E.P) hE.T h3.st h3.ts (o:=o1) hst trivial
 obtain ⟨c2,k1,k2,k3⟩:=Post.app h3.st hp
 have sim2:=h3.put k1 k2 (dst:=o1.dst) (v:=.func (.func g) [] caps) k3 (by rw [hd1];simpa [dstOk] using ht)
 rw [hd1] at sim2
 have nd1:∀ c,o1.op ≠ .defer c:=fun cl hcl=>by rw [hcl] at hst;simp [astepO] at hst
 have hrest:o2.wpIn Fence.wide 0 E.P (a1.put (some t) v1) w2 (fun a3 w3=>Exit.then (x.wpIn Fence.wide 0 E.P (bodyPostM Fence.wide 0 E.P fn fun e w' => ∃ ae S' c',c.le c'∧R ae S'∧EndRel c' ae e∧StRel c' S' w')) (bodyPostM Fence.wide 0 E.P fn fun e w' => ∃ ae S' c',c.le c'∧R ae S'∧EndRel c' ae e∧StRel c' S' w') .normal a3 w3)
   (Exit.then (x.wpIn Fence.wide 0 E.P (bodyPostM Fence.wide 0 E.P fn fun e w' => ∃ ae S' c',c.le c'∧R ae S'∧EndRel c' ae e∧StRel c' S' w')) (bodyPostM Fence.wide 0 E.P fn fun e w' => ∃ ae S' c',c.le c'∧R ae S'∧EndRel c' ae e∧StRel c' S' w')):=by
  have hv:(a1.put (some t) v1).eval (.tmp t)=v1:=by
   have hlt:t<a1.tmps.size:=by rw [h3.size];exact ht
   simp [Act.eval,Act.put,qB,hlt]
  cases k3 with
  | func _ _ _ f2 c2v hl1 hl2 hff hcc =>
  have hf2:f2=#[]:=by apply Array.ext';simpa using hl1.symm
  subst hf2
  refine ⟨fun _ _=>trivial, ?_⟩
  have hex:(o2.semAt Fence.wide.round (a1.put (some t) (.func (.func g) #[] c2v)).eval).run E.P w2=.ok (.defer { target:=.fn (.func g) c2v,args:=#[] }) w2:=by
   show (execOp _ o2).run E.P w2=_
   simp only [execOp,ho2,resolve,hv,Deferred.ofValue,yW,yX,yV]
   simp
  rw [hex,Oper.uponIn_defer,hd2]
  show x.wpIn Fence.wide 0 E.P _ _ w2
  have sim3:Sim (E.from S1) c2 c2 [{ target:=.fn (.func g) c2v,args:=#[] }] (ts1.set t (.func (.func g) [] caps)) S1 (({ a1.put (some t) (.func (.func g) #[] c2v) with defers:={ target:=.fn (.func g) c2v,args:=#[] } :: (a1.put (some t) (.func (.func g) #[] c2v)).defers }:Act).put none Go.undef) w2:=by
   refine ⟨(Cx.le.refl c2).S,hC _,⟨fun i n e=>(sim2.st.dom i n e).1,fun k x e=>(sim2.st.tdom k x e).1⟩,sim2.st,sim2.ts, ?_,sim2.size⟩
   have:(a1.put (some t) (.func (.func g) #[] c2v)).defers=[]:=hd0
   show Marks _ _ _ _ (_ :: (a1.put (some t) (.func (.func g) #[] c2v)).defers)
   rw [this]
   exact Marks.nil _ _ _ _
  have hwx:=WC_ok draws (toMC_ok _ _ hmx) (E.from S1) (hE.from S1) rfl rfl c2 _ _ _ S1 c2 _ w2 hx sim3
  rw [Env.F_wide (show (E.from S1).R=none from hR)] at hwx
  refine wpIn_mono hwx fun e a4 w4 hq4 => ?_
  obtain ⟨ae,ts4,S4,c4,q1,q2,q3⟩:=hq4
  have hdefs:=nodef q3.ds
  have hle4:c.leS c4:=sim2.le.trans q3.le
  have hback:c.le (c4.withXO c.XO):=hle4.back
  have hst4:StRel (c4.withXO c.XO) S4 w4:=by
   refine q3.st.withXO _ (fun b ob e=>q3.st.XO b ob (hle4.XO b ob e)) fun i n B _ _ _ e3 => ?_
   cases hx:c.XO n with
   | none=>rfl
   | some ob=>rw [hle4.XO n ob hx] at e3;cases e3
  have htf:=q3.ts
  have hcap:LRel (c4.withXO c.XO) caps c2v.toList:=
   ⟨by simpa using hl2,fun j x v h1 h2=>((hcc j x v h1 (by simpa using h2)).mono3 (c':=c4) ⟨q3.le.K,q3.le.μ,q3.le.τ⟩).withXO c.XO⟩
  have fin:∀ (pan:Option AV) (u:FrameMode),u ≠ .run→modeOf (c4.withXO c.XO) pan u→DC E.P g caps pan S4 (fun S2 => ∃ vs,resA E.T S2 ts4 fn.results.toList=some vs∧R (.ret (tupA vs)) S2) →
    LeavesInM Fence.wide 0 E.P fn a4.tmps (fun e w' => ∃ ae S' c',c.le c'∧R ae S'∧EndRel c' ae e∧StRel c' S' w') a4.defers u w4:=by
   intro pan u hu hm hdc
   rw [hdefs]
   refine ⟨hu,.inr ⟨fun hh=>by simp [Fence.wide] at hh,.func g,c2v,g,c2v,rfl, ?_,fun _ _=>trivial, ?_⟩⟩
   ·simp only [invoke]
    rw [show (#[] ++ c2v:Array Value)=c2v by simp]
    exact zCl hcall _ _
   ·have:=hdc (c4.withXO c.XO) w4 c2v.toList u hst4 hcap hm
    rw [show c2v.toList.toArray=c2v by simp] at this
    refine this.mono fun e u' w5 ⟨⟨y,hy⟩,hset,S5,c5,r1,⟨vs5,r2,r3⟩,r4⟩ => ?_
    subst hy
    show LeavesInM _ _ _ _ _ _ [] (settle u') w5
    rw [hset]
    obtain ⟨z,z1,z2⟩:=results_ok (P:=E.P) hE.T r4 (fun d u hu=>((htf d u hu).withXO c.XO).mono r1) fn r2
    exact ⟨z,z1,.ret (tupA vs5),S5,c5,hback.trans r1,r3,z2,r4⟩
  cases ae with
  | exit i=>exact q2.elim
  | normal =>
   cases e <;> first | exact q1.elim | skip
   exact fin none .returning (by simp) rfl q2
  | ret =>
   cases e <;> first | exact q1.elim | skip
   exact fin none .returning (by simp) rfl q2
  | panic v =>
   cases e <;> first | exact q1.elim | skip
   obtain ⟨y,hy1,hy2⟩:=q1
   subst hy1
   exact fin (some v) (.panicking [{ v:=y,recovered:=false }]) (by simp) ⟨y,rfl,hy2.withXO _⟩ q2
 unfold Oper.wpIn
 refine ⟨fun _ _=>trivial, ?_⟩
 rw [Oper.semAt_eq _ _ _ nd1]
 rcases hy with hy | ⟨hy,rfl⟩
 ·rw [hy,Oper.uponIn_value,hd1];exact hrest
 ·rw [hy,Oper.uponIn_skip,hd1];exact hrest
end Go.Av
end
section
namespace Go.Av.Fx
open Go Go.Av Go.Av.Tb Go.Proofs
open Go.Fw (Sq ent Bd Mat)
theorem AC.of_iso {P:Program} {f:FuncId} {args:List AV} {Q Qp:AV→Prop} (h:AC P f args St.empty fun e _=>(∃ v,e=.ret v∧Q v)∨(∃ v,e=.panic v∧Qp v)) (ha:bndL 0 0 args=true) (hQ:∀ v,Q v→v.bnd 0 0=true) (hQp:∀ v,Qp v→v.bnd 0 0=true) (S:St) :
  AC P f args S fun e S'=>((∃ v,e=.ret v∧Q v)∨(∃ v,e=.panic v∧Qp v))∧S'=S:=by
 intro c w vs hs hl
 obtain ⟨cE,hE,eK,eμ,eτ,esz,eX,eXO,eB,eT,eF⟩:=hide hs
 refine (h cE w vs hE (hl.free ha fun b o u e=>by rw [eK];exact e)).mono fun e w' ⟨ae,S',c',h1,h2,h3,h4⟩ => ?_
 obtain ⟨g1,g2⟩:=unhide hs h1 h4 eK esz eX eXO eB eT hE eF.1 eF.2.1 eF.2.2
 rcases h2 with ⟨v,rfl,hv⟩ | ⟨v,rfl,hv⟩
 ·cases e with
  | returned x=>exact ⟨.ret v,S,back c c',g1,⟨.inl ⟨v,rfl,hv⟩,rfl⟩,VRel.free h3 (hQ v hv) (fun _ _ _ e=>e),g2⟩
  | panicked ch=>exact h3.elim
  | outgrown=>exact h3.elim
 ·cases e with
  | returned x=>exact h3.elim
  | panicked ch =>
   obtain ⟨x,hx,hxv⟩:=h3
   exact ⟨.panic v,S,back c c',g1,⟨.inr ⟨v,rfl,hv⟩,rfl⟩,⟨x,hx,VRel.free hxv (hQp v hv) (fun _ _ _ e=>e)⟩,g2⟩
  | outgrown=>exact h3.elim
structure Truth where
 inflow:Int
 losses:List Int
abbrev trC (t:Truth):List AV:=[.int .i64 t.inflow,sl t.losses]
attribute [go_sem] trC
end Go.Av.Fx
end
section
namespace Go.Av.Fx
open Go Go.Av Go.Av.Tb Go.Proofs
open Go.Lv (Sight Survey Sw Sv SightOk)
abbrev sgtC (x:Sight):List AV:=[.int .i64 x.frm,.int .i64 x.to,.int .i64 x.rise,.int .i64 x.off]
def sgts (l:List Sight):List AV:=l.flatMap sgtC
@[simp] theorem zAx (l:List Sight):(sgts l).length=4 * l.length:=by
 induction l with
 | nil=>rfl
 | cons c l ih=>simp only [sgts,yD,qE] at ih ⊢;rw [ih];simp [sgtC];omega
@[simp] theorem sgts_bnd (n k:Nat) (l:List Sight):bndL n k (sgts l)=true:=zBd _ (fun _=>rfl) l
abbrev surC (s:Survey):List AV:=[.int .i64 s.stations,.slice (sgts s.sights) s.sights.length .unk]
abbrev surA (s:Survey):AV:=.agg (surC s)
attribute [go_sem] surC sgtC
theorem zBy:∀ (l:List Sight) (k:Nat) (h:k<l.length),((sgts l).drop (k * 4)).take 4=sgtC l[k]
 | c :: l,0,h=>by simp [sgts,sgtC]
 | c :: l,k+1,h=>by
  have:=zBy l k (by simpa using h)
  rw [show (k+1) * 4=4+k * 4 by omega,← List.drop_drop]
  simpa [sgts,sgtC] using this
theorem rin_pc (x lo hi:Int):PC Tryz.prog 88 [.int .i64 x,.int .i64 lo,.int .i64 hi] (.pure (.bool (inB x lo hi))):=by
 refine PC.of_empty (AC.run (E_ok _) mix Tryz.func88 m88 rfl rfl rfl (zE rfl) ?_) rfl rfl
 simp only [go_sem,zB,zD,zC,reduceIte,reduceCtorEq,zA]
 refine sg_dec (fun h => ?_) (fun h => ?_)
 ·simp only [go_sem,h,decide_true,Tryz.f88,zB,zD,zC,reduceIte,reduceCtorEq,zA]
  unfold inB;rw [decide_eq_true h];rfl
 ·simp only [go_sem,h,decide_false,Tryz.f88,zB,zD,zC,reduceIte,reduceCtorEq,zA]
  unfold inB;rw [decide_eq_false h];rfl
def lastS (s:Survey):Int:=IntKind.i64.wrap (s.stations - 1)
def staB (s:Survey) (n:Int):Bool:=inB n 0 (lastS s)
theorem zCp (s:Survey) (n:Int):PC Tryz.prog 142 [surA s,.int .i64 n] (.pure (.bool (staB s n))):=by
 refine PC.of_empty (AC.run (E_ok _) mix Tryz.func142 m142 rfl rfl rfl (zE rfl) ?_) (by simp [bndL,AV.bnd]) rfl
 simp only [go_sem,boxA,zB,zD,zC,reduceIte,reduceCtorEq,zA]
 refine cp n100 (in_pc _ _ _) (SubL.refl _) ?_
 simp only [go_sem,Tryz.f142,zB,zD,zC,reduceIte,reduceCtorEq,zA]
 rfl
theorem rStation_pc (s:Survey) (n:Int):PC Tryz.prog 30 [surA s,.int .i64 n] (.pure (.bool (staB s n))):=by
 refine PC.of_empty (AC.run (E_ok _) mix Tryz.func30 m30 rfl rfl rfl (zE rfl) ?_) (by simp [bndL,AV.bnd]) rfl
 simp only [go_sem,boxA,zB,zD,zC,reduceIte,reduceCtorEq,zA]
 refine cp n88 (rin_pc _ _ _) (SubL.refl _) ?_
 simp only [go_sem,Tryz.f30,zB,zD,zC,reduceIte,reduceCtorEq,zA]
 rfl
theorem endsS_pc (x:Sight):PC Tryz.prog 238 [.agg (sgtC x)] (.pure (.tuple [.int .i64 x.frm,.int .i64 x.to])):=by
 refine PC.of_empty (AC.run (E_ok _) mix Tryz.func238 m238 rfl rfl rfl (zE rfl) ?_) (by simp [bndL,AV.bnd]) rfl
 simp only [go_sem,boxA,Tryz.f238,zB,zD,zC,reduceIte,reduceCtorEq,zA]
def linkB (s:Survey) (a b:Int):Bool:=staB s a && (staB s b && decide (a≠b))
theorem zEu (s:Survey) {t:TypeId} {g:FuncId} (hM:lvM t "quinaria/level.ends" = some g) (ng:Callable Tryz.prog g) (v:AV) (hv:v.bnd 0 0=true) (a b:Int) (hg:PC Tryz.prog g [v] (.pure (.tuple [.int .i64 a,.int .i64 b]))) :
  PC Tryz.prog 115 [surA s,.iface t v] (.pure (.bool (linkB s a b))):=by
 refine PC.of_empty (AC.run (E_ok _) mix Tryz.func115 m115 rfl rfl rfl (zE rfl) ?_) (by simp [bndL,AV.bnd,hv]) rfl
 have hM':∀ n,(E n).M t "quinaria/level.ends" = some g:=fun n=>hM
 unfold linkB
 simp only [go_sem,boxA,hM',zV,zB,zD,zC,reduceIte,reduceCtorEq,zA]
 refine cp ng hg (SubL.refl _) ?_
 simp only [go_sem,zAc,zB,zD,zC,reduceIte,reduceCtorEq,zA]
 refine cp n142 (zCp s a) (SubL.refl _) ?_
 cases ha:staB s a
 ·simp only [go_sem,Tryz.f115,zB,zD,zC,reduceIte,reduceCtorEq,zA]
  rfl
 simp only [go_sem,zB,zD,zC,reduceIte,reduceCtorEq,zA]
 refine cp n142 (zCp s b) (SubL.refl _) ?_
 cases hb:staB s b
 ·simp only [go_sem,Tryz.f115,zB,zD,zC,reduceIte,reduceCtorEq,zA]
  rfl
 simp only [go_sem,Tryz.f115,zB,zD,zC,reduceIte,reduceCtorEq,zA]
 rfl
@[go_sem] theorem bd_sight (a b c d:Int):buildA T 140 [(0,.agg [.int .i64 a,.int .i64 b,.int .i64 c,.int .i64 d])]=some (.agg [.int .i64 a,.int .i64 b,.int .i64 c,.int .i64 d]):=rfl
@[go_sem] theorem d_sight:descOf T 140=some ti140.desc:=rfl
@[go_sem] theorem i_sight:isIface ti140.desc=false:=rfl
def badSgt (s:Survey) (x:Sight):Bool:=!linkB s x.frm x.to || (!inB x.rise (-1000) 1000 || !inB x.off 0 50)
theorem isSurvey1_pc (s:Survey) (x:Sight):PC Tryz.prog 145 [.agg (sgtC x),.eptr (surC s) 0] (.pure (.bool (badSgt s x))):=by
 refine PC.of_empty (AC.run (E_ok _) mix Tryz.func145 m145 rfl rfl rfl (zE rfl) ?_) (by simp [bndL,AV.bnd]) rfl
 have hI:=zEu s (t:=140) (g:=238) rfl n238 (.agg (sgtC x)) (by simp [AV.bnd,bndL]) _ _ (endsS_pc x)
 unfold badSgt
 simp only [go_sem,boxA,zB,zD,zC,reduceIte,reduceCtorEq,zA]
 refine cp n115 hI (SubL.refl _) ?_
 cases hl:linkB s x.frm x.to
 ·simp only [go_sem,zAi,qF,Tryz.f145,zB,zD,zC,reduceIte,reduceCtorEq,zA]
 simp only [go_sem,zAi,zX,zB,zD,zC,reduceIte,reduceCtorEq,zA]
 refine cp n100 (in_pc _ _ _) (SubL.refl _) ?_
 rw [show (decide (x.rise ≥ -1000) && decide (x.rise≤1000))=inB x.rise (-1000) 1000 from rfl]
 cases hr:inB x.rise (-1000) 1000
 ·simp only [go_sem,zAi,qF,Tryz.f145,zB,zD,zC,reduceIte,reduceCtorEq,zA]
 simp only [go_sem,zAi,zX,zB,zD,zC,reduceIte,reduceCtorEq,zA]
 refine cp n100 (in_pc _ _ _) (SubL.refl _) ?_
 rw [show (decide (x.off ≥ 0) && decide (x.off≤50))=inB x.off 0 50 from rfl]
 simp only [go_sem,zAi,Tryz.f145,zB,zD,zC,reduceIte,reduceCtorEq,zA]
theorem indexFuncS_pc (l:List Sight) (hl:okL l.length) (g:FuncId) (ng:Callable Tryz.prog g) (caps:List AV) (hc:bndL 0 0 caps=true) (p:Sight→Bool) (hg:∀ x∈l,PC Tryz.prog g (.agg (sgtC x) :: caps) (.pure (.bool (p x)))) :
  PC Tryz.prog 170 [.slice (sgts l) l.length .unk,.func (.func g) [] caps] (.pure (.int .i64 (idx p l))):=by
 refine PC.of_empty (AC.run (E_ok _) mix Tryz.func170 m170 rfl rfl rfl (zE rfl) ?_) (by simp [bndL,AV.bnd,hc]) rfl
 simp only [go_sem,zAa,zB,zD,zC,reduceIte,reduceCtorEq,zA]
 refine zBj l.length (fun k => ∀ i (hi:i<k) (hil:i<l.length),p l[i]=false) (fun k=>[(0,.slice (sgts l) l.length .unk),(1,.func (.func g) [] caps),(7,.int .i64 l.length),(8,.int .i64 k)]) (fun _=>St.empty) (fun i hi=>absurd hi (yC _)) rfl rfl ?_
 intro k hk hP I hI
 by_cases h:k<l.length
 ·have h':(k:Int)<l.length:=by omega
  have h2:0≤(k:Int)∧(k:Int)<l.length:=by omega
  have h3:k * 4+4≤(sgts l).length:=by rw [zAx];omega
  have h4:IntKind.i64.wrap ((k:Int)+1)=(k+1:Nat):=wrap64 (by omega)
  have h5:=zBy l k h
  simp only [go_sem,l170_0,h',decide_true,zB,zD,zC,reduceIte,reduceCtorEq,zA]
  simp only [go_sem,h2,zAg,and_self,h3,h5,zB,zD,zC,reduceIte,reduceCtorEq,zA]
  refine cp ng (hg _ (qA h)) (SubL.refl _) ?_
  simp only [go_sem,zB,zD,zC,reduceIte,reduceCtorEq,zA]
  refine sb_bool (fun hb => ?_) (fun hb => ?_)
  ·simp only [go_sem,Tryz.f170,zB,zD,zC,reduceIte,reduceCtorEq,zA]
   rw [idx_at h hb (fun i hi=>hP i hi (by omega))]
  ·simp only [go_sem,h4,zB,zD,zC,reduceIte,reduceCtorEq,zA]
   refine hI h fun i hi hil => ?_
   by_cases e:i=k
   ·subst e;exact hb
   ·exact hP i (by omega) hil
 ·have h':¬ (k:Int)<l.length:=by omega
  simp only [go_sem,l170_0,h',decide_false,Tryz.f170,zB,zD,zC,reduceIte,reduceCtorEq,zA]
  rw [zEs fun i hi=>hP i (by omega) hi]
theorem containsFuncS_pc (l:List Sight) (hl:okL l.length) (g:FuncId) (ng:Callable Tryz.prog g) (caps:List AV) (hc:bndL 0 0 caps=true) (p:Sight→Bool) (hg:∀ x∈l,PC Tryz.prog g (.agg (sgtC x) :: caps) (.pure (.bool (p x)))) :
  PC Tryz.prog 131 [.slice (sgts l) l.length .unk,.func (.func g) [] caps] (.pure (.bool (l.any p))):=by
 refine PC.of_empty (AC.run (E_ok _) mix Tryz.func131 m131 rfl rfl rfl (zE rfl) ?_) (by simp [bndL,AV.bnd,hc]) rfl
 simp only [go_sem,zB,zD,zC,reduceIte,reduceCtorEq,zA]
 refine cp n170 (indexFuncS_pc l hl g ng caps hc p hg) (SubL.refl _) ?_
 simp only [go_sem,Tryz.f131,zDc,zB,zD,zC,reduceIte,reduceCtorEq,zA]
def zAp (s:Survey):Bool:=inB s.stations 2 8 && (decide ((s.sights.length:Int)≤14) && !s.sights.any (badSgt s))
theorem zBp (s:Survey) (hl:okL s.sights.length):PC Tryz.prog 89 [surA s] (.pure (.bool (zAp s))):=by
 refine PC.of_empty (AC.run (E_ok _) mix Tryz.func89 m89 rfl rfl rfl (zE rfl) ?_) (by simp [bndL,AV.bnd]) rfl
 unfold zAp
 simp only [go_sem,boxA,zB,zD,zC,reduceIte,reduceCtorEq,zA]
 refine cp n100 (in_pc _ _ _) (SubL.refl _) ?_
 rw [show (decide (s.stations ≥ 2) && decide (s.stations≤8))=inB s.stations 2 8 from rfl]
 cases h1:inB s.stations 2 8
 ·simp only [go_sem,Tryz.f89,zB,zD,zC,reduceIte,reduceCtorEq,zA]
  rfl
 by_cases h2:(s.sights.length:Int)≤14
 rotate_left
 ·simp only [go_sem,zAa,h2,decide_false,Tryz.f89,zB,zD,zC,reduceIte,reduceCtorEq,zA]
  rfl
 have hC:=containsFuncS_pc s.sights hl 145 n145 [.eptr (surC s) 0] (by simp [bndL,AV.bnd]) (badSgt s) (fun x _=>isSurvey1_pc s x)
 simp only [go_sem,zAa,h2,decide_true,zB,zD,zC,reduceIte,reduceCtorEq,zA]
 refine cl n131 hC (LntL.cons (.same _ (by simp [AV.bnd])) (LntL.cons (Lnt.func1 (.ptr 0 0 _ rfl (by simp [bndL,AV.bnd]))) (LntL.nil _))) rfl ?_
 simp only [go_sem,zAi,Tryz.f89,zB,zD,zC,reduceIte,reduceCtorEq,zA]
 rfl
theorem last_eq {s:Survey} (h:2≤s.stations∧s.stations≤8):lastS s=s.stations - 1:=wrap64 (by omega)
theorem zBu {s:Survey} (h:2≤s.stations∧s.stations≤8) {n:Int}:staB s n=true↔0≤n∧n<s.stations:=by
 unfold staB;rw [inB_iff,last_eq h];omega
theorem sgt_iff {s:Survey} (h:2≤s.stations∧s.stations≤8) {x:Sight}:badSgt s x=false↔SightOk s.stations x:=by
 unfold badSgt linkB
 rw [Bool.or_eq_false_iff,Bool.or_eq_false_iff,Bool.not_eq_false',Bool.not_eq_false',Bool.not_eq_false',zR,zR,zBu h,zBu h,inB_iff,inB_iff,decide_eq_true_iff]
 exact ⟨fun ⟨⟨a,b,c⟩,d,e⟩=>⟨a,b,c,d,e⟩,fun ⟨a,b,c,d,e⟩=>⟨⟨a,b,c⟩,d,e⟩⟩
theorem zDp {s:Survey}:zAp s=true↔Sv s:=by
 unfold zAp
 rw [zR,zR,inB_iff,decide_eq_true_iff,Bool.not_eq_true',List.any_eq_false]
 constructor
 ·rintro ⟨h1,h2,h3⟩
  exact ⟨⟨h1,fun x hx=>(sgt_iff h1).1 (by simpa using h3 x hx)⟩,by omega⟩
 ·rintro ⟨⟨h1,h2⟩,h3⟩
  exact ⟨h1,by omega,fun x hx=>by rw [(sgt_iff h1).2 (h2 x hx)];decide⟩
theorem rsights_pc (s:Survey) (hl:s.sights.length≤1000):PC Tryz.prog 96 [surA s] (.pure (.bool (!s.sights.any (badSgt s)))):=by
 refine PC.of_empty (AC.run (E_ok _) mix Tryz.func96 m96 rfl rfl rfl (zE rfl) ?_) (by simp [bndL,AV.bnd]) rfl
 simp only [go_sem,boxA,zB,zD,zC,reduceIte,reduceCtorEq,zA]
 refine wc_forGP s.sights.length (fun k => ∀ i (hi:i<k) (hil:i<s.sights.length),badSgt s s.sights[i]=false) (fun k=>[(1,.ref 0 0),(3,.int .i64 k)]) (fun _=>⟨[some (.cells (surC s))],0,[]⟩) (fun i hi=>absurd hi (yC _)) rfl rfl (fun k hk => ?_) ?_
 ·refine ⟨qI _,qI _,by simp [bndTS,AV.bnd],fun i B hB => ?_,fun t ht=>by cases ht⟩
  match i,hB with
  | 0,hB=>simp at hB;subst hB;simp [Blk.bnd,bndL,AV.bnd]
  | i+1,hB=>simp at hB
 intro k hk hP I hI
 by_cases h:k<s.sights.length
 ·have h1:(k:Int)<s.sights.length:=by omega
  have h2:0≤(k:Int)∧(k:Int)<s.sights.length:=by omega
  have h3:k * 4+4≤(sgts s.sights).length:=by rw [zAx];omega
  have h4:IntKind.i64.wrap ((k:Int)+1)=(k+1:Nat):=wrap64 (by omega)
  have h5:=zBy s.sights k h
  have hany:badSgt s s.sights[k]=true→(!s.sights.any (badSgt s))=false:=fun hh=>by
   rw [Bool.not_eq_false',List.any_eq_true]
   exact ⟨_,qA h,hh⟩
  have hnx:badSgt s s.sights[k]=false → ∀ i (hi:i<k+1) (hil:i<s.sights.length),badSgt s s.sights[i]=false:=fun hh i hi hil=>by
   by_cases e:i=k
   ·subst e;exact hh
   ·exact hP i (by omega) hil
  have hI:=hI h
  generalize s.sights[k]=x at *
  have hb:badSgt s x=(!(staB s x.frm && (staB s x.to && decide (x.frm≠x.to))) || (!inB x.rise (-1000) 1000 || !inB x.off 0 50)):=rfl
  simp only [go_sem,l96_0,zAa,h1,decide_true,h2,h3,h5,zB,zD,zC,reduceIte,reduceCtorEq,zA]
  refine cp n30 (rStation_pc s x.frm) (SubL.refl _) ?_
  cases h6:staB s x.frm
  ·rw [hany (by rw [hb,h6];rfl)]
   simp only [go_sem,zAi,qF,Tryz.f96,zB,zD,zC,reduceIte,reduceCtorEq,zA]
  simp only [go_sem,zAi,zX,zB,zD,zC,reduceIte,reduceCtorEq,zA]
  refine cp n30 (rStation_pc s x.to) (SubL.refl _) ?_
  cases h7:staB s x.to
  ·rw [hany (by rw [hb,h6,h7];rfl)]
   simp only [go_sem,zAi,qF,Tryz.f96,zB,zD,zC,reduceIte,reduceCtorEq,zA]
  by_cases h8:x.frm=x.to
  ·rw [hany (by rw [hb,h6,h7,decide_eq_false (fun hh=>hh h8)];rfl)]
   have d8:=decide_eq_true h8
   simp only [go_sem,zAi,zX,d8,Tryz.f96,zB,zD,zC,reduceIte,reduceCtorEq,zA]
  have d8:=decide_eq_false h8
  simp only [go_sem,zAi,zX,d8,zB,zD,zC,reduceIte,reduceCtorEq,zA]
  refine cp n88 (rin_pc _ _ _) (SubL.refl _) ?_
  cases h9:inB x.rise (-1000) 1000
  ·rw [hany (by rw [hb,h9];simp)]
   simp only [go_sem,zAi,qF,Tryz.f96,zB,zD,zC,reduceIte,reduceCtorEq,zA]
  simp only [go_sem,zAi,zX,zB,zD,zC,reduceIte,reduceCtorEq,zA]
  refine cp n88 (rin_pc _ _ _) (SubL.refl _) ?_
  cases h10:inB x.off 0 50
  ·rw [hany (by rw [hb,h10];simp)]
   simp only [go_sem,zAi,qF,Tryz.f96,zB,zD,zC,reduceIte,reduceCtorEq,zA]
  simp only [go_sem,zAi,zX,h4,zB,zD,zC,reduceIte,reduceCtorEq,zA]
  exact hI (hnx (by rw [hb,h6,h7,h9,h10,decide_eq_true h8];rfl)) [_]
 ·have h1:¬ (k:Int)<s.sights.length:=by omega
  have ht:(!s.sights.any (badSgt s))=true:=by
   rw [Bool.not_eq_true',List.any_eq_false]
   intro x hx
   obtain ⟨i,hi,rfl⟩:=List.mem_iff_getElem.1 hx
   rw [hP i (by omega) hi];decide
  simp only [go_sem,l96_0,zAa,h1,decide_false,Tryz.f96,zB,zD,zC,reduceIte,reduceCtorEq,zA]
  rw [ht]
theorem rSurvey_pc (s:Survey) (hl:okL s.sights.length):PC Tryz.prog 33 [surA s] (.pure (.bool (zAp s))):=by
 refine PC.of_empty (AC.run (E_ok _) mix Tryz.func33 m33 rfl rfl rfl (zE rfl) ?_) (by simp [bndL,AV.bnd]) rfl
 unfold zAp
 simp only [go_sem,boxA,zB,zD,zC,reduceIte,reduceCtorEq,zA]
 refine cp n88 (rin_pc _ _ _) (SubL.refl _) ?_
 cases h1:inB s.stations 2 8
 ·simp only [go_sem,Tryz.f33,zB,zD,zC,reduceIte,reduceCtorEq,zA]
  rfl
 by_cases h2:(s.sights.length:Int)≤14
 rotate_left
 ·simp only [go_sem,zAa,h2,decide_false,Tryz.f33,zB,zD,zC,reduceIte,reduceCtorEq,zA]
  rfl
 simp only [go_sem,zAa,h2,decide_true,zB,zD,zC,reduceIte,reduceCtorEq,zA]
 refine cp n96 (rsights_pc s (by omega)) (SubL.refl _) ?_
 simp only [go_sem,Tryz.f33,zB,zD,zC,reduceIte,reduceCtorEq,zA]
 rfl
structure HsOk (n:Int) (hs:List Int):Prop where
 len:(hs.length:Int)=n
 bd:∀ h∈hs,-20000≤h∧h≤20000
theorem HsOk.at {n:Int} {hs:List Int} (h:HsOk n hs) (i:Nat):-20000≤hs.getD i 0∧hs.getD i 0≤20000:=by
 rw [zI]
 cases hx:hs[i]? with
 | none=>simp
 | some g=>exact h.bd g (List.mem_of_getElem? hx)
end Go.Av.Fx
end
section
namespace Go.Av.Fx
open Go Go.Av Go.Av.Tb Go.Proofs
open Go.Lv (Sight Survey Sw Sv SightOk)
open Go.Fw (Sq ent Bd Mat)
def sB (x:Sight):List Bound:=[⟨x.frm,x.to,IntKind.i64.wrap (x.rise+x.off)⟩,⟨x.to,x.frm,IntKind.i64.wrap (x.off - x.rise)⟩]
theorem zDq (x:Sight):PC Tryz.prog 91 [.agg (sgtC x)] (.pure (.slice (bnds (sB x)) 2 .exact)):=by
 refine PC.of_empty (AC.run (E_ok _) mix Tryz.func91 m91 rfl rfl rfl (zE rfl) ?_) (by simp [bndL,AV.bnd]) (by simp [AV.bnd])
 simp only [go_sem,boxA,Tryz.f91,zB,zD,zC,reduceIte,reduceCtorEq,zA]
 rfl
theorem sB_eq {n:Int} {x:Sight} (h:SightOk n x):(sB x).map bd=Lv.sightB x:=by
 have h1:=h.rise;have h2:=h.off
 have w1:IntKind.i64.wrap (x.rise+x.off)=x.rise+x.off:=wrap64 (by omega)
 have w2:IntKind.i64.wrap (x.off - x.rise)=x.off - x.rise:=wrap64 (by omega)
 simp only [sB,w1,w2];rfl
def sumF (acc:Int):List Int→Int
 | []=>acc
 | x :: l=>if x ≥ far then far else sumF (IntKind.i64.wrap (acc+x)) l
theorem sum_pc' (l:List Int) (hl:okL l.length):PC Tryz.prog 151 [sl l] (.pure (.int .i64 (sumF 0 l))):=by
 refine PC.of_empty (AC.run (E_ok _) mix Tryz.func151 m151 rfl rfl rfl (zE rfl) ?_) (by simp [bndL,AV.bnd]) rfl
 generalize hz:sumF 0 l=z
 simp only [go_sem,zAa,zB,zD,zC,reduceIte,reduceCtorEq,zA]
 refine zAs (fun m ts' S' => ∃ k acc,k≤l.length∧m=l.length - k∧sumF acc (l.drop k)=z∧ts'=[(3,.int .i64 acc),(6,sl l),(7,.int .i64 l.length),(8,.int .i64 k)]∧S'=St.empty) l.length ⟨0,0,qI _,rfl,hz,rfl,rfl⟩ ?_
 rintro m ts' S' ⟨k,acc,hk,rfl,hs,rfl,rfl⟩
 by_cases h:k<l.length
 ·have h1:(k:Int)<l.length:=by omega
  have h2:0≤(k:Int)∧(k:Int)<l.length:=by omega
  have h3:l[k]? = some l[k]:=zF h
  have h4:IntKind.i64.wrap ((k:Int)+1)=(k+1:Nat):=wrap64 (by unfold okL at hl;omega)
  rw [List.drop_eq_getElem_cons h] at hs
  unfold sumF at hs
  by_cases g:l[k] ≥ far
  ·rw [if_pos g] at hs
   have g':l[k] ≥ 1099511627776:=g
   simp only [go_sem,l151_0,h1,decide_true,h2,zBa,h3,zV,zAg,zB,zD,zC,reduceIte,reduceCtorEq,zA]
   simp only [go_sem,g',decide_true,Tryz.f151,zB,zD,zC,reduceIte,reduceCtorEq,zA]
   rw [← hs];rfl
  ·rw [if_neg g] at hs
   have g':¬ l[k] ≥ 1099511627776:=g
   simp only [go_sem,l151_0,h1,decide_true,h2,zBa,h3,zV,zAg,zB,zD,zC,reduceIte,reduceCtorEq,zA]
   simp only [go_sem,g',decide_false,h4,zB,zD,zC,reduceIte,reduceCtorEq,zA]
   exact zAh (l.length - (k+1)) (by omega) ⟨k+1,_,h,rfl,hs,rfl,rfl⟩
 ·have h1:¬ (k:Int)<l.length:=by omega
  rw [List.drop_of_length_le (by omega)] at hs
  unfold sumF at hs
  simp only [go_sem,l151_0,h1,decide_false,Tryz.f151,zB,zD,zC,reduceIte,reduceCtorEq,zA]
  rw [hs]
def MoreA (ds:List Bound) (M:AV) (S:St) (N:Nat):Prop:=(M=.nilS∧ds=[]) ∨ ∃ k,M=.slice (bnds ds) ds.length (.tok k)∧k∈S.toks∧k<N
theorem MoreA.app {ds l:List Bound} {M:AV} {S:St} {N:Nat} (h:MoreA ds M S N) (hN:N≤S.nt) (hl:l≠[]) (hlen:ds.length+l.length≤1000000) {tl:Tail} {K:AV→St→Prop} {hK:Hold K} (next:∀ M' toks,MoreA (ds ++ l) M' ⟨S.heap,S.nt+1,toks⟩ (S.nt+1)→K M' ⟨S.heap,S.nt+1,toks⟩) :
  sr K hK (appendA T S 138 M (.slice (bnds l) l.length tl)) S:=by
 have hp:l.length≠0:=fun e=>hl (List.length_eq_zero_iff.1 e)
 rcases h with ⟨rfl,rfl⟩ | ⟨k,rfl,hk,hkN⟩
 ·have:appendA T S 138 .nilS (.slice (bnds l) l.length tl)=some (.tok none fun j=>.slice (bnds l) l.length (.tok j)):=by
   unfold appendA
   rw [show descOf T 138=some (.slice 150) from rfl]
   simp only [show T 150=some ti150 from rfl]
   rw [if_neg (by decide)]
   have hh:heldA S ti150.size (.slice (bnds l) l.length tl)=some (bnds l,l.length):=by
    unfold heldA
    simp [show ti150.size=3 from rfl,Nat.mul_comm]
   rw [hh]
   simp only [if_neg hp,bnds_one,zX,zU,if_false]
   have hb:ti150.bytes=24:=rfl
   rw [if_pos ⟨by rw [hb];simp at hlen;omega,by simp at hlen;omega⟩]
  rw [this,sr_tok]
  exact next _ _ (.inr ⟨S.nt,rfl,zO,Nat.lt_succ_self _⟩)
 ·rw [zCt (e:=150) (ei:=ti150) (lx:=bnds l) (nx:=l.length) rfl rfl (by decide) (by unfold heldA;simp [show ti150.size=3 from rfl,Nat.mul_comm]) hp (bnds_one l) (by rw [show ti150.bytes=24 from rfl];omega) (by omega) (by rw [bnds_len,show ti150.size=3 from rfl];omega)]
  rw [zBx]
  refine ⟨hk, ?_⟩
  rw [bnds_app,← qE]
  exact next _ _ (.inr ⟨S.nt,rfl,zO,Nat.lt_succ_self _⟩)
theorem MoreA.mono {ds:List Bound} {M:AV} {S S':St} {N N':Nat} (h:MoreA ds M S N) (ht:∀ k∈S.toks,k<N→k∈S'.toks) (hN:N≤N'):MoreA ds M S' N':=by
 rcases h with h | ⟨k,h1,h2,h3⟩
 ·exact .inl h
 ·exact .inr ⟨k,h1,ht k h2 h3,by omega⟩
end Go.Av.Fx
end
section
namespace Go.Av.Fx
open Go Go.Av Go.Av.Tb Go.Proofs
open Go.Lv (Sight Survey Sw Sv SightOk)
open Go.Fw (Sq ent Bd Mat upd row stage upto)
theorem zAn {h:List (Option Blk)} {b:Nat} {l:List AV} (hb:cellsAt h b=some l) (g:List (Option Blk)):cellsAt (h ++ g) b=some l:=by
 unfold cellsAt at hb ⊢
 have:b<h.length:=by
  rcases zW b h.length with h' | h'
  ·exact h'
  ·rw [zP h'] at hb;cases hb
 rw [qO this];exact hb
theorem zAf (h:List (Option Blk)) (l:List AV):cellsAt (h ++ [some (.cells l)]) h.length=some l:=by
 unfold cellsAt;rw [qD (zN _),Nat.sub_self];rfl
theorem zAt (h:List (Option Blk)) (x:Option Blk) (B:Blk):setH (h ++ [x]) h.length B=h ++ [some B]:=by
 have:=zDj h [x] 0 B
 rw [Nat.add_zero] at this;rw [this];rfl
def rowsO (off m n:Nat):List AV:=(List.range m).map fun i=>.sref (off+i) 0 n n
@[simp] theorem rowsO_len (off m n:Nat):(rowsO off m n).length=m:=by simp [rowsO]
theorem zDd {off m n i:Nat} (h:i<m):(rowsO off m n)[i]? = some (.sref (off+i) 0 n n):=by
 simp [rowsO,qT h]
theorem rowsO_snoc (off m n:Nat):rowsO off m n ++ [.sref (off+m) 0 n n]=rowsO off (m+1) n:=by simp [rowsO,yI]
theorem zEv {A C:List (Option Blk)} {V:Mat} {n:Nat} (h:Sq n V) {a:Nat} (ha:a<n) {off:Nat} (ho:A.length=off):cellsAt (A ++ (heapR V ++ C)) (off+a)=some (ints (V.getD a [])):=by
 subst ho
 have hl:a<V.length:=by rw [h.1];exact ha
 unfold cellsAt
 rw [qD (by omega),Nat.add_sub_cancel_left,heapR_get hl,zI,zF hl];rfl
theorem setH_mid {A C:List (Option Blk)} {V:Mat} {n:Nat} (h:Sq n V) {a:Nat} (ha:a<n) {off:Nat} (ho:A.length=off) (b:Nat) (v:Int) :
  setH (A ++ (heapR V ++ C)) (off+a) (.cells ((ints (V.getD a [])).set b (.int .i64 v)))=A ++ (heapR (Fw.put V a b v) ++ C):=by
 subst ho
 have hl:a<V.length:=by rw [h.1];exact ha
 rw [zDj,zDx,setH_R hl];rfl
theorem cells_end {A:List (Option Blk)} {R:Mat} {k:Nat} (hR:R.length=k) (l:List AV) {off:Nat} (ho:A.length=off):cellsAt (A ++ (heapR R ++ [some (.cells l)])) (off+k)=some l:=by
 subst ho
 unfold cellsAt
 rw [qD (by omega),Nat.add_sub_cancel_left,qD (by simp [hR]),heapR_len,hR,Nat.sub_self];rfl
theorem grid_frz {A C:List (Option Blk)} {n off:Nat} {V:Mat} (h:Sq n V) (ho:A.length=off) (t:Tail):Frz (A ++ (heapR V ++ C)) (.slice (rowsO off n n) n t) (.slice (V.map sl) V.length .unk):=by
 subst ho
 rw [h.1]
 refine .slice _ _ _ _ (by simp [h.1]) fun j x y hx hy => ?_
 have hj:j<n:=by
  rcases zW j n with h' | h'
  ·exact h'
  ·rw [zP (by simpa using h')] at hx;cases hx
 have hl:j<V.length:=by rw [h.1];exact hj
 rw [zDd hj] at hx
 simp only [yU] at hx
 subst hx
 rw [qN,zF hl] at hy
 simp only [zV,yU] at hy
 subst hy
 have hlen:V[j].length=n:=h.2 j _ (zF hl)
 have hc:(A ++ (heapR V ++ C))[A.length+j]? = some (some (.cells (ints V[j]))):=by
  rw [qD (by omega),Nat.add_sub_cancel_left,heapR_get hl]
 have:=Frz.row (h:=A ++ (heapR V ++ C)) (A.length+j) 0 n n 1 (ints V[j]) hc (by simp [hlen]) (zN _)
 rw [List.drop_zero,yN (by simp [hlen])] at this
 show Frz _ _ (.slice (ints V[j]) V[j].length .unk)
 rw [hlen];exact this
def RowA (off n a:Nat) (V:AV) (toks:List Nat) (N nt:Nat):Prop:=(a=0∧V=.nilS) ∨ ∃ k,V=.slice (rowsO off a n) a (.tok k)∧k∈toks∧N≤k∧k<nt
theorem RowA.app {off n a:Nat} {V:AV} {toks:List Nat} {N:Nat} {h:List (Option Blk)} {nt:Nat} {ds:List Bound} {M:AV} {S:St} (h':RowA off n a V toks N nt) (hm:MoreA ds M ⟨S.heap,nt,toks⟩ N) (ha:a≤1000) (hN:N≤nt) {b:St} {K:AV→St→Prop} {hK:Hold K}
  (next:∀ toks',RowA off n (a+1) (.slice (rowsO off (a+1) n) (a+1) (.tok nt)) toks' N (nt+1)→MoreA ds M ⟨S.heap,nt+1,toks'⟩ N→K (.slice (rowsO off (a+1) n) (a+1) (.tok nt)) ⟨h,nt+1,toks'⟩) :
  sr K hK (appendA T b 35 V (.slice [.sref (off+a) 0 n n] 1 .exact)) ⟨h,nt,toks⟩:=by
 have hr:RowA off n (a+1) (.slice (rowsO off (a+1) n) (a+1) (.tok nt)) (nt :: toks) N (nt+1):=.inr ⟨nt,rfl,zO,hN,Nat.lt_succ_self _⟩
 rcases h' with ⟨rfl,rfl⟩ | ⟨k,rfl,hk,hkN,hkn⟩
 ·have:appendA T b 35 .nilS (.slice [.sref (off+0) 0 n n] 1 .exact)=some (.tok none (fun j=>.slice [.sref (off+0) 0 n n] 1 (.tok j))):=rfl
  rw [this,sr_tok]
  exact next _ hr (hm.mono (fun k hk _=>zQ _ hk) (zN _))
 ·rw [zCt (e:=32) (ei:=ti32) (lx:=[.sref (off+a) 0 n n]) (nx:=1) rfl rfl (by decide) rfl (by decide) rfl (by rw [show ti32.bytes=24 from rfl];omega) (by omega) (by rw [rowsO_len,show ti32.size=1 from rfl];omega)]
  rw [zBx]
  refine ⟨hk, ?_⟩
  rw [rowsO_snoc]
  refine next _ (.inr ⟨nt,rfl,zO,hN,Nat.lt_succ_self _⟩) (hm.mono (fun j hj hjN=>zQ _ ?_) (zN _))
  unfold killTok
  exact List.mem_filter.2 ⟨hj,by simp;omega⟩
@[go_sem] theorem bd132 (a b:AV):buildA T 132 [(0,.agg [a,b])]=some (.agg [a,b,.nilS]):=rfl
@[go_sem] theorem bs35_1 (i o n c:Nat):zAe T 35 1 [(0,.sref i o n c)]=some (.slice [.sref i o n c] 1 .exact):=rfl
@[go_sem] theorem d_against:descOf T 191=some ti191.desc:=rfl
@[go_sem] theorem i_against:isIface ti191.desc=false:=rfl
@[go_sem] theorem bd_against (a:Int):buildA T 191 [(0,.int .i64 a)]=some (.agg [.int .i64 a]):=rfl
end Go.Av.Fx
end

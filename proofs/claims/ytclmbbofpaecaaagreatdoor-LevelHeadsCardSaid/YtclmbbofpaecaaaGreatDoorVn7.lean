/- Part 7 of the proof. -/
import Derived.Test.YtclmbbofpaecaaaGreatDoorVn6
import Derived.Test.YtclmbbofpaecaaaGreatDoorVn5
set_option linter.all false
set_option linter.unusedVariables false
set_option linter.unusedSimpArgs false
set_option linter.unusedSectionVars false
open Array renaming getD_eq_getD_getElem? → zZ, getElem?_eq_getElem → qA, getElem?_eq_none → qP, getElem?_append_left → yR
open List renaming getElem?_eq_getElem → zF, getD_eq_getElem?_getD → zG, getElem?_eq_none → zN, mem_cons_self → zP, mem_cons_of_mem → zR, length_cons → zW, length_nil → qE, getElem?_set → yC, getElem?_replicate → yD, mem_cons → yM
open Nat renaming le_refl → zM, lt_or_ge → zU, lt_of_lt_of_le → qL
open Option renaming map_eq_some_iff → zK, bind_eq_some_iff → zQ, map_some → zX, getD_some → qD
open Option.some renaming injEq → yT
open Go.Result renaming andThen_ok → yU
open Go.Sem renaming run_bind → yV
open Go.Sem renaming run_pure → yW
section
namespace Go.Av
open Go
def resA (T:Tab) (S:St) (ts:TS):List ResultVar→Option (List AV)
 | []=>some []
 | .tmp t :: l=>match ts.get t,resA T S ts l with
  | some v,some vs=>some (v :: vs)
  | _,_=>none
 | .cell a t :: l=>match (ts.get a).bind (loadA T S t),resA T S ts l with
  | some v,some vs=>some (v :: vs)
  | _,_=>none
def tupA:List AV→AV
 | [v]=>v
 | vs=>.tuple vs
def resF (tmps:Array Value) (r:ResultVar):Sem Value:=
 match r with
 | .tmp t=>pure (tmps.getD t Go.undef)
 | .cell a t=>do loadVar t (← asAddr (tmps.getD a Go.undef))
theorem resA_ok {P:Program} {T:Tab} (hT:T.Ok P) {c:Cx} {S:St} {w:World} (h:StRel c S w) {ts:TS} {tmps:Array Value} (ht:TsRel c ts tmps):∀ (l:List ResultVar) (vs:List AV),resA T S ts l=some vs →
  ∃ us,(l.mapM (resF tmps):Sem (List Value)).run P w=.ok us w∧LRel c vs us
 | [],vs,e=>by simp only [resA,yT] at e;subst e;exact ⟨[],rfl,LRel.nil c⟩
 | .tmp t :: l,vs,e=>by
  simp only [resA] at e
  split at e
  ·rename_i v vs' h1 h2
   simp only [yT] at e;subst e
   obtain ⟨us,h3,h4⟩:=resA_ok hT h ht l vs' h2
   exact ⟨tmps.getD t Go.undef :: us,by simp only [List.mapM_cons,resF,yV,yW,yU,h3],LRel.cons (ht t v h1) h4⟩
  ·cases e
 | .cell a t :: l,vs,e=>by
  simp only [resA] at e
  split at e
  ·rename_i v vs' h1 h2
   simp only [yT] at e;subst e
   obtain ⟨us,h3,h4⟩:=resA_ok hT h ht l vs' h2
   simp only [zQ] at h1
   obtain ⟨p,hp,hl⟩:=h1
   have hx:=ht a p hp
   obtain ⟨u,h5,h6⟩:=loadA_ok (P:=P) hT h hx hl
   refine ⟨u :: us, ?_,LRel.cons h6 h4⟩
   have:(resF tmps (.cell a t)).run P w=.ok u w:=by
    simp only [resF]
    generalize hq:tmps.getD a Go.undef=q at hx h5
    unfold loadA at hl
    split at hl
    ·cases hx
     simpa [Instr.loadAt,Instr.sureAddr,asAddr] using h5
    ·cases hx
     simpa [Instr.loadAt,Instr.sureAddr,asAddr] using h5
    ·cases hl
   simp only [List.mapM_cons,yV,this,yW,yU,h3]
  ·cases e
def bodyQ (E:Env) (rs:List ResultVar) (R:AEnd→St→Prop):AQ
 | .normal,ts,S=>match resA E.T S ts rs with
  | some vs=>R (.ret (tupA vs)) S
  | none=>False
 | .ret,ts,S=>match resA E.T S ts rs with
  | some vs=>R (.ret (tupA vs)) S
  | none=>False
 | .panic v,_,S=>R (.panic v) S
 | .exit _,_,_=>False
def argTS:Nat→List AV→TS
 | _,[]=>[]
 | n,v :: l=>(n,v) :: argTS (n+1) l
theorem zEk:∀ (l:List AV) (n d:Nat) (v:AV),(argTS n l).get d=some v→n≤d∧l[d - n]? = some v
 | [],n,d,v,h=>by simp [argTS,TS.get] at h
 | x :: l,n,d,v,h=>by
  simp only [argTS,TS.get] at h
  split at h
  ·rename_i e;subst e
   simp only [yT] at h;subst h
   exact ⟨zM _,by simp⟩
  ·rename_i e
   obtain ⟨h1,h2⟩:=zEk l (n+1) d v h
   exact ⟨by omega,by rw [show d - n=(d - (n+1))+1 by omega,List.getElem?_cons_succ];exact h2⟩
theorem results_ok {P:Program} {T:Tab} (hT:T.Ok P) {c:Cx} {S:St} {w:World} (h:StRel c S w) {ts:TS} {tmps:Array Value} (ht:TsRel c ts tmps) (fn:Func) {vs:List AV} (e:resA T S ts fn.results.toList=some vs) :
  ∃ x,(results fn tmps).run P w=.ok x w∧VRel c (tupA vs) x:=by
 obtain ⟨us,h1,h2⟩:=resA_ok (P:=P) hT h ht _ _ e
 refine ⟨if hh:us.toArray.size=1 then us.toArray[0] else .tuple us.toArray, ?_, ?_⟩
 ·have hr:results fn tmps=(do let vs ← fn.results.mapM (resF tmps);pure (if hh:vs.size=1 then vs[0] else .tuple vs)):=rfl
  rw [hr,← Array.toArray_toList (xs:=fn.results),List.mapM_toArray]
  simp only [yV,Sem.run_map,h1,yU,yW]
 ·match vs,us,h2 with
  | [],us,h2 =>
   have:us=[]:=by have:=h2.1;cases us <;> simp_all
   subst this
   simp only [tupA];exact VRel.mk_tuple (LRel.nil c)
  | [v],us,h2 =>
   obtain ⟨u,us',rfl,h3,h4⟩:=h2.tail
   have:us'=[]:=by have:=h4.1;cases us' <;> simp_all
   subst this
   simpa [tupA] using h3
  | v :: v' :: vs,us,h2 =>
   have hlen:=h2.1
   simp only [zW] at hlen
   have:¬ us.toArray.size=1:=by simp;omega
   rw [dif_neg this]
   exact VRel.mk_tuple (by simpa using h2)
theorem AC.of_bodyC {E:Env} (hE:E.Ok) {f:FuncId} {fn:Func} {code:Code} {mc:MC} (hf:E.P.funcs[f]? = some fn) (hb:fn.body=some code) (hfit:Fits E.N code mc) (hN:fn.ntmps=E.N) {args:List AV} {S:St} {R:AEnd→St→Prop}
  (hbase:E.base=S.heap.length) (hbt:E.bt=S.nt) (hargs:args.length≤E.N) (hdraw:∀ (E':Env),E'.Ok→E'.P=E.P → ∀ (id:Nat) (ops:Array Oper) (hs:List Bool) (m:Nat) (Q:AQ) (ts:TS) (S:St) (c0 c:Cx) (ds:List Deferred) (a:Act) (w:World),dstsOk E'.N ops=true→drawOk ops hs m=true → ∀ Z:List Nat,(∀ p∈Z,p<S.heap.length)→QPreZ E' Z ops (WOps E' ops Q (ops.toList.drop m)) m ops.toList hs S ts S→Sim E' c0 c ds ts S a w→(Code.region id ops true).wpIn E'.F 0 E'.P (lft E' c0 ds Q) a w)
  (h:WC E mc (bodyQ E fn.results.toList R) (argTS 0 args) S) (hR:E.R=none):∀ c w vs,E.C c→StRel c S w→LRel c args vs→Calls E.P f vs.toArray w fun e w' => ∃ ae S' c',c.le c'∧R ae S'∧EndRel c' ae e∧StRel c' S' w':=by
 intro c w vs hC hs hl
 have hlen:vs.length=args.length:=hl.1.symm
 have hsim:Sim E c c [] (argTS 0 args) S { tmps:=vs.toArray ++ Array.replicate (fn.ntmps - vs.toArray.size) Go.undef,defers:=[] } w:=by
  refine ⟨(Cx.le.refl c).S,hC,⟨fun i n e=>by rw [hbase];exact (hs.dom i n e).1,fun k x e=>by rw [hbt];exact (hs.tdom k x e).1⟩,hs,fun d v e => ?_,Marks.nil _ c c [], ?_⟩
  ·obtain ⟨_,h2⟩:=zEk _ _ _ _ e
   rw [Nat.sub_zero] at h2
   obtain ⟨u,hu,hr⟩:=hl.get h2
   have hd:d<vs.length:=by
    rcases zU d vs.length with h' | h'
    ·exact h'
    ·rw [zN h'] at hu;cases hu
   rw [zZ,yR (by simpa using hd)]
   simp only [List.getElem?_toArray,hu,qD]
   exact hr
  ·simp;omega
 have hw:=WC_ok hdraw hfit E hE rfl rfl c [] _ _ S c _ w h hsim
 rw [Env.F_wide hR] at hw
 refine (callsIn_wide (n:=0)).1 (callsIn_of_wp_marks hf hb trivial (wpIn_mono hw fun e a' w' hq => ?_))
 obtain ⟨ae,ts',S',c',h1,h2,h3⟩:=hq
 have hcl:c.le (c'.withXO c.XO):=h3.le.back
 have fin:∀ (ms:List Nat) (w1:World) (f:Nat→Option Obj),ms.Nodup→(∀ D∈ms,f D=some (.deferred (some []))∧c.XO D=none)→(∀ b ob,c.XO b=some ob→f b=some ob)→StRel (c'.withXO f) S' w1→(∀ b,f b=none∨c'.XO b=f b) →
   ∀ (u:FrameMode) (Rr:Ending→World→Prop),u ≠ .run→(∀ w2,StRel (c'.withXO c.XO) S' w2→LeavesInM Fence.wide 0 E.P fn a'.tmps Rr [] u w2)→LeavesInM Fence.wide 0 E.P fn a'.tmps Rr (ms.map markD) u w1:=by
  intro ms
  induction ms with
  | nil =>
   intro w1 f hnd hm hsub hst hff u Rr hu hend
   refine hend w1 ?_
   have:(c'.withXO c.XO)=(c'.withXO f).withXO c.XO:=rfl
   rw [this]
   refine hst.withXO _ (fun b ob e=>hst.XO b ob (hsub b ob e)) fun i n B e1 e2 _ e3 => ?_
   cases hx:c.XO n with
   | none=>rfl
   | some ob=>have:=hsub n ob hx;have e3:f n=none:=e3;rw [e3] at this;cases this
  | cons D ms ih =>
   intro w1 f hnd hm hsub hst hff u Rr hu hend
   have hD:=hm D zP
   have hDw:=(hst.XO D _ hD.1).1
   refine ⟨hu,.inl ⟨D,_,rfl,run_takeDeferred hDw, ?_⟩⟩
   refine ih (w1.putObj D (.deferred none)) (fun k=>if k=D then none else f k) (List.nodup_cons.1 hnd).2 (fun D' hD' => ?_) (fun b ob e => ?_) ?_ (fun b => ?_) u Rr hu hend
   ·have hne:D'≠D:=fun e=>(List.nodup_cons.1 hnd).1 (e ▸ hD')
    simp only [if_neg hne]
    exact hm D' (zR _ hD')
   ·have hne:b≠D:=fun e'=>by rw [e',hD.2] at e;cases e
    simp only [if_neg hne]
    exact hsub b ob e
   ·exact hst.dropHidden hD.1 (by intro cs t g e;cases e)
   ·by_cases e:b=D
    ·left;simp [e]
    ·simp only [if_neg e];exact hff b
 have ret:∀ vs',resA E.T S' ts' fn.results.toList=some vs'→R (.ret (tupA vs')) S'→LeavesInM Fence.wide 0 E.P fn a'.tmps (fun e w' => ∃ ae S' c',c.le c'∧R ae S'∧EndRel c' ae e∧StRel c' S' w') a'.defers .returning w':=by
  intro vs' hv hR'
  obtain ⟨ms,e1,e2,e3,_⟩:=h3.ds
  rw [e1,List.append_nil]
  refine fin ms w' c'.XO e2 e3 h3.le.XO h3.st (fun b=>.inr rfl) _ _ (by simp) fun w2 hst2 => ?_
  obtain ⟨x,hx1,hx2⟩:=results_ok (P:=E.P) hE.T hst2 (fun d u hu=>(h3.ts d u hu).withXO _) fn hv
  exact ⟨x,hx1,.ret (tupA vs'),S',_,hcl,hR',hx2,hst2⟩
 cases ae with
 | normal =>
  cases e <;> first | exact h1.elim | skip
  simp only [bodyQ] at h2
  split at h2
  ·rename_i vs' hv;exact ret vs' hv h2
  ·exact h2.elim
 | ret =>
  cases e <;> first | exact h1.elim | skip
  simp only [bodyQ] at h2
  split at h2
  ·rename_i vs' hv;exact ret vs' hv h2
  ·exact h2.elim
 | exit i=>exact h2.elim
 | panic v =>
  cases e <;> first | exact h1.elim | skip
  rename_i ch
  obtain ⟨ms,e1,e2,e3,_⟩:=h3.ds
  obtain ⟨x,hx1,hx2⟩:=h1
  show LeavesInM _ _ _ _ _ _ a'.defers (.panicking ch) w'
  rw [e1,List.append_nil]
  exact fin ms w' c'.XO e2 e3 h3.le.XO h3.st (fun b=>.inr rfl) _ _ (by simp) fun w2 hst2=>⟨.panic v,S',_,hcl,h2,⟨x,hx1,hx2.withXO _⟩,hst2⟩
theorem AC.of_body {E:Env} (hE:E.Ok) {f:FuncId} {fn:Func} {code:Code} {mc:MC} (hf:E.P.funcs[f]? = some fn) (hb:fn.body=some code) (hfit:Fits E.N code mc) (hN:fn.ntmps=E.N) {args:List AV} {S:St} {R:AEnd→St→Prop}
  (hbase:E.base=S.heap.length) (hbt:E.bt=S.nt) (hargs:args.length≤E.N) (hdraw:∀ (E':Env),E'.Ok→E'.P=E.P → ∀ (id:Nat) (ops:Array Oper) (hs:List Bool) (m:Nat) (Q:AQ) (ts:TS) (S:St) (c0 c:Cx) (ds:List Deferred) (a:Act) (w:World),dstsOk E'.N ops=true→drawOk ops hs m=true → ∀ Z:List Nat,(∀ p∈Z,p<S.heap.length)→QPreZ E' Z ops (WOps E' ops Q (ops.toList.drop m)) m ops.toList hs S ts S→Sim E' c0 c ds ts S a w→(Code.region id ops true).wpIn E'.F 0 E'.P (lft E' c0 ds Q) a w)
  (h:WC E mc (bodyQ E fn.results.toList R) (argTS 0 args) S) (hR:E.R=none) (hC:∀ c,E.C c):AC E.P f args S R:=
 fun c w vs hs hl=>AC.of_bodyC hE hf hb hfit hN hbase hbt hargs hdraw h hR c w vs (hC c) hs hl
theorem hide {c:Cx} {S:St} {w:World} (h:StRel c S w):∃ cE:Cx,StRel cE St.empty w∧cE.K=c.K∧(∀ i,cE.μ i=none)∧(∀ k,cE.τ k=none)∧cE.sz=w.heap.size ∧
  (∀ b o v,c.X b o=some v→cE.X b o=some v)∧(∀ b ob,c.XO b=some ob→cE.XO b=some ob) ∧
  (∀ i B n,S.heap[i]? = some (some B)→c.μ i=some n→(∀ o,B.has o → ∃ v,cE.X n o=some v)∧(B.isObj → ∃ ob,cE.XO n=some ob)) ∧
  (∀ k b lo hi,k∈S.toks→c.τ k=some (b,lo,hi) → ∀ o,lo≤o→o<hi → ∃ v,cE.X b o=some v)∧((∀ b o,c.FZ b o=true→cE.FZ b o=true)∧cE.FZ.w0=c.FZ.w0 ∧ ∀ k b lo hi,k∈S.toks→c.τ k=some (b,lo,hi) → ∀ o,cE.FZ b o=true):=by
 classical
 let mine:Nat→Nat→Prop:=fun b o=>(∃ i B,S.heap[i]? = some (some B)∧c.μ i=some b∧B.has o)∨(∃ k lo hi,k∈S.toks∧c.τ k=some (b,lo,hi)∧lo≤o∧o<hi)
 let mineO:Nat→Prop:=fun b => ∃ i B,S.heap[i]? = some (some B)∧c.μ i=some b∧B.isObj
 have cellOf:∀ b o,mine b o→c.K b o=none∧c.X b o=none∧w.frozen? ⟨b,o,none⟩=false ∧ ∃ v,w.cell? ⟨b,o,none⟩=some v:=by
  rintro b o (⟨i,B,h1,h2,h3⟩ | ⟨k,lo,hi,h1,h2,h3,h4⟩)
  ·obtain ⟨n,h4,h5⟩:=h.blk i B h1
   rw [h2] at h4;cases h4
   cases B with
   | cells l =>
    obtain ⟨a1,a2,a3,v,a4,_⟩:=h5 o l[o] (zF h3)
    exact ⟨a1,a2,a3,v,a4⟩
   | map es=>exact h3.elim
   | siter s p=>exact h3.elim
   | loop r=>exact h3.elim
  ·obtain ⟨b',lo',hi',h5,h6⟩:=h.tok k h1
   rw [h2] at h5;cases h5
   exact h6 o h3 h4
 have objOf:∀ b,mineO b → ∃ ob,w.heap[b]? = some ob ∧ ∀ cs t f,ob ≠ .cells cs t f:=by
  rintro b ⟨i,B,h1,h2,h3⟩
  obtain ⟨n,h4,h5⟩:=h.blk i B h1
  rw [h2] at h4;cases h4
  cases B with
  | cells l=>exact h3.elim
  | map es=>obtain ⟨_,en,cl,h6,_⟩:=h5;exact ⟨_,h6,fun _ _ _ e=>by cases e⟩
  | siter s p=>exact ⟨_,h5.2,fun _ _ _ e=>by cases e⟩
  | loop r=>exact ⟨_,h5.2,fun _ _ _ e=>by cases e⟩
 refine ⟨{ K:=c.K,μ:=fun _=>none,τ:=fun _=>none,X:=fun b o=>if mine b o then w.cell? ⟨b,o,none⟩ else c.X b o,XO:=fun b=>if mineO b then w.heap[b]? else c.XO b,sz:=w.heap.size,FZ:=⟨fun b o=>c.FZ b o || decide (∃ k lo hi,k∈S.toks∧c.τ k=some (b,lo,hi)),c.FZ.w0⟩ }, ?_,rfl,fun _=>rfl,fun _=>rfl,rfl, ?_, ?_, ?_, ?_,fun b o e => ?_,rfl,fun k b lo hi hk e o => ?_⟩
 ·exact {
   sz:=zM _
   tab:=h.tab
   tsh:=h.tsh
   fr:=h.fr
   K:=h.K
   X:=fun b o v e=>by
    simp only at e
    split at e
    ·rename_i hm
     obtain ⟨a1,a2,a3,_⟩:=cellOf b o hm
     exact ⟨e,a3,a1⟩
    ·exact h.X b o v e
   F:=fun b o e=>by
    have e:(c.FZ b o || decide (∃ k lo hi,k∈S.toks∧c.τ k=some (b,lo,hi)))=true:=e
    rw [Bool.or_eq_true,decide_eq_true_iff] at e
    rcases e with e | ⟨k,lo,hi,hk,e⟩
    ·exact h.F b o e
    ·exact ⟨(h.tdom k _ e).2,h.tfr k b lo hi hk e o⟩
   XO:=fun b ob e=>by
    simp only at e
    split at e
    ·rename_i hm
     obtain ⟨ob',h1,h2⟩:=objOf b hm
     rw [e] at h1;cases h1
     exact ⟨e,h2⟩
    ·exact h.XO b ob e
   dom:=fun i n e=>by cases e
   tdom:=fun k x e=>by cases e
   blk:=fun i B e=>by simp [St.empty] at e
   inj:=fun i j Bi Bj n e=>by simp [St.empty] at e
   tok:=fun k e=>by simp [St.empty] at e
   tinj:=fun k k' b lo hi lo' hi' e=>by simp [St.empty] at e
   tblk:=fun k i b lo hi B e=>by simp [St.empty] at e
   tfr:=fun k b lo hi e=>by simp [St.empty] at e }
 ·intro b o v e
  simp only
  split
  ·exact (h.X b o v e).1
  ·exact e
 ·intro b ob e
  simp only
  split
  ·exact (h.XO b ob e).1
  ·exact e
 ·intro i B n h1 h2
  refine ⟨fun o ho => ?_,fun ho => ?_⟩
  ·have hm:mine n o:=.inl ⟨i,B,h1,h2,ho⟩
   obtain ⟨_,_,_,v,hv⟩:=cellOf n o hm
   exact ⟨v,by simp only;rw [if_pos hm];exact hv⟩
  ·have hm:mineO n:=⟨i,B,h1,h2,ho⟩
   obtain ⟨ob,hv,_⟩:=objOf n hm
   exact ⟨ob,by simp only;rw [if_pos hm];exact hv⟩
 ·intro k b lo hi h1 h2 o h3 h4
  have hm:mine b o:=.inr ⟨k,lo,hi,h1,h2,h3,h4⟩
  obtain ⟨_,_,_,v,hv⟩:=cellOf b o hm
  exact ⟨v,by simp only;rw [if_pos hm];exact hv⟩
 ·show (c.FZ b o || decide (∃ k lo hi,k∈S.toks∧c.τ k=some (b,lo,hi)))=true
  rw [Bool.or_eq_true];exact .inl e
 ·show (c.FZ b o || decide (∃ k lo hi,k∈S.toks∧c.τ k=some (b,lo,hi)))=true
  rw [Bool.or_eq_true,decide_eq_true_iff];exact .inr ⟨k,lo,hi,hk,e⟩
def back (c c':Cx):Cx:={ K:=c'.K,μ:=c.μ,τ:=c.τ,X:=c.X,XO:=c.XO,sz:=c.sz,FZ:=c.FZ }
theorem unhide {c cE c':Cx} {S S':St} {w w':World} (h:StRel c S w) (hle:cE.le c') (hs:StRel c' S' w') (eK:cE.K=c.K) (esz:cE.sz=w.heap.size)
  (eX:∀ b o v,c.X b o=some v→cE.X b o=some v) (eXO:∀ b ob,c.XO b=some ob→cE.XO b=some ob)
  (eB:∀ i B n,S.heap[i]? = some (some B)→c.μ i=some n→(∀ o,B.has o → ∃ v,cE.X n o=some v)∧(B.isObj → ∃ ob,cE.XO n=some ob))
  (eT:∀ k b lo hi,k∈S.toks→c.τ k=some (b,lo,hi) → ∀ o,lo≤o→o<hi → ∃ v,cE.X b o=some v) (hE:StRel cE St.empty w) (eF:∀ b o,c.FZ b o=true→cE.FZ b o=true) (eW:cE.FZ.w0=c.FZ.w0) (eTF:∀ k b lo hi,k∈S.toks→c.τ k=some (b,lo,hi) → ∀ o,cE.FZ b o=true) :
  c.le (back c c')∧StRel (back c c') S w':=by
 have hsz:w.heap.size≤w'.heap.size:=by have:=hs.sz;rw [hle.sz,esz] at this;exact this
 have hc:c.le (back c c'):=⟨fun b o v e=>hle.K b o v (eK ▸ e),fun _ _ e=>e,fun _ _ e=>e,rfl,rfl,rfl,rfl,fun _ _ e=>.inl e,fun _ _ e=>.inl e⟩
 have keepX:∀ b o v,cE.X b o=some v→w.cell? ⟨b,o,none⟩=some v∧w'.cell? ⟨b,o,none⟩=some v∧w'.frozen? ⟨b,o,none⟩=false∧c'.K b o=none:=by
  intro b o v e
  have h1:=hE.X b o v e
  have h2:=hs.X b o v (by rw [hle.X];exact e)
  exact ⟨h1.1,h2⟩
 refine ⟨hc, ?_⟩
 exact {
  sz:=Nat.le_trans h.sz hsz
  tab:=hs.tab
  tsh:=hs.tsh
  fr:=by have:=hs.fr;rw [hle.FZ,eW] at this;exact this
  K:=hs.K
  X:=fun b o v e=>(keepX b o v (eX b o v e)).2
  F:=fun b o e=>hs.F b o (by rw [hle.FZ];exact eF b o e)
  XO:=fun b ob e=>hs.XO b ob (by rw [hle.XO];exact eXO b ob e)
  dom:=fun i n e=>⟨(h.dom i n e).1,qL (h.dom i n e).2 hsz⟩
  tdom:=fun k x e=>⟨(h.tdom k x e).1,qL (h.tdom k x e).2 hsz⟩
  blk:=fun i B e=>by
   obtain ⟨n,h1,h2⟩:=h.blk i B e
   obtain ⟨b1,b2⟩:=eB i B n e h1
   refine ⟨n,h1, ?_⟩
   cases B with
   | cells l =>
    intro o x hx
    obtain ⟨a1,a2,a3,v,a4,a5⟩:=h2 o x hx
    have ho:o<l.length:=by
     rcases zU o l.length with h' | h'
     ·exact h'
     ·rw [zN h'] at hx;cases hx
    obtain ⟨u,hu⟩:=b1 o ho
    obtain ⟨k1,k2,k3,k4⟩:=keepX n o u hu
    rw [a4] at k1;cases k1
    exact ⟨k4,a2,k3,v,k2,a5.mono hc⟩
   | map es =>
    obtain ⟨a1,en,cl,a2,a3,a4⟩:=h2
    obtain ⟨ob,hob⟩:=b2 trivial
    have:=hs.XO n ob (by rw [hle.XO];exact hob)
    have h3:=(hE.XO n ob hob).1
    rw [a2] at h3;cases h3
    exact ⟨a1,en,cl,this.1,a3,fun j kv e' x y=>⟨(a4 j kv e' x y).1.mono hc,(a4 j kv e' x y).2.mono hc⟩⟩
   | siter s p =>
    obtain ⟨ob,hob⟩:=b2 trivial
    have:=hs.XO n ob (by rw [hle.XO];exact hob)
    have h3:=(hE.XO n ob hob).1
    rw [h2.2] at h3;cases h3
    exact ⟨h2.1,this.1⟩
   | loop r =>
    obtain ⟨ob,hob⟩:=b2 trivial
    have:=hs.XO n ob (by rw [hle.XO];exact hob)
    have h3:=(hE.XO n ob hob).1
    rw [h2.2] at h3;cases h3
    exact ⟨h2.1,this.1⟩
  inj:=h.inj
  tok:=fun k hk=>by
   obtain ⟨b,lo,hi,h1,h2⟩:=h.tok k hk
   refine ⟨b,lo,hi,h1,fun o h3 h4 => ?_⟩
   obtain ⟨a1,a2,a3,v,a4⟩:=h2 o h3 h4
   obtain ⟨u,hu⟩:=eT k b lo hi hk h1 o h3 h4
   obtain ⟨k1,k2,k3,k4⟩:=keepX b o u hu
   exact ⟨k4,a2,k3,u,k2⟩
  tinj:=h.tinj
  tblk:=h.tblk
  tfr:=fun k b lo hi hk e o=>(hs.F b o (by rw [hle.FZ];exact eTF k b lo hi hk e o)).2 }
theorem VRel.free {c c':Cx} {v:AV} {x:Value} (h:VRel c v x) (hb:v.bnd 0 0=true) (hK:∀ b o u,c.K b o=some u→c'.K b o=some u):VRel c' v x:=
 VRel.mono3 (c:=c.cut 0 0) (c':=c') ⟨hK,fun i n e=>by simp [Cx.cut] at e,fun k x e=>by simp [Cx.cut] at e⟩ (h.cut hb)
theorem LRel.free {c c':Cx} {l:List AV} {vs:List Value} (h:LRel c l vs) (hb:bndL 0 0 l=true) (hK:∀ b o u,c.K b o=some u→c'.K b o=some u):LRel c' l vs:=
 ⟨h.1,fun j x v h1 h2=>(h.2 j x v h1 h2).free (zBh hb h1) hK⟩
theorem PC.of_empty {P:Program} {f:FuncId} {args:List AV} {v:AV} (h:AC P f args St.empty fun e _=>e=.ret v) (ha:bndL 0 0 args=true) (hv:v.bnd 0 0=true):PC P f args (.pure v):=by
 intro c S w vs hs hl
 obtain ⟨cE,hE,eK,eμ,eτ,esz,eX,eXO,eB,eT,eF⟩:=hide hs
 refine (h cE w vs hE (hl.free ha fun b o u e=>by rw [eK];exact e)).mono fun e w' ⟨ae,S',c',h1,h2,h3,h4⟩ => ?_
 subst h2
 cases e with
 | returned x =>
  obtain ⟨g1,g2⟩:=unhide hs h1 h4 eK esz eX eXO eB eT hE eF.1 eF.2.1 eF.2.2
  exact ⟨x,rfl,back c c',g1,rfl,rfl,g2,VRel.free h3 hv (fun _ _ _ e=>e)⟩
 | panicked ch=>exact h3.elim
 | outgrown=>exact h3.elim
theorem PC.of_tok {P:Program} {f:FuncId} {args l:List AV} {n:Nat} (h:AC P f args St.empty fun e S' => ∃ k,e=.ret (.slice l n (.tok k))∧k∈S'.toks) (ha:bndL 0 0 args=true) (hv:bndL 0 0 l=true):PC P f args (.tok none fun j=>.slice l n (.tok j)):=by
 intro c S w vs hs hl
 obtain ⟨cE,hE,eK,eμ,eτ,esz,eX,eXO,eB,eT,eF⟩:=hide hs
 refine (h cE w vs hE (hl.free ha fun b o u e=>by rw [eK];exact e)).mono fun e w' ⟨ae,S',c',h1,h2,h3,h4⟩ => ?_
 obtain ⟨k,rfl,hk⟩:=h2
 cases e with
 | returned x =>
  obtain ⟨g1,g2⟩:=unhide hs h1 h4 eK esz eX eXO eB eT hE eF.1 eF.2.1 eF.2.2
  refine ⟨x,rfl,fun j hj => ?_⟩
  obtain ⟨b,lo,hi,t1,t2⟩:=h4.tok k hk
  have hbn:w.heap.size≤b:=by
   rcases h1.τn k _ t1 with y | y | ⟨k0,u,y,_⟩
   ·rw [eτ] at y;cases y
   ·rw [esz] at y;exact y
   ·rw [eτ] at y;cases y
  obtain ⟨g3,g4⟩:=g2.addTok j b lo hi hj (h4.tdom k _ t1).2 (fun o=>h4.tfr k b lo hi hk t1 o) (fun o h5 h6=>by
   obtain ⟨a1,a2,a3,v,a4⟩:=t2 o h5 h6
   refine ⟨a1, ?_,a3,v,a4⟩
   cases hx:c.X b o with
   | none=>exact hx
   | some u=>rw [h1.X,eX b o u hx] at a2;cases a2) (fun k' x hk' hx hxb=>by
    have:=(hs.tdom k' x hx).2;omega) (fun i B hB hm=>by have:=(hs.dom i b hm).2;omega) (max S.nt (j+1)) (Nat.le_max_left _ _) (by omega) (.inl (Nat.le_trans hs.sz hbn))
  refine ⟨_,g1.trans g3,rfl,fun j' hj'=>by simp only [updN,if_neg hj',back],g4, ?_⟩
  cases h3 with
  | slice _ _ _ b' off cap us hc hkk hr he ht =>
   obtain ⟨h0,hf,z,z1,z2⟩:=ht k rfl
   rw [t1] at z2
   exact .slice l n (.tok j) b' off cap us hc hkk (fun i x hx=>(hr i x hx).free (zBh hv hx) (fun _ _ _ e=>e)) (fun e=>by cases e) (fun k' e=>by
    cases e
    exact ⟨h0,hf,z,z1,by simp only [updN,if_true];exact z2⟩)
  | sliceNil _ ht=>exact absurd rfl (ht k)
 | panicked ch=>exact h3.elim
 | outgrown=>exact h3.elim
theorem PC.of_alloc {P:Program} {f:FuncId} {args l:List AV} {n cap:Nat} (h:AC P f args St.empty fun e S' => ∃ i,e=.ret (.sref i 0 n cap)∧S'.heap[i]? = some (some (.cells l))) (ha:bndL 0 0 args=true) (hv:bndL 0 0 l=true):PC P f args (.alloc (.cells l) fun i=>.sref i 0 n cap):=by
 intro c S w vs hs hl
 obtain ⟨cE,hE,eK,eμ,eτ,esz,eX,eXO,eB,eT,eF⟩:=hide hs
 refine (h cE w vs hE (hl.free ha fun b o u e=>by rw [eK];exact e)).mono fun e w' ⟨ae,S',c',h1,h2,h3,h4⟩ => ?_
 obtain ⟨i,rfl,hi⟩:=h2
 cases e with
 | returned x =>
  obtain ⟨g1,g2⟩:=unhide hs h1 h4 eK esz eX eXO eB eT hE eF.1 eF.2.1 eF.2.2
  refine ⟨x,rfl,fun j hj hlive => ?_⟩
  obtain ⟨m,m1,m2⟩:=h4.blk i _ hi
  have hmn:w.heap.size≤m:=by
   rcases h1.μn i m m1 with y | y
   ·rw [eμ] at y;cases y
   ·rw [esz] at y;exact y
  have g2':=g2.room (j+1 - S.heap.length)
  obtain ⟨g3,g4⟩:=g2'.name j m hj (by simp;omega) (fun B hB=>hlive B (zBp hB)) (h4.dom i m m1).2 (Nat.le_trans hs.sz hmn)
  refine ⟨_,g1.trans g3,fun j' hj'=>by simp only [updN,if_neg hj',back],rfl, ?_, ?_⟩
  ·rw [← put_room]
   refine g4.put j m _ (fun B' hB=>hlive B' (zBp hB)) (by simp [updN]) (fun o u hu => ?_) (fun j' B' hB hm => ?_) (fun k x hk hx hxn => ?_)
   ·obtain ⟨a1,a2,a3,v,a4,a5⟩:=m2 o u hu
    refine ⟨a1, ?_,a3,v,a4,a5.free (zBh hv hu) (fun _ _ _ e=>e)⟩
    show c.X m o=none
    cases hx:c.X m o with
    | none=>rfl
    | some u'=>rw [h1.X,eX m o u' hx] at a2;cases a2
   ·simp only [updN] at hm
    split at hm
    ·rename_i e;subst e;exact hlive B' (zBp hB)
    ·have:=(hs.dom _ _ hm).2;omega
   ·have:=(hs.tdom k x hx).2;omega
  ·cases h3 with
   | sref _ _ _ _ m' cap' hm hc =>
    rw [m1] at hm;cases hm
    exact .sref j 0 n cap m cap' (by simp [updN]) hc
 | panicked ch=>exact h3.elim
 | outgrown=>exact h3.elim
theorem TOk.of {P:Program} {t:TypeId} {i:TI} {z:Value} (hu:P.underlying t=some i.desc) (hi:(P.info? t).map (fun x=>(x.size,x.bytes,x.zero))=some (i.size,i.bytes,some z)) (hz:AV.ofVal z=some (zeroA i))
  (hs:(zeroA i).cells=i.zero∧i.zero.length=i.size∧i.zero.all AV.one=true∧(aggD i.desc=false→i.size=1)) (hp:i.plain=true→P.stoodInHeld t=false∧P.eqGuardType P.depth t=false):TOk P t i:=by
 refine ⟨hu, ?_,hs,hp⟩
 cases h:P.info? t with
 | none=>rw [h] at hi;cases hi
 | some inf =>
  rw [h] at hi
  simp only [zX,yT,Prod.mk.injEq] at hi
  exact ⟨inf,z,rfl,hi.1,hi.2.1,hi.2.2,hz⟩
def lk:List (Nat × List Nat)→Nat→List Nat
 | [],_=>[]
 | (k,l) :: r,n=>if k=n then l else lk r n
def lk1:List (Nat × Nat × List Bool)→Nat→Nat × List Bool
 | [],_=>(0,[])
 | (k,l) :: r,n=>if k=n then l else lk1 r n
theorem AC.of {E:Env} (hE:E.Ok) {f:FuncId} {fn:Func} {ks:Nat→List Nat} {dm:Nat→Nat × List Bool} {mc:MC} (hf:E.P.funcs[f]? = some fn) (hm:fn.body.bind (toMC E.N ks dm)=some mc) (hN:fn.ntmps=E.N) {args:List AV} {S:St} {R:AEnd→St→Prop}
  (hbase:E.base=S.heap.length) (hbt:E.bt=S.nt) (hargs:args.length≤E.N) (hdraw:∀ (E':Env),E'.Ok→E'.P=E.P → ∀ (id:Nat) (ops:Array Oper) (hs:List Bool) (m:Nat) (Q:AQ) (ts:TS) (S:St) (c0 c:Cx) (ds:List Deferred) (a:Act) (w:World),dstsOk E'.N ops=true→drawOk ops hs m=true → ∀ Z:List Nat,(∀ p∈Z,p<S.heap.length)→QPreZ E' Z ops (WOps E' ops Q (ops.toList.drop m)) m ops.toList hs S ts S→Sim E' c0 c ds ts S a w→(Code.region id ops true).wpIn E'.F 0 E'.P (lft E' c0 ds Q) a w)
  (h:WC E mc (bodyQ E fn.results.toList R) (argTS 0 args) S) (hR:E.R=none) (hC:∀ c,E.C c):AC E.P f args S R:=by
 cases hb:fn.body with
 | none=>rw [hb] at hm;cases hm
 | some code=>rw [hb] at hm;exact AC.of_body hE hf hb (toMC_ok _ _ hm) hN hbase hbt hargs hdraw h hR hC
def look:List (Nat × TI)→Tab
 | [],_=>none
 | (k,i) :: l,t=>if k=t then some i else look l t
def AllOk (P:Program):List (Nat × TI)→Prop
 | []=>True
 | (k,i) :: l=>TOk P k i∧AllOk P l
theorem look_ok {P:Program}:∀ (l:List (Nat × TI)),AllOk P l→(look l).Ok P
 | [],_,t,i,h=>by simp [look] at h
 | (k,i') :: l,h,t,i,e=>by
  simp only [look] at e
  split at e
  ·rename_i hk;subst hk
   simp only [yT] at e;subst e
   exact h.1
  ·exact look_ok l h.2 t i e
def Sees (S S':St):Prop:=∀ (p:Nat) (B:Blk),S.heap[p]? = some (some B)→S'.heap[p]? = some (some B)
section
variable {T:Tab} {S S':St} (hS:Sees S S')
include hS
theorem loadA_mono {t:TypeId} {p v:AV} (e:loadA T S t p=some v):loadA T S' t p=some v:=by
  unfold loadA at *
  split at e
  · split at e
    · rename_i hb;rw [hS _ _ hb];exact e
    · cases e
  · exact e
  · cases e
theorem storeA_mono {t:TypeId} {p v:AV} {r:Res} (e:storeA T S t p v=some r):storeA T S' t p v=some r:=by
  unfold storeA at *
  split at e
  · split at e
    · rename_i hb;rw [hS _ _ hb];exact e
    · cases e
  · cases e
theorem lenA_mono {t:TypeId} {x v:AV} (e:lenA T S t x=some v):lenA T S' t x=some v:=by
  unfold lenA at *
  split at e
  all_goals first
    | exact e
    | (cases e;done)
    | (split at e
       · rename_i hb;rw [hS _ _ hb];exact e
       · cases e)
theorem heldA_mono {z:Nat} {x:AV} {l:List AV × Nat} (e:heldA S z x=some l):heldA S' z x=some l:=by
  unfold heldA at *
  split at e
  · exact e
  · exact e
  · split at e
    · rename_i hb;rw [hS _ _ hb];exact e
    · cases e
  · cases e
theorem appendA_mono {t:TypeId} {s x:AV} {r:Res} (e:appendA T S t s x=some r):appendA T S' t s x=some r:=by
  unfold appendA at *
  split at e
  · split at e
    · split at e
      · cases e
      · rename_i hz
        simp only [if_neg hz]
        split at e
        · rename_i hh;rw [heldA_mono hS hh];exact e
        · cases e
    · cases e
  · cases e
theorem copyA_mono {t:TypeId} {s x:AV} {r:Res} (e:copyA T S t s x=some r):copyA T S' t s x=some r:=by
  unfold copyA at *
  split at e
  · split at e
    · rename_i h1 h2 h3
      simp only [h1,heldA_mono hS h2,hS _ _ h3];exact e
    · cases e
  · cases e
theorem convMemA_mono {s d:TypeId} {x:AV} {r:Res} (e:zCc T S s d x=some r):zCc T S' s d x=some r:=by
  unfold zCc at *
  split at e
  · exact e
  · split at e
    · split at e
      · rename_i hh;rw [heldA_mono hS hh];exact e
      · cases e
    · cases e
  · cases e
theorem lookupA_mono {t:TypeId} {m k v:AV} {ok:Bool} (e:lookupA T S t m k ok=some v):lookupA T S' t m k ok=some v:=by
  unfold lookupA at *
  split at e
  · split at e
    · split at e
      · rename_i hc
        simp only [hc,and_self,if_true]
        split at e
        · exact e
        · split at e
          · rename_i hb;rw [hS _ _ hb];exact e
          · cases e
        · cases e
      · cases e
    · cases e
  · cases e
theorem mapUpdateA_mono {t:TypeId} {m k v:AV} {r:Res} (e:zAz T S t m k v=some r):zAz T S' t m k v=some r:=by
  unfold zAz at *
  split at e
  · split at e
    · rename_i h1 h2;simp only [h1,hS _ _ h2];exact e
    · cases e
  · cases e
theorem deleteA_mono {t:TypeId} {m k:AV} {r:Res} (e:deleteA T S t m k=some r):deleteA T S' t m k=some r:=by
  unfold deleteA at *
  split at e
  · split at e
    · rename_i h1 h2;simp only [h1,hS _ _ h2];exact e
    · cases e
  · cases e
theorem nextA_mono {x:AV} {r:Res} (e:nextA S x=some r):nextA S' x=some r:=by
  unfold nextA at *
  split at e
  · split at e
    · rename_i h2;rw [hS _ _ h2];exact e
    · cases e
  · cases e
theorem builtinA_mono {b:Builtin} {tys:List TypeId} {args:List AV} {r:Res} (e:zAa T S b tys args=some r):zAa T S' b tys args=some r:=by
  unfold zAa at *
  split at e
  · simp only [zK] at e ⊢
    obtain ⟨v,h1,h2⟩:=e
    exact ⟨v,lenA_mono hS h1,h2⟩
  · split at e
    · rename_i h;subst h;simp only [if_true];exact appendA_mono hS e
    · cases e
  · exact copyA_mono hS e
  · exact e
  · exact e
  · exact deleteA_mono hS e
  · cases e
theorem astepO_mono {ts:TS} {o:Op} {r:Res} (e:astepO T S ts o=some r):astepO T S' ts o=some r:=by
  unfold astepO at *
  split at e
  all_goals first
    | exact e
    | (cases e;done)
    | (simp only [zQ,zK] at e ⊢
       first
         | (obtain ⟨p,h1,v,h2,h3⟩:=e;exact ⟨p,h1,v,loadA_mono hS h2,h3⟩)
         | (obtain ⟨p,h1,v,h2,h3⟩:=e;exact ⟨p,h1,v,h2,storeA_mono hS h3⟩)
         | (obtain ⟨p,h1,q,h2,v,h3,h4⟩:=e;exact ⟨p,h1,q,h2,v,lookupA_mono hS h3,h4⟩)
         | (obtain ⟨p,h1,q,h2,v,h3,h4⟩:=e;exact ⟨p,h1,q,h2,v,h3,mapUpdateA_mono hS h4⟩)
         | (obtain ⟨p,h1,h2⟩:=e;exact ⟨p,h1,nextA_mono hS h2⟩)
         | (obtain ⟨p,h1,h2⟩:=e;exact ⟨p,h1,builtinA_mono hS h2⟩)
         | (obtain ⟨p,h1,h2⟩:=e
            refine ⟨p,h1, ?_⟩
            split at h2
            · exact h2
            · exact convMemA_mono hS h2))
end
def SameAt (l:List Nat) (ts ts':TS):Prop:=∀ t∈l,ts.get t=ts'.get t
theorem aeval_same {ts ts':TS} {l:List Operand} (h:SameAt (tmpsOf l) ts ts') {x:Operand} (hx:x∈l):aeval ts x=aeval ts' x:=by
  cases x with
  | tmp t=>exact h t (by simp only [tmpsOf,List.mem_filterMap];exact ⟨_,hx,rfl⟩)
  | const v=>rfl
  | func f=>rfl
  | global g=>rfl
theorem zDq {ts ts':TS}:∀ {l:List Operand},(∀ x∈l,aeval ts x=aeval ts' x)→evs ts l=evs ts' l
  | [],_=>rfl
  | x :: l,h=>by
    simp only [evs,h x zP,zDq (l:=l) fun y hy=>h y (zR _ hy)]
theorem evP_same {ts ts':TS}:∀ {l:List (Nat × Operand)},(∀ x∈l.map (·.2),aeval ts x=aeval ts' x)→evP ts l=evP ts' l
  | [],_=>rfl
  | (i,x) :: l,h=>by
    simp only [evP,h x (by simp),evP_same (l:=l) fun y hy=>h y (by simp only [List.map_cons];exact zR _ hy)]
theorem evO_same {ts ts':TS} {o:Option Operand} (h:∀ x∈o.toArray.toList,aeval ts x=aeval ts' x):evO ts o=evO ts' o:=by
  cases o with
  | none=>rfl
  | some x=>simp only [evO,h x (by simp)]
theorem astepO_same {T:Tab} {S:St} {ts ts':TS} {o:Op} (h:SameAt (tmpsOf o.operands.toList) ts ts'):astepO T S ts o=astepO T S ts' o:=by
  have key:∀ x∈o.operands.toList,aeval ts x=aeval ts' x:=fun x hx=>aeval_same h hx
  unfold astepO
  split
  case h_16=>rfl
  all_goals try (simp [Op.operands,Call.operands] at key)
  all_goals first
    | rfl
    | (simp only [key];done)
    | (simp only [key.1,key.2];done)
    | (simp only [key.1,key.2.1,key.2.2];done)
    | skip
  · rw [evP_same (ts:=ts) (ts':=ts') (fun x hx=>by
      simp only [List.mem_map] at hx
      obtain ⟨⟨i,y⟩,h1,rfl⟩:=hx
      exact key y i (by simpa using h1))]
  · rw [evP_same (ts:=ts) (ts':=ts') (fun x hx=>by
      simp only [List.mem_map] at hx
      obtain ⟨⟨i,y⟩,h1,rfl⟩:=hx
      exact key y i (by simpa using h1))]
  · rw [zDq (ts:=ts) (ts':=ts') (fun x hx=>key x (.inl (by simpa using hx))),zDq (ts:=ts) (ts':=ts') (fun x hx=>key x (.inr (by simpa using hx)))]
  · rw [key.1,evO_same (fun x hx=>key.2 x (.inl (by simpa using hx))),evO_same (fun x hx=>key.2 x (.inr (.inl (by simpa using hx)))),evO_same (fun x hx=>key.2 x (.inr (.inr (by simpa using hx))))]
  · rw [zDq (ts:=ts) (ts':=ts') (fun x hx=>key x (by simpa using hx))]
theorem callee_same {E:Env} {ts ts':TS} {c:Call} (h:SameAt (tmpsOf c.operands.toList) ts ts'):callee E ts c=callee E ts' c:=by
  have key:∀ x∈c.operands.toList,aeval ts x=aeval ts' x:=fun x hx=>aeval_same h hx
  unfold callee
  cases hc:c.callee with
  | value f =>
    simp [Call.operands,hc] at key
    have h2:evs ts c.args.toList=evs ts' c.args.toList:=zDq fun x hx=>key.2 x (by simpa using hx)
    simp only [key.1,h2]
  | invoke r n =>
    simp [Call.operands,hc] at key
    have h2:evs ts c.args.toList=evs ts' c.args.toList:=zDq fun x hx=>key.2 x (by simpa using hx)
    simp only [key.1,h2]
  | builtin b=>rfl
theorem appendA_kill {T:Tab} {S:St} {t:TypeId} {s x:AV} {k:Nat} {mk:Nat→AV} (e:appendA T S t s x=some (.tok (some k) mk)):∃ l n,s=.slice l n (.tok k):=by
  unfold appendA at e
  split at e
  · split at e
    · split at e
      · cases e
      · split at e
        · split at e
          · split at e
            · cases e
            · cases e
            · split at e <;> cases e
            · cases e
          · split at e
            · cases e
            · split at e
              · split at e <;> cases e
              · split at e
                · split at e
                  · cases e
                  · simp only [yT,Res.tok.injEq] at e
                    obtain ⟨h1,_⟩:=e
                    subst h1
                    exact ⟨_,_,rfl⟩
                  · cases e
                · cases e
              · cases e
        · cases e
    · cases e
  · cases e
theorem evs_mem {ts:TS}:∀ {l:List Operand} {vs:List AV},evs ts l=some vs → ∀ v∈vs,∃ x∈l,aeval ts x=some v
  | [],vs,e,v,hv=>by simp only [evs,yT] at e;subst e;cases hv
  | x :: l,vs,e,v,hv=>by
    simp only [evs] at e
    split at e
    · rename_i u us h1 h2
      simp only [yT] at e;subst e
      rcases List.mem_cons.1 hv with rfl | hv
      · exact ⟨x,zP,h1⟩
      · obtain ⟨y,hy,h3⟩:=evs_mem h2 v hv
        exact ⟨y,zR _ hy,h3⟩
    · cases e
theorem astepO_kill {T:Tab} {S:St} {ts:TS} {o:Op} {k:Nat} {mk:Nat→AV} (e:astepO T S ts o=some (.tok (some k) mk)):∃ x l n,aeval ts x=some (.slice l n (.tok k)):=by
  unfold astepO at e
  split at e
  all_goals try (cases e;done)
  all_goals try (simp only [zK,reduceCtorEq,and_false,exists_false,zQ] at e;done)
  · split at e
    · simp only [zK,reduceCtorEq,and_false,exists_false] at e
    · cases e
  · simp only [allocA,zK,reduceCtorEq,and_false,exists_false] at e
  · simp only [boxA,zK,reduceCtorEq,and_false,exists_false] at e
  · simp only [zQ] at e
    obtain ⟨p,_,x,_,e⟩:=e
    unfold storeA at e
    repeat' split at e
    all_goals cases e
  · simp only [zQ] at e
    obtain ⟨p,_,e⟩:=e
    split at e
    · cases e
    · unfold zCc at e
      repeat' split at e
      all_goals first
        | (cases e;done)
        | (simp only [zK,reduceCtorEq,and_false,exists_false] at e;done)
  · split at e
    · split at e
      · cases e
      · simp only [zK,reduceCtorEq,and_false,exists_false] at e
    · cases e
  · simp only [zQ] at e
    obtain ⟨p,_,x,_,e⟩:=e
    unfold zCe at e
    repeat' split at e
    all_goals first
      | (cases e;done)
      | (simp at e;done)
  · simp only [zQ] at e
    obtain ⟨p,_,x,_,y,_,e⟩:=e
    unfold zAz at e
    repeat' split at e
    all_goals cases e
  · simp only [zQ] at e
    obtain ⟨p,_,e⟩:=e
    unfold rangeA at e
    repeat' split at e
    all_goals cases e
  · simp only [zQ] at e
    obtain ⟨p,_,e⟩:=e
    unfold nextA at e
    repeat' split at e
    all_goals cases e
  · simp only [zQ] at e
    obtain ⟨vs,hvs,e⟩:=e
    unfold zAa at e
    split at e
    · simp only [zK,reduceCtorEq,and_false,exists_false] at e
    · split at e
      · obtain ⟨l,n,rfl⟩:=appendA_kill e
        obtain ⟨x,_,hx⟩:=evs_mem hvs _ zP
        exact ⟨x,l,n,hx⟩
      · cases e
    · unfold copyA at e
      repeat' split at e
      all_goals cases e
    · simp only [zK,reduceCtorEq,and_false,exists_false] at e
    · simp only [zK,reduceCtorEq,and_false,exists_false] at e
    · unfold deleteA at e
      repeat' split at e
      all_goals cases e
    · cases e
section
variable {α:Type}
def lastW (key:Nat→Option Nat) (val:Nat→α) (D:Nat→Bool) (k:Nat) (init:Option α):Nat→Option α
  | 0=>init
  | n+1=>if D n=true∧key n=some k then some (val n) else lastW key val D k init n
variable {key:Nat→Option Nat} {val:Nat→α} {D D':Nat→Bool} {k:Nat} {init:Option α}
theorem zAy:∀ {n:Nat},(∀ i,i<n→key i=some k→D i=D' i)→lastW key val D k init n=lastW key val D' k init n
  | 0,_=>rfl
  | n+1,h=>by
    simp only [lastW]
    rw [zAy (n:=n) fun i hi hk=>h i (by omega) hk]
    by_cases hk:key n=some k
    · rw [h n (by omega) hk]
    · simp only [hk,and_false]
theorem zCv:∀ {n:Nat},(∀ i,i<n→key i=some k→D i=false)→lastW key val D k init n=init
  | 0,_=>rfl
  | n+1,h=>by
    simp only [lastW]
    rw [if_neg (fun hh=>by rw [h n (by omega) hh.2] at hh;exact Bool.false_ne_true hh.1),zCv (n:=n) fun i hi hk=>h i (by omega) hk]
theorem lastW_at {j:Nat} (hD:D j=true) (hk:key j=some k):∀ {n:Nat},j<n→(∀ i,j<i→i<n→key i=some k→D i=false)→lastW key val D k init n=some (val j)
  | 0,hn,_=>by omega
  | n + 1,hn,h=>by
    simp only [lastW]
    by_cases e:j=n
    · subst e;rw [if_pos ⟨hD,hk⟩]
    · rw [if_neg (fun hh=>by rw [h n (by omega) (by omega) hh.2] at hh;exact Bool.false_ne_true hh.1)]
      exact lastW_at hD hk (by omega) fun i h1 h2 h3=>h i h1 (by omega) h3
theorem zEl:∀ {n m:Nat},n≤m→lastW key val (fun i=>decide (i<n)) k init m=lastW key val (fun _=>true) k init n
  | n, 0, h => by have:n=0:=by omega
                  subst this;rfl
  | n,m+1,h=>by
    by_cases e:n=m+1
    · subst e
      exact zAy fun i hi _=>by simpa using hi
    · simp only [lastW]
      rw [if_neg (by simp;omega)]
      exact zEl (by omega)
end
def addD (D:Nat→Bool) (j:Nat):Nat→Bool:=fun i=>if i=j then true else D i
theorem before_list (l:List Oper):∀ (acc:Array Nat) (j:Nat),j<acc.size →
    (l.foldl (fun acc o=>acc.push (o.after.foldl (fun s e=>if Region.binds .any e then s ||| 2 ^ e.on ||| acc.getD e.on 0 else s) 0)) acc).getD j 0=acc.getD j 0:=by
  induction l with
  | nil=>intro acc j _;rfl
  | cons o l ih =>
    intro acc j hj
    rw [List.foldl_cons,ih _ j (by simp;omega)]
    simp only [zZ,Array.getElem?_push,if_neg (show ¬ j=acc.size by omega)]
theorem before_size (l:List Oper):∀ (acc:Array Nat),
    (l.foldl (fun acc o=>acc.push (o.after.foldl (fun s e=>if Region.binds .any e then s ||| 2 ^ e.on ||| acc.getD e.on 0 else s) 0)) acc).size=acc.size+l.length:=by
  induction l with
  | nil=>intro acc;rfl
  | cons o l ih=>intro acc;rw [List.foldl_cons,ih];simp;omega
theorem after_bit (acc:Array Nat) (i:Nat):∀ (l:List Edge) (s:Nat),(l.foldl (fun s e=>if Region.binds .any e then s ||| 2 ^ e.on ||| acc.getD e.on 0 else s) s).testBit i=true →
    s.testBit i=true ∨ ∃ e∈l,Region.binds .any e=true∧(i=e.on∨(acc.getD e.on 0).testBit i=true)
  | [],s,h=>.inl h
  | e :: l,s,h=>by
    rw [List.foldl_cons] at h
    rcases after_bit acc i l _ h with h | ⟨e',h1,h2⟩
    · split at h
      · rename_i hb
        simp only [Nat.testBit_or,Nat.testBit_two_pow,Bool.or_eq_true,decide_eq_true_eq] at h
        rcases h with (h | h) | h
        · exact .inl h
        · exact .inr ⟨e,zP,hb,.inl h.symm⟩
        · exact .inr ⟨e,zP,hb,.inr h⟩
      · exact .inl h
    · exact .inr ⟨e',zR _ h1,h2⟩
theorem reach_edge {ops:Array Oper} {i j:Nat} {o:Oper} (hj:ops[j]? = some o) (he:∀ e∈o.after.toList,Region.binds .any e=true→e.on<j) (h:reach ops i j=true) :
    ∃ e∈o.after.toList,Region.binds .any e=true∧(i=e.on∨reach ops i e.on=true):=by
  unfold reach at h ⊢
  unfold Region.before at h ⊢
  rw [← Array.foldl_toList] at h ⊢
  have hlt:j<ops.toList.length:=by
    rcases zU j ops.toList.length with h' | h'
    · exact h'
    · rw [qP (by simpa using h')] at hj;cases hj
  have hsplit:ops.toList=ops.toList.take j ++ o :: ops.toList.drop (j+1):=by
    conv=>lhs;rw [← List.take_append_drop j ops.toList]
    congr 1
    rw [List.drop_eq_getElem_cons hlt]
    congr 1
    have:ops.toList[j]? = some o:=by simpa using hj
    rw [zF hlt] at this
    exact Option.some.inj this
  generalize hacc:(ops.toList.take j).foldl (fun acc o=>acc.push (o.after.foldl (fun s e=>if Region.binds .any e then s ||| 2 ^ e.on ||| acc.getD e.on 0 else s) 0)) #[]=acc at *
  have hsz:acc.size=j:=by rw [← hacc,before_size];simp only [List.length_take,List.size_toArray,qE];omega
  rw [hsplit,List.foldl_append,hacc,List.foldl_cons] at h
  rw [before_list _ _ j (by simp;omega)] at h
  simp only [zZ,Array.getElem?_push,hsz,if_true,qD] at h
  rw [← Array.foldl_toList] at h
  have h':=after_bit acc i o.after.toList 0 (by simpa only [zZ] using h)
  rcases h' with h' | ⟨e,h1,h2,h3⟩
  · simp at h'
  · refine ⟨e,h1,h2, ?_⟩
    rcases h3 with h3 | h3
    · exact .inl h3
    · refine .inr ?_
      rw [hsplit,List.foldl_append,hacc,List.foldl_cons,before_list _ _ _ (by have:=he e h1 h2;simp;omega)]
      simp only [zZ,Array.getElem?_push,if_neg (show ¬ e.on=acc.size by have:=he e h1 h2;omega)]
      simpa only [zZ] using h3
theorem zCw {ops:Array Oper} {D:Nat→Bool} (he:∀ (j:Nat) (o:Oper),ops[j]? = some o → ∀ e∈o.after.toList,Region.binds .any e=true→e.on<j)
    (hD:∀ (j:Nat) (o:Oper),ops[j]? = some o→D j=true → ∀ e∈o.after.toList,Region.binds .any e=true→D e.on=true) :
    ∀ (j i:Nat) (o:Oper),ops[j]? = some o→(∀ e∈o.after.toList,Region.binds .any e=true→D e.on=true)→reach ops i j=true→D i=true:=by
  intro j
  induction j using Nat.strongRecOn with
  | _ j ih =>
    intro i o hj hr h
    obtain ⟨e,h1,h2,h3⟩:=reach_edge hj (he j o hj) h
    have hlt:=he j o hj e h1 h2
    rcases h3 with rfl | h3
    · exact hr e h1 h2
    · have hjl:j<ops.size:=by
        rcases zU j ops.size with h' | h'
        · exact h'
        · rw [qP h'] at hj;cases hj
      have ho:ops[e.on]? = some ops[e.on]:=qA (by omega)
      exact ih e.on hlt i _ ho (hD e.on _ ho (hr e h1 h2)) h3
def hp (S:St) (p:Nat):Option Blk:=(S.heap[p]?).join
theorem hp_some {S:St} {p:Nat} {B:Blk}:hp S p=some B↔S.heap[p]? = some (some B):=by
  unfold hp
  cases h:S.heap[p]? with
  | none=>simp
  | some x=>cases x <;> simp
theorem hp_put (S:St) (i:Nat) (B:Blk) (p:Nat):hp (S.put i B) p=if i=p then some B else hp S p:=by
  unfold hp
  simp only [St.put,yC]
  by_cases e:i=p
  · subst e
    have:i<(S.heap ++ List.replicate (i+1 - S.heap.length) none).length:=by simp;omega
    simp only [this,if_true,Option.join_some]
  · simp only [if_neg e,List.getElem?_append]
    split
    · rfl
    · rename_i hl
      rw [yD]
      split
      · rw [zN (by omega)];rfl
      · rw [zN (by omega)]
theorem len_put (S:St) (i:Nat) (B:Blk):(S.put i B).heap.length=max S.heap.length (i+1):=by
  simp [St.put];omega
def wk (S:St):Res→Option Nat
  | .alloc _ _=>some S.heap.length
  | .write i _ _=>some i
  | _=>none
def wv:Res→Blk
  | .alloc B _=>B
  | .write _ B _=>B
  | _=>.cells []
def ck (S:St):Res→Option Nat
  | .tok _ _=>some S.nt
  | _=>none
def kk:Res→Option Nat
  | .tok k _=>k
  | _=>none
theorem hp_app (S:St) (r:Res) (p:Nat):hp (r.app S).2 p=if wk S r=some p then some (wv r) else hp S p:=by
  cases r with
  | pure v=>simp [Res.app,wk]
  | alloc B mk =>
    simp only [Res.app,wk,wv,yT]
    rw [← put_len,hp_put]
  | tok k mk=>simp [Res.app,wk,hp]
  | write i B v=>simp only [Res.app,wk,wv,yT,hp_put]
theorem len_app (S:St) (r:Res):S.heap.length≤(r.app S).2.heap.length∧(∀ p,wk S r=some p→p<(r.app S).2.heap.length):=by
  cases r with
  | pure v=>simp [Res.app,wk]
  | alloc B mk=>simp [Res.app,wk]
  | tok k mk=>simp [Res.app,wk]
  | write i B v=>simp only [Res.app,wk,len_put];exact ⟨by omega,fun p hp=>by cases hp;omega⟩
theorem nt_app (S:St) (r:Res):S.nt≤(r.app S).2.nt∧(∀ p,ck S r=some p→p<(r.app S).2.nt):=by
  cases r <;> simp [Res.app,ck,St.put]
theorem toks_app (S:St) (r:Res) (k:Nat) (h:k∈(r.app S).2.toks):(k∈S.toks∨ck S r=some k)∧(kk r=some k→ck S r=some k):=by
  cases r with
  | pure v=>exact ⟨.inl h,by simp [kk]⟩
  | alloc B mk=>exact ⟨.inl h,by simp [kk]⟩
  | write i B v=>exact ⟨.inl h,by simp [kk]⟩
  | tok kill mk =>
    simp only [Res.app,yM] at h
    simp only [ck,kk]
    rcases h with rfl | h
    · exact ⟨.inr rfl,fun _=>rfl⟩
    · refine ⟨.inl (zEc _ h),fun e => ?_⟩
      subst e
      simp [killTok] at h
structure StepOk (E:Env) (Z:List Nat) (ops:Array Oper) (free:Bool) (b:St) (o:Oper) (ts:TS) (S:St) (r:Res):Prop where
  dst:dstOk E.N o.dst=true
  how : (wantedA ops ts o=some false∧r=.pure .undef) ∨
    (wantedA ops ts o=some true∧r.ok S ∧
      ((free=true∧r.calm=true ∧ ∃ F,(∀ (p:Nat) (B:Blk),F.heap[p]? = some (some B)→p∈Z∧S.heap[p]? = some (some B))∧astepO E.T F ts o.op=some r) ∨
       (free=false∧isW o.op=true∧astepO E.T S ts o.op=some r∧(∀ i B v,r=.write i B v→i ∉ Z)) ∨
       (free=false∧isW o.op=false∧r.quiet=true∧(astepO E.T b ts o.op=some r ∨
          ∃ c f args args',o.op=.call c∧astepO E.T b ts o.op=none∧callee E ts c=some (f,args)∧Callable E.P f∧SubL args args'∧PC E.P f args' r∧r.noKill=true))))
def nextB (free:Bool) (o:Oper) (w:Option Bool) (b S':St):St:=if w=some true∧free=false∧isW o.op=true then S' else b
structure Tr where
  ts:TS
  S:St
  b:St
  r:Res
def Run (E:Env) (Z:List Nat) (ops:Array Oper) (K:TS→St→Prop) (hs:List Bool) (n k:Nat) (b:St) (ts:TS) (S:St):Prop:=
  ∃ q : Nat→Tr,(q k).ts=ts∧(q k).S=S∧(q k).b=b∧K (q (k+n)).ts (q (k+n)).S ∧
      ∀ j,k≤j→j<k+n → ∃ o,ops[j]? = some o∧StepOk E Z ops (hs.getD j false) (q j).b o (q j).ts (q j).S (q j).r ∧
        (q (j+1)).ts=setT (q j).ts o.dst ((q j).r.app (q j).S).1∧(q (j+1)).S=((q j).r.app (q j).S).2 ∧
        (q (j+1)).b=nextB (hs.getD j false) o (wantedA ops (q j).ts o) (q j).b (q (j+1)).S
theorem run_of {E:Env} {Z:List Nat} {ops:Array Oper} {K:TS→St→Prop} (hs:List Bool):∀ (n k:Nat) (l:List Oper) (b:St) (ts:TS) (S:St),l=ops.toList.drop k→QPreZ E Z ops K n l (hs.drop k) b ts S→Run E Z ops K hs n k b ts S:=by
  intro n
  induction n with
  | zero =>
    intro k l b ts S hl h
    exact ⟨fun _=>⟨ts,S,b,.pure .undef⟩,rfl,rfl,rfl,h,fun j h1 h2=>by omega⟩
  | succ n ih =>
    intro k l b ts S hl h
    cases l with
    | nil=>exact h.elim
    | cons o rest =>
      have ho:ops[k]? = some o:=by
        have:(ops.toList.drop k)[0]? = some o:=by rw [← hl];rfl
        simpa using this
      have hrest:rest=ops.toList.drop (k+1):=by
        have:(o :: rest).tail=(ops.toList.drop k).tail:=by rw [hl]
        simpa using this
      have hhd:(hs.drop k).headD false=hs.getD k false:=by
        rw [List.headD_eq_head?_getD,List.head?_drop,zG]
      have htl:(hs.drop k).tail=hs.drop (k+1):=by simp
      obtain ⟨hd,h⟩:=h
      have go:∀ (r:Res) (b':St),StepOk E Z ops (hs.getD k false) b o ts S r→b'=nextB (hs.getD k false) o (wantedA ops ts o) b (r.app S).2 →
          QPreZ E Z ops K n rest (hs.drop k).tail b' (setT ts o.dst (r.app S).1) (r.app S).2→Run E Z ops K hs (n+1) k b ts S:=by
        intro r b' hst hb' hq
        rw [htl] at hq
        obtain ⟨q,h1,h2,h3,h4,h5⟩:=ih (k+1) rest b' _ _ hrest hq
        refine ⟨fun j=>if j=k then ⟨ts,S,b,r⟩ else q j,by simp,by simp,by simp, ?_, ?_⟩
        · have:¬ (k+(n+1)=k):=by omega
          simp only [this,if_false]
          rw [show k+(n+1)=k+1+n by omega];exact h4
        · intro j hj1 hj2
          by_cases e:j=k
          · subst e
            refine ⟨o,ho,by simpa using hst, ?_⟩
            have:¬ (j+1=j):=by omega
            simp only [this,if_false,if_true,h1,h2,h3]
            exact ⟨trivial,trivial,hb'⟩
          · have e':¬ (j+1=k):=by omega
            simp only [e,e',if_false]
            exact h5 j (by omega) (by omega)
      split at h
      · rename_i hw
        exact go (.pure .undef) b ⟨hd,.inl ⟨hw,rfl⟩⟩ (by simp [nextB,hw]) h
      · rename_i hw
        rw [hhd] at h
        unfold QOpZ at h
        split at h
        · rename_i hf
          obtain ⟨F,r,hF,hr,hc,h⟩:=h
          have:(r.app S).2=S:=by cases r <;> simp [Res.calm] at hc;rfl
          refine go r b ⟨hd,.inr ⟨hw, ?_,.inl ⟨hf,hc,F,hF,hr⟩⟩⟩ (by unfold nextB;rw [if_neg (by rw [hf];simp)]) (by rw [this];exact h)
          cases r <;> simp [Res.calm] at hc;trivial
        · rename_i hf
          have hf':hs.getD k false=false:=by simpa using hf
          split at h
          · rename_i hW
            split at h
            · rename_i r hr
              obtain ⟨hk,hav,h⟩:=h
              exact go r _ ⟨hd,.inr ⟨hw,hk,.inr (.inl ⟨hf',hW,hr,hav⟩)⟩⟩ (by unfold nextB;rw [if_pos ⟨hw,hf',hW⟩]) h
            · exact h.elim
          · rename_i hW
            have hW':isW o.op=false:=by simpa using hW
            split at h
            · rename_i r hr
              obtain ⟨hq,hk,h⟩:=h
              exact go r b ⟨hd,.inr ⟨hw,hk,.inr (.inr ⟨hf',hW',hq,.inl hr⟩)⟩⟩ (by simp [nextB,hW']) h
            · rename_i hn
              split at h
              · rename_i c hop
                split at h
                · rename_i f args hcl
                  obtain ⟨a1,args',r,a2,a3,a4,a5,h⟩:=h
                  refine go r b ⟨hd,.inr ⟨hw, ?_,.inr (.inr ⟨hf',hW',a4,.inr ⟨c,f,args,args',hop,hn,hcl,a1,a2,a3,a5⟩⟩)⟩⟩ (by simp [nextB,hW']) h
                  cases r with
                  | tok k mk=>cases k with
                    | none=>trivial
                    | some k=>simp [Res.noKill] at a5
                  | _=>trivial
                · exact h.elim
              · exact h.elim
      · exact h.elim
end Go.Av
end

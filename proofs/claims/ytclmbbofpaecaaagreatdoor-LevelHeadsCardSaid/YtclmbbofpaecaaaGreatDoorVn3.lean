/- Part 3 of the proof. -/
import Derived.Test.YtclmbbofpaecaaaGreatDoorVn2
import Derived.Laws.BytesArg
import Derived.Lib.ConvBytes
import Derived.Laws.RangeString
set_option linter.all false
set_option linter.unusedVariables false
set_option linter.unusedSimpArgs false
set_option linter.unusedSectionVars false
open Array renaming getElem?_eq_getElem → qA, getElem?_eq_none → qP, getElem?_append_left → yR
open Bool renaming false_eq_true → zS
open List renaming getElem?_eq_getElem → zF, getD_eq_getElem?_getD → zG, getElem?_eq_none → zN, getElem?_append_right → zY, getElem_mem → qB, length_append → qC, getElem?_append_left → qJ, getElem?_map → qK, getElem?_range → qR
open Nat renaming le_refl → zM, lt_or_ge → zU
open Option renaming map_eq_some_iff → zK, map_some → zX, getD_some → qD
open Option.some renaming injEq → yT
open Go.Result renaming andThen_ok → yU
open Go.Sem renaming run_bind → yV
open Go.Sem renaming run_pure → yW
section
namespace Go.Av
open Go
def zCe (T:Tab) (t:TypeId) (l c:AV):Option Res:=
 match descOf T t,l,c with
 | some (.slice e),.int _ l,.int _ c=>match T e with
  | some ei=>if 0≤l∧l≤c∧c≤1099511627776∧c * ei.bytes≤1099511627776∧ei.size≠0 then
    some (.alloc (.cells ((List.range (c.toNat * ei.size)).map fun j=>ei.zero.getD (j % ei.zero.length) .undef)) (.sref · 0 l.toNat c.toNat)) else none
  | none=>none
 | _,_,_=>none
theorem wrap_small {n:Int} (h:0≤n) (h':n≤1099511627776):IntKind.i64.wrap n=n:=by
 unfold IntKind.wrap
 have:(2 ^ IntKind.i64.bits:Int)=18446744073709551616:=rfl
 have:(2 ^ (IntKind.i64.bits - 1):Int)=9223372036854775808:=rfl
 have hm:n % 18446744073709551616=n:=Int.emod_eq_of_lt h (by omega)
 simp only [*]
 rw [if_neg]
 simp
 intro _
 omega
theorem makeSlice_ok {P:Program} {T:Tab} (hT:T.Ok P) {c:Cx} {S:St} {w:World} (h:StRel c S w) {t:TypeId} {l m:AV} {l' m':Value} {r:Res} (hl:VRel c l l') (hm:VRel c m m') (e:zCe T t l m=some r) :
  ∃ v w',(Instr.makeSlice t l' m').run P w=.ok v w'∧Post c S r v w':=by
 unfold zCe at e
 split at e
 ·rename_i el k1 n k2 cp hd
  have hu:=zAm hT hd
  cases hl;cases hm
  split at e
  ·rename_i ei hei
   split at e
   ·rename_i hb
    obtain ⟨h0,h1,h2,h3,h4⟩:=hb
    simp only [yT] at e;subst e
    obtain ⟨inf,z,hi1,hi2,hi3,hi4,hi5,hi6,hi7,hi8⟩:=(hT _ _ hei).info
    have w1:IntKind.i64.wrap n=n:=wrap_small h0 (by omega)
    have w2:IntKind.i64.wrap cp=cp:=wrap_small (by omega) h2
    have ht1:¬ (cp<0):=by omega
    have ht2:¬ ((ei.bytes:Int) * cp > 2 ^ 48):=by
     have:(2:Int) ^ 48=281474976710656:=rfl
     rw [Int.mul_comm];omega
    have ht3:¬ (n<0):=by omega
    have ht4:¬ (n > cp):=by omega
    refine ⟨.slice (some ⟨w.heap.size,0,none⟩) n.toNat cp.toNat,w.alloc (.cells ((Array.range (cp.toNat * ei.size)).map (z.cells[· % z.cells.size]!)) el), ?_, ?_⟩
    ·have hti:(typeInfo el).run P w=.ok inf w:=by simp [typeInfo,hi1]
     have hbb:(inf.bytes:Int)=(ei.bytes:Int):=by rw [hi3]
     by_cases hz:cp.toNat * ei.size=0
     ·simp only [Instr.makeSlice,yV,run_underlying hu,yU,asInt,asIntOf,yW,hti,w1,w2,hbb]
      simp only [ht1,ht2,ht3,ht4,decide_false,Bool.or_false,Bool.or_self,zS,if_false,yV,yW,yU,run_askRoom,(hT _ _ hei).sizeOf,hz,if_true,newRow,run_newObj]
      have h00:Array.range 0=#[]:=rfl
      simp only [h00,Array.map_empty]
      rfl
     ·simp only [Instr.makeSlice,yV,run_underlying hu,yU,asInt,asIntOf,yW,hti,w1,w2,hbb]
      simp only [ht1,ht2,ht3,ht4,decide_false,Bool.or_false,Bool.or_self,zS,if_false,yV,yW,yU,run_askRoom,(hT _ _ hei).sizeOf,hz,zeroValue,typeInfo,run_program,hi1,hi4,newRow,run_newObj]
      rfl
    ·refine Post.newCells h el (zeros_rel (hi6 c) _ (fun _ => ?_)) (fun c' i hc hm=>.sref i 0 _ _ _ _ hm (zM _))
     have:=(hi6 c).1;simp at this;omega
   ·cases e
  ·cases e
 ·cases e
def lenA (T:Tab) (S:St) (t:TypeId) (x:AV):Option AV:=
 match descOf T t,x with
 | some .string,.str s=>some (.int .i64 s.size)
 | some (.array n _),_=>some (.int .i64 n)
 | some (.slice _),.slice _ n _=>some (.int .i64 n)
 | some (.slice _),.nilS=>some (.int .i64 0)
 | some (.slice _),.sref _ _ n _=>some (.int .i64 n)
 | some (.map _ _),.nilMap=>some (.int .i64 0)
 | some (.map _ _),.map i=>match S.heap[i]? with
  | some (some (.map es))=>some (.int .i64 es.length)
  | _=>none
 | _,_=>none
theorem len_ok {P:Program} {T:Tab} (hT:T.Ok P) {c:Cx} {S:St} {w:World} (h:StRel c S w) {t:TypeId} {ts:Array TypeId} {ty:TypeId} {x v:AV} {p:Value} (h0:ts[0]? = some t) (hx:VRel c x p) (e:lenA T S t x=some v) :
  ∃ u,(Builtin.len_ ts ty #[p]).run P w=.ok u w∧VRel c v u:=by
 unfold lenA at e
 split at e
 all_goals (try (rename_i hd;have hu:=zAm hT hd))
 ·simp only [yT] at e;subst e;cases hx
  exact ⟨_,by simp [Builtin.len_,h0,run_underlying hu];rfl,.int _ _⟩
 ·simp only [yT] at e;subst e
  exact ⟨_,by simp [Builtin.len_,h0,run_underlying hu];rfl,.int _ _⟩
 ·simp only [yT] at e;subst e
  cases hx
  ·exact ⟨_,by simp [Builtin.len_,h0,run_underlying hu];rfl,.int _ _⟩
  ·exact ⟨_,by simp [Builtin.len_,h0,run_underlying hu];rfl,.int _ _⟩
 ·simp only [yT] at e;subst e;cases hx
  exact ⟨_,by simp [Builtin.len_,h0,run_underlying hu];rfl,.int _ _⟩
 ·simp only [yT] at e;subst e;cases hx
  exact ⟨_,by simp [Builtin.len_,h0,run_underlying hu];rfl,.int _ _⟩
 ·simp only [yT] at e;subst e;cases hx
  exact ⟨_,by simp [Builtin.len_,h0,run_underlying hu];rfl,.int _ _⟩
 ·split at e
  ·rename_i es hes
   simp only [yT] at e;subst e
   cases hx with
   | map _ n hm =>
    obtain ⟨n',h1,h2,en,cl,h3,h4,_⟩:=h.blk _ _ hes
    rw [hm] at h1;cases h1
    refine ⟨.int .i64 en.size, ?_,by rw [h4];exact .int _ _⟩
    have hg:(getObj n).run P w=.ok (.map en cl) w:=by simp [getObj,Sem.run,h3]
    simp [Builtin.len_,h0,run_underlying hu,hg]
    rfl
  ·cases e
 ·cases e
def heldA (S:St) (z:Nat):AV→Option (List AV × Nat)
 | .slice l n _=>if l.length=n * z then some (l,n) else none
 | .nilS=>some ([],0)
 | .sref b o n _=>match S.heap[b]? with
  | some (some (.cells l))=>if o+n * z≤l.length then some ((l.drop o).take (n * z),n) else none
  | _=>none
 | _=>none
theorem held_ok {c:Cx} {S:St} {w:World} (h:StRel c S w) {z:Nat} {x:AV} {p:Value} {l:List AV} {n:Nat} (hx:VRel c x p) (e:heldA S z x=some (l,n)) :
  ∃ a cap us,p=.slice a n cap∧l.length=n * z∧LRel c l us∧(∀ b,a=some b → ∀ (j:Nat) (u:Value),us[j]? = some u→w.cell? (b.add j)=some u)∧(a=none→n=0∧us=[]):=by
 have fromF:∀ (l:List AV) (vs:Nat→Value),(∀ (j:Nat) (x:AV),l[j]? = some x→VRel c x (vs j))→LRel c l ((List.range l.length).map vs):=by
  intro l vs hr
  refine ⟨by simp,fun j x u h1 h2 => ?_⟩
  have hj:j<l.length:=by
   rcases zU j l.length with h' | h'
   ·exact h'
   ·rw [zN h'] at h1;cases h1
  simp only [qK,qR hj,zX,yT] at h2
  subst h2
  exact hr j x h1
 have fromG:∀ (m:Nat) (vs:Nat→Value) (b off:Nat),(∀ j,j<m→w.cell? ⟨b,off+j,none⟩=some (vs j)) → ∀ (j:Nat) (u:Value),((List.range m).map vs)[j]? = some u→w.cell? (Addr.add ⟨b,off,none⟩ j)=some u:=by
  intro m vs b off hk j u hu
  have hj:j<m:=by
   rcases zU j m with h' | h'
   ·exact h'
   ·rw [zN (by simpa using h')] at hu;cases hu
  simp only [qK,qR hj,zX,yT] at hu
  subst hu
  rw [Addr.add_lit]
  exact hk j hj
 unfold heldA at e
 split at e
 ·rename_i l' n' t
  split at e
  ·rename_i hlen
   simp only [yT,Prod.mk.injEq] at e
   obtain ⟨rfl,rfl⟩:=e
   cases hx with
   | slice _ _ _ b off cap vs hc hk hr he ht =>
    exact ⟨_,cap,_,rfl,hlen,fromF _ vs hr,(fun b' hb=>by cases hb;exact fromG _ vs b off (fun j hj=>h.K _ _ _ (hk j hj))),fun hn=>by cases hn⟩
   | sliceNil _ ht=>exact ⟨none,0,[],rfl,by simp,LRel.nil c,(fun b hb=>by cases hb),fun _=>⟨rfl,rfl⟩⟩
  ·cases e
 ·simp only [yT,Prod.mk.injEq] at e
  obtain ⟨rfl,rfl⟩:=e
  cases hx
  exact ⟨none,0,[],rfl,by simp,LRel.nil c,(fun b hb=>by cases hb),fun _=>⟨rfl,rfl⟩⟩
 ·rename_i b o n' cap
  split at e
  ·rename_i l' hb
   split at e
   ·rename_i hlen
    simp only [yT,Prod.mk.injEq] at e
    obtain ⟨rfl,rfl⟩:=e
    cases hx with
    | sref _ _ _ _ m cap' hm hc' =>
     obtain ⟨vs,h1,h2,_⟩:=zEg h hb hm
     have hl:((l'.drop o).take (n' * z)).length=n' * z:=by simp only [List.length_take,List.length_drop];omega
     refine ⟨_,cap',(List.range ((l'.drop o).take (n' * z)).length).map (fun j=>vs (o+j)),rfl,hl,fromF _ (fun j=>vs (o+j)) (fun j x hx => ?_),(fun b' hb'=>by
      cases hb'
      exact fromG _ (fun j=>vs (o+j)) m o (fun j hj=>by rw [Nat.add_comm] at *;exact h1 _ (by omega))),fun hn=>by cases hn⟩
     rw [List.getElem?_take] at hx
     split at hx
     ·rw [List.getElem?_drop] at hx;exact h2 _ x hx
     ·cases hx
   ·cases e
  ·cases e
 ·cases e
def appendA (T:Tab) (S:St) (t:TypeId) (s x:AV):Option Res:=
 match descOf T t with
 | some (.slice e)=>match T e with
  | some ei=>if ei.size=0 then none else match heldA S ei.size x with
   | some (lx,nx) =>
    if nx=0 then (match s with
     | .slice _ _ _=>some (.pure s)
     | .nilS=>some (.pure s)
     | .sref _ _ n cap=>if n≤cap then some (.pure s) else none
     | _=>none)
    else if !lx.all AV.one then none else match s with
     | .nilS=>if nx * ei.bytes≤1099511627776∧nx≤1099511627776 then some (.tok none (fun j=>.slice lx nx (.tok j))) else none
     | .slice l n t=>if (n+nx) * ei.bytes≤1099511627776∧n+nx≤1099511627776∧l.length=n * ei.size then
       match t with
       | .exact=>some (.tok none (fun j=>.slice (l ++ lx) (n+nx) (.tok j)))
       | .tok k=>some (.tok (some k) (fun j=>.slice (l ++ lx) (n+nx) (.tok j)))
       | .unk=>none
      else none
     | _=>none
   | none=>none
  | none=>none
 | _=>none
theorem zEc {T:List Nat} {k:Option Nat}:∀ j∈killTok T k,j∈T:=by
 intro j hj
 cases k with
 | none=>exact hj
 | some k=>exact (List.mem_filter.1 hj).1
theorem Post.grow {c:Cx} {S:St} {w:World} (h:StRel c S w) (kill:Option Nat) {l:List AV} {us:List Value} (hl:LRel c l us) (spare:Array Value) (t:TypeId) {n cap z:Nat} (hn:0<n) (hlen:l.length=n * z) (hcap:n≤cap)
  (hsz:us.length+spare.size=cap * z):Post c S (.tok kill (fun j=>.slice l n (.tok j))) (.slice (some ⟨w.heap.size,0,none⟩) n cap) (w.alloc (.cells (us.toArray ++ spare) t)):=by
 intro j hj
 have h1:=(h.toks_sub (killTok S.toks kill) zEc).alloc (.cells (us.toArray ++ spare) t)
 have hle:=h1.extK_le w.heap.size 0 l.length
 have h2:=h1.extK w.heap.size 0 l.length (fun o _ _=>X_new h o) (fun i B hB hm=>absurd (h.dom _ _ hm).2 (by omega)) (fun k lo' hi' _ ht=>absurd (h.tdom _ _ ht).2 (by simp))
 have hlu:l.length=us.length:=hl.1
 have hK:∀ o,l.length≤o→(c.extK (w.alloc (.cells (us.toArray ++ spare) t)) w.heap.size 0 l.length).K w.heap.size o=none:=by
  intro o ho
  simp only [Cx.extK]
  rw [if_neg (by omega)]
  cases hk:c.K w.heap.size o with
  | none=>rfl
  | some u=>exact absurd (zAk (h.K _ _ _ hk)) (by omega)
 obtain ⟨hle2,h3⟩:=h2.addTok j w.heap.size (n * z) (cap * z) hj (by simp) (fun o=>by simp) (fun o h4 h5=>by
   refine ⟨hK o (by omega),X_new h o,by simp, ?_⟩
   rw [World.cell?_alloc_new]
   have:o<(us.toArray ++ spare).size:=by simp;omega
   exact ⟨_,qA this⟩) (fun k' x hk' hx=>by
    have:=(h.tdom k' x hx).2;omega) (fun i B hB hm=>absurd (h.dom _ _ hm).2 (by omega)) (max S.nt (j+1)) (Nat.le_max_left _ _) (by omega) (.inl h.sz)
 refine ⟨_,hle.trans hle2,rfl,fun j' hj'=>by simp only [updN,Cx.extK,if_neg hj'],h3, ?_⟩
 refine .slice l n (.tok j) w.heap.size 0 cap (fun i=>us.getD i Go.undef) hcap (fun i hi => ?_) (fun i x hx => ?_) (fun e=>by cases e) (fun k e => ?_)
 ·show (if w.heap.size=w.heap.size∧0≤0+i∧0+i<l.length then (w.alloc (.cells (us.toArray ++ spare) t)).cell? ⟨w.heap.size,0+i,none⟩ else c.K w.heap.size (0+i))=_
  rw [if_pos ⟨rfl,by omega,by omega⟩,World.cell?_alloc_new,Nat.zero_add]
  have hi':i<us.length:=by omega
  rw [zG,zF hi',qD]
  rw [yR (by simpa using hi')]
  simp [hi']
 ·obtain ⟨u,hu,hr⟩:=hl.get hx
  rw [zG,hu]
  exact hr.mono (hle.trans hle2)
 ·cases e
  exact ⟨hn,rfl,z,hlen,by simp [updN]⟩
theorem Post.room {c:Cx} {S:St} {w:World} (h:StRel c S w) {k:Nat} (hk:k∈S.toks) {l lx:List AV} {us:List Value} {n nx cap z b off:Nat} {vs:Nat→Value} (hn:0<n) (hlen:l.length=n * z) (hlx:LRel c lx us) (hx:lx.length=nx * z) (hcap:n+nx≤cap)
  (hτ:c.τ k=some (b,off+n * z,off+cap * z)) (hK:∀ j,j<l.length→c.K b (off+j)=some (vs j)) (hr:∀ (j:Nat) (x:AV),l[j]? = some x→VRel c x (vs j)) :
  off=0→Post c S (.tok (some k) (fun j=>.slice (l ++ lx) (n+nx) (.tok j))) (.slice (some ⟨b,off,none⟩) (n+nx) cap) (w.setCells b (off+n * z) us) ∧
  (∀ j,j<us.length→(w.cell? ⟨b,off+n * z+j,none⟩).isSome=true)∧(∀ j,j<us.length→w.frozen? ⟨b,off+n * z+j,none⟩=false):=by
 intro hoff
 obtain ⟨b',lo,hi,ht1,ht2⟩:=h.tok k hk
 rw [hτ] at ht1;cases ht1
 have hcz:(n+nx) * z≤cap * z:=Nat.mul_le_mul_right _ hcap
 have hmul:(n+nx) * z=n * z+nx * z:=Nat.add_mul _ _ _
 have hux:us.length=nx * z:=by rw [← hlx.1,hx]
 have hreg:∀ j,j<us.length→_:=fun j hj=>ht2 (off+n * z+j) (by omega) (by omega)
 have hsome:∀ j,j<us.length→(w.cell? ⟨b,off+n * z+j,none⟩).isSome=true:=fun j hj=>by
  obtain ⟨_,_,_,v,hv⟩:=hreg j hj;rw [hv];rfl
 refine ⟨?_,hsome,fun j hj=>(hreg j hj).2.2.1⟩
 intro j hj
 have hkb:∀ k' x,k'∈killTok S.toks (some k)→c.τ k'=some x→x.1≠b:=by
  intro k' x hk' hx' e
  obtain ⟨x1,x2,x3⟩:=x
  simp only at e;subst e
  have hk2:=List.mem_filter.1 hk'
  have:=h.tinj k' k _ _ _ _ _ hk2.1 hk hx' hτ
  simp [this] at hk2
 have h1:=(h.toks_sub (killTok S.toks (some k)) zEc).chg (Chg.setCells w b (off+n * z) us hsome) (fun b' o hr'=>by
   obtain ⟨rfl,h4,h5⟩:=hr'
   have:=ht2 o h4 (by omega)
   exact ⟨this.1,this.2.1⟩) (fun _ e=>e.elim) (fun i B m hB hm=>⟨fun o ho hr'=>h.tblk k i _ _ _ B hk hB hτ (hr'.1 ▸ hm),fun _ e=>e⟩)
 have hle:=h1.extK_le b (off+n * z) (off+(n+nx) * z)
 have h2:=h1.extK b (off+n * z) (off+(n+nx) * z) (fun o h4 h5=>(ht2 o h4 (by omega)).2.1) (fun i B hB hm=>absurd hm (h.tblk k i _ _ _ B hk hB hτ))
  (fun k' lo' hi' hk' ht=>absurd rfl (hkb k' _ hk' ht))
 obtain ⟨hle2,h3⟩:=h2.addTok j b (off+(n+nx) * z) (off+cap * z) hj (by rw [zDe];exact (h.tdom _ _ hτ).2) (fun o=>(World.frozen?_setCells b us _ w _).trans (h.tfr k b _ _ hk hτ o)) (fun o h4 h5=>by
   obtain ⟨a1,a2,a3,v,a4⟩:=ht2 o (by omega) h5
   refine ⟨?_,a2,(World.frozen?_setCells b us _ w _).trans a3,v, ?_⟩
   ·simp only [Cx.extK];rw [if_neg (by omega)];exact a1
   ·rw [World.cell?_setCells_out b us _ w ⟨b,o,none⟩ (fun _ _=>.inr (by show off+n * z+us.length≤o;omega))];exact a4)
  (fun k' x hk' hx'=>hkb k' x hk' hx') (fun i B hB hm=>absurd hm (h.tblk k i _ _ _ B hk hB hτ)) (max S.nt (j+1)) (Nat.le_max_left _ _) (by omega) (.inr ⟨k,_,hτ,rfl⟩)
 refine ⟨_,hle.trans hle2,rfl,fun j' hj'=>by simp only [updN,Cx.extK,if_neg hj'],h3, ?_⟩
 refine .slice (l ++ lx) (n+nx) (.tok j) b off cap (fun i=>if i<l.length then vs i else us.getD (i - l.length) Go.undef) hcap (fun i hi => ?_) (fun i x hx' => ?_) (fun e=>by cases e) (fun k e => ?_)
 ·show (if b=b∧off+n * z≤off+i∧off+i<off+(n+nx) * z then (w.setCells b (off+n * z) us).cell? ⟨b,off+i,none⟩ else c.K b (off+i))=_
  by_cases hi':i<l.length
  ·rw [if_neg (by omega),if_pos hi'];exact hK i hi'
  ·simp only [qC] at hi
   rw [if_pos ⟨rfl,by omega,by omega⟩,if_neg hi']
   have hlt:i - l.length<us.length:=by omega
   have:=World.cell?_setCells_in b us (off+n * z) w hsome (i - l.length) hlt
   rw [show off+n * z+(i - l.length)=off+i by omega] at this
   rw [this,zG,zF hlt,qD]
 ·by_cases hi':i<l.length
  ·rw [qJ hi'] at hx'
   simp only [hi',if_true]
   exact (hr i x hx').mono (hle.trans hle2)
  ·rw [zY (by omega)] at hx'
   simp only [hi',if_false]
   obtain ⟨u,hu,hru⟩:=hlx.get hx'
   rw [zG,hu]
   exact hru.mono (hle.trans hle2)
 ·cases e
  exact ⟨by omega,hoff,z,by rw [qC,hlen,hx,hmul],by simp [updN]⟩
theorem zBy {P:Program} {w:World} {t ty el:TypeId} {inf:TypeInfo} (hu:P.underlying t=some (.slice el)) (hi1:P.info? el=some inf) (a base:Option Addr) (xcap n cap:Nat) (hc:n≤cap) :
  (Builtin.append_ #[t,t] ty #[.slice base n cap,.slice a 0 xcap]).run P w=.ok (.slice base n cap) w:=by
 have hfc:(Builtin.firstCells inf.size 0 (.slice a 0 xcap)).run P w=.ok #[] w:=by
  cases a with
  | none=>rfl
  | some b=>simp [Builtin.firstCells,loadCells,loadCellsFrom]
 cases base <;> simp [Builtin.append_,run_underlying hu,sizeOf,typeInfo,hi1,Builtin.lenOf,hc,hfc,storeCells]
set_option maxHeartbeats 1000000 in
theorem append_ok {P:Program} {T:Tab} (hT:T.Ok P) {c:Cx} {S:St} {w:World} (h:StRel c S w) {t ty:TypeId} {s x:AV} {p q:Value} {r:Res} (hs:VRel c s p) (hx:VRel c x q) (e:appendA T S t s x=some r) (hok:r.ok S) :
  ∃ v w',(Builtin.append_ #[t,t] ty #[p,q]).run P w=.ok v w'∧Post c S r v w':=by
 unfold appendA at e
 split at e
 ·rename_i el hd
  have hu:=zAm hT hd
  split at e
  ·rename_i ei hei
   obtain ⟨inf,zv,hi1,hi2,hi3,hi4,hi5,hi6,hi7,hi8⟩:=(hT _ _ hei).info
   split at e
   ·cases e
   rename_i hz0
   split at e
   ·rename_i lx nx hheld
    obtain ⟨a,xcap,us,rfl,hlx,hlr,hcell,hnone⟩:=held_ok h hx hheld
    have hul:us.length=nx * inf.size:=by rw [hi2,← hlx];exact hlr.1.symm
    split at e
    ·
     rename_i hn0
     subst hn0
     split at e
     ·simp only [yT] at e;subst e
      cases hs with
      | slice l n tl b off cap vs hc hk hr he ht=>exact ⟨_,w,zBy hu hi1 _ _ _ _ _ hc,Post.same h (.slice _ _ _ b off cap vs hc hk hr he ht)⟩
      | sliceNil _ ht=>exact ⟨_,w,zBy hu hi1 _ _ _ _ _ (zM _),Post.same h (.sliceNil _ ht)⟩
     ·simp only [yT] at e;subst e
      cases hs
      exact ⟨_,w,zBy hu hi1 _ _ _ _ _ (zM _),Post.same h .nilS⟩
     ·split at e
      ·rename_i hnc
       simp only [yT] at e;subst e
       cases hs with
       | sref _ _ _ _ m cap' hm hc'=>exact ⟨_,w,zBy hu hi1 _ _ _ _ _ (by omega),Post.same h (.sref _ _ _ _ m cap' hm hc')⟩
      ·cases e
     ·cases e
    ·rename_i hn0
     have ha:∃ b,a=some b:=by
      cases a with
      | none=>exact absurd (hnone rfl).1 hn0
      | some b=>exact ⟨b,rfl⟩
     obtain ⟨ab,rfl⟩:=ha
     have hnews:=hcell ab rfl
     have grow:∀ (n cap:Nat) (b:Addr) (l:List AV) (os:List Value) (kill:Option Nat),cap<n+nx→(n+nx) * ei.bytes≤1099511627776→n+nx≤1099511627776→l.length=n * ei.size→LRel c l os →
       (∀ (j:Nat) (u:Value),os[j]? = some u→w.cell? (b.add j)=some u) → ∃ v w',(Builtin.append_ #[t,t] ty #[.slice (some b) n cap,.slice (some ab) nx xcap]).run P w=.ok v w'∧Post c S (.tok kill (fun j=>.slice (l ++ lx) (n+nx) (.tok j))) v w':=by
      intro n cap b l os kill hcap hb1 hb2 hll hlo hcells
      have hos:os.length=n * inf.size:=by rw [hi2,← hll];exact hlo.1.symm
      have hfit:Builtin.nextslicecap (n+nx) cap * inf.bytes≤281474976710656:=growslice_fits hcap (by rw [hi3];omega)
      have hr:=run_append_grow (P:=P) w t ty el inf zv hu hi1 hi4 b n cap os hos hcells ab nx xcap us hul hnews hcap (by omega) hfit
      refine ⟨_,_,hr, ?_⟩
      have hge:n+nx≤grownCap w (n+nx) cap el:=Nat.le_add_right _ _
      have hp:=Post.grow (h.drew) kill (hlo.append hlr) (Builtin.zeroCells zv.cells (grownCap w (n+nx) cap el - (n+nx))) el (n:=n+nx) (cap:=grownCap w (n+nx) cap el) (z:=ei.size) (by omega) (by rw [qC,hll,hlx,Nat.add_mul]) hge
       (by simp only [Builtin.zeroCells,Array.size_map,Array.size_range,qC,hos,hul,hi2,hi5,← Nat.add_mul];congr 1;omega)
      have he:(os ++ us).toArray=os.toArray ++ us.toArray:=by simp
      rw [he] at hp
      exact hp
     split at e
     ·cases e
     rename_i hone
     have h1c:∀ u∈us,u.oneCell'=true:=by
      intro u hu'
      obtain ⟨j,hj,rfl⟩:=List.mem_iff_getElem.1 hu'
      have hj':j<lx.length:=by rw [hlr.1];exact hj
      have hr:=hlr.2 j lx[j] _ (zF hj') (zF hj)
      rw [hr.oneCell]
      have hone':lx.all AV.one=true:=by simpa using hone
      exact List.all_eq_true.1 hone' _ (qB hj')
     split at e
     ·split at e
      ·rename_i hb
       simp only [yT] at e;subst e
       cases hs
       have hr:=run_append_nil (P:=P) w t ty el inf zv hu hi1 hi4 ab nx xcap us hul hnews (by omega) (by omega) (by rw [hi3];omega)
       refine ⟨_,_,hr, ?_⟩
       have hge:nx≤grownCap w nx 0 el:=Nat.le_add_right _ _
       exact Post.grow (h.drew) none hlr _ el (n:=nx) (cap:=grownCap w nx 0 el) (z:=ei.size) (by omega) hlx hge
        (by simp only [Builtin.zeroCells,Array.size_map,Array.size_range,hul,hi2,hi5,← Nat.add_mul];congr 1;omega)
      ·cases e
     ·rename_i l n tl
      split at e
      ·rename_i hb
       obtain ⟨hb1,hb2,hll⟩:=hb
       cases hs with
       | slice _ _ _ b off cap vs hc hk hr he ht =>
        have hlo:LRel c l ((List.range l.length).map vs):=by
         refine ⟨by simp,fun j x u h1 h2 => ?_⟩
         have hj:j<l.length:=by
          rcases zU j l.length with h' | h'
          ·exact h'
          ·rw [zN h'] at h1;cases h1
         simp only [qK,qR hj,zX,yT] at h2
         subst h2
         exact hr j x h1
        have hcl:∀ (j:Nat) (u:Value),((List.range l.length).map vs)[j]? = some u→w.cell? (Addr.add ⟨b,off,none⟩ j)=some u:=by
         intro j u hu'
         have hj:j<l.length:=by
          rcases zU j l.length with h' | h'
          ·exact h'
          ·rw [zN (by simpa using h')] at hu';cases hu'
         simp only [qK,qR hj,zX,yT] at hu'
         subst hu'
         rw [Addr.add_lit]
         exact h.K _ _ _ (hk j hj)
        split at e
        ·simp only [yT] at e;subst e
         have:=he rfl
         exact grow n cap ⟨b,off,none⟩ l _ none (by omega) hb1 hb2 hll hlo hcl
        ·rename_i k
         ·simp only [yT] at e;subst e
          have hkm:k∈S.toks:=hok
          by_cases hroom:n+nx≤cap
          ·obtain ⟨h0,hoff,z,hz1,hz2⟩:=ht k rfl
           have hzz:z=ei.size:=by
            have:n * z=n * ei.size:=by rw [← hz1,hll]
            exact Nat.eq_of_mul_eq_mul_left h0 this
           subst hzz
           obtain ⟨hp,hs1,hs2⟩:=Post.room h hkm h0 hll hlr hlx hroom hz2 hk hr hoff
           have hrr:=run_append_room_cells (P:=P) w t ty el inf hu hi1 b off n cap ab nx xcap us hul hnews h1c hroom (by rw [hi2];exact hs1) (by rw [hi2];exact hs2)
           rw [hi2] at hrr
           exact ⟨_,_,hrr,hp⟩
          ·exact grow n cap ⟨b,off,none⟩ l _ (some k) (by omega) hb1 hb2 hll hlo hcl
        ·cases e
       | sliceNil _ htl =>
        rw [Nat.zero_add] at hb1
        split at e
        ·simp only [yT] at e;subst e
         have hr:=run_append_nil (P:=P) w t ty el inf zv hu hi1 hi4 ab nx xcap us hul hnews (by omega) (by omega) (by rw [hi3];omega)
         refine ⟨_,_,hr, ?_⟩
         have hge:nx≤grownCap w nx 0 el:=Nat.le_add_right _ _
         have:=Post.grow (h.drew) none hlr (Builtin.zeroCells zv.cells (grownCap w nx 0 el - nx)) el (n:=nx) (cap:=grownCap w nx 0 el) (z:=ei.size) (by omega) hlx hge
          (by simp only [Builtin.zeroCells,Array.size_map,Array.size_range,hul,hi2,hi5,← Nat.add_mul];congr 1;omega)
         simpa using this
        ·rename_i k;exact absurd rfl (htl k)
        ·cases e
      ·cases e
     ·cases e
   ·cases e
  ·cases e
 ·cases e
def appNewA (T:Tab) (S:St) (t:TypeId) (x:AV):Option Res:=
 match descOf T t with
 | some (.slice e)=>match T e with
  | some ei=>if ei.size=0 then none else match heldA S ei.size x with
   | some (lx,nx)=>if nx≠0∧nx * ei.bytes≤1099511627776∧nx≤1099511627776 then some (.alloc (.cells lx) (.sref · 0 nx nx)) else none
   | none=>none
  | none=>none
 | _=>none
theorem appNew_ok {P:Program} {T:Tab} (hT:T.Ok P) {c:Cx} {S:St} {w:World} (h:StRel c S w) {t ty:TypeId} {x:AV} {p q:Value} {r:Res} (hs:VRel c .nilS p) (hx:VRel c x q) (e:appNewA T S t x=some r) :
  ∃ v w',(Builtin.append_ #[t,t] ty #[p,q]).run P w=.ok v w'∧Post c S r v w':=by
 unfold appNewA at e
 split at e
 ·rename_i el hd
  have hu:=zAm hT hd
  split at e
  ·rename_i ei hei
   obtain ⟨inf,zv,hi1,hi2,hi3,hi4,hi5,hi6,hi7,hi8⟩:=(hT _ _ hei).info
   split at e
   ·cases e
   rename_i hz0
   split at e
   ·rename_i lx nx hheld
    obtain ⟨a,xcap,us,rfl,hlx,hlr,hcell,hnone⟩:=held_ok h hx hheld
    have hul:us.length=nx * inf.size:=by rw [hi2,← hlx];exact hlr.1.symm
    split at e
    ·rename_i hb
     simp only [yT] at e;subst e
     have ha:∃ b,a=some b:=by
      cases a with
      | none=>exact absurd (hnone rfl).1 hb.1
      | some b=>exact ⟨b,rfl⟩
     obtain ⟨ab,rfl⟩:=ha
     have hnews:=hcell ab rfl
     cases hs
     have hr:=run_append_nil (P:=P) w t ty el inf zv hu hi1 hi4 ab nx xcap us hul hnews (by omega) (by omega) (by rw [hi3];omega)
     refine ⟨_,_,hr, ?_⟩
     have hge:nx≤grownCap w nx 0 el:=Nat.le_add_right _ _
     refine Post.newBlk (h.drew) _ (fun c' hc hK hX o y hy => ?_) (fun c' i hc hm=>.sref i 0 nx nx _ _ hm hge)
     obtain ⟨u,hu',hr'⟩:=hlr.get hy
     refine ⟨hK o,by rw [hX];exact X_new h.drew o,by show World.frozen? (w.drew.alloc _) ⟨w.drew.heap.size,o,none⟩=false;generalize w.drew=w1;simp,u, ?_,hr'.mono hc⟩
     show (w.drew.alloc _).cell? ⟨w.drew.heap.size,o,none⟩=some u
     rw [World.cell?_alloc_new]
     have hlt:o<us.length:=(List.getElem?_eq_some_iff.1 hu').1
     rw [yR (by simpa using hlt)]
     simpa using hu'
    ·cases e
   ·cases e
  ·cases e
 ·cases e
end Go.Av
end
section
namespace Go.Av
open Go Go.Lib
theorem Post.cellsIn {c:Cx} {S:St} {w:World} (h:StRel c S w) {b n o:Nat} {l vs:List AV} {us:List Value} (hb:S.heap[b]? = some (some (.cells l))) (hn:c.μ b=some n) (hr:LRel c vs us) (hlen:o+vs.length≤l.length) :
    (∀ j,j<us.length→(w.cell? ⟨n,o+j,none⟩).isSome=true)∧(∀ j,j<us.length→w.frozen? ⟨n,o+j,none⟩=false)∧StRel c (S.put b (.cells (splice l o vs))) (w.setCells n o us):=by
  obtain ⟨f,h1,h2,h3⟩:=zEg h hb hn
  have hul:us.length=vs.length:=hr.1.symm
  have hsome:∀ j,j<us.length→(w.cell? ⟨n,o+j,none⟩).isSome=true:=by
    intro j hj
    rw [h1 (o+j) (by omega)];rfl
  refine ⟨hsome,fun j hj=>(h3 (o+j) (by omega)).2.2, ?_⟩
  have hS:=(h.clear b).chg (Chg.setCells w n o us hsome) (fun b' o' hr'=>by
    obtain ⟨rfl,hr1,hr2⟩:=hr'
    have:=h3 o' (by omega)
    exact ⟨this.1,this.2.1⟩) (fun _ e=>e.elim) (fun i' B n' hB hm=>⟨fun o' ho' hr'=>by
      obtain ⟨hne,hB'⟩:=zAt hB
      exact hne (h.inj i' b B _ n hB' hb (hr'.1 ▸ hm) hn),fun _ e=>e⟩)
  have hput:=hS.put b n (.cells (splice l o vs)) (fun B' hB'=>(zAt hB').1 rfl) hn ?_ (fun j B' hB' hm=>(zAt hB').1 (h.inj j b B' _ n (zAt hB').2 hb hm hn))
    (fun k x hk hx=>fun e=>by
      obtain ⟨x1,x2,x3⟩:=x
      simp only at e;subst e
      exact h.tblk k b _ _ _ _ hk hb hx hn)
  · have:(S.clear b).put b (.cells (splice l o vs))=S.put b (.cells (splice l o vs)):=by
      have hlt:b<S.heap.length:=by
        rcases zU b S.heap.length with h' | h'
        · exact h'
        · rw [zN h'] at hb;cases hb
      simp only [St.clear,St.put,List.length_set]
      rw [show b+1 - S.heap.length=0 by omega]
      simp
    rw [this] at hput
    exact hput
  · intro j u hu
    rw [get_splice _ _ _ hlen] at hu
    by_cases hr':o≤j∧j<o+vs.length
    · rw [if_pos hr'] at hu
      obtain ⟨z,hz,hz2⟩:=hr.get hu
      have hz':j - o<us.length:=by omega
      have hin:=World.cell?_setCells_in n us o w hsome (j - o) hz'
      rw [show o+(j - o)=j by omega] at hin
      rw [zF hz'] at hz
      have hjl:=h3 j (by omega)
      exact ⟨hjl.1,hjl.2.1,(World.frozen?_setCells n _ o w _).trans hjl.2.2,_,hin,by cases hz;exact hz2⟩
    · rw [if_neg hr'] at hu
      have hj:j<l.length:=by
        rcases zU j l.length with h' | h'
        · exact h'
        · rw [zN h'] at hu;cases hu
      have hjl:=h3 j hj
      refine ⟨hjl.1,hjl.2.1,(World.frozen?_setCells n _ o w _).trans hjl.2.2,f j, ?_,h2 j u hu⟩
      rw [World.cell?_setCells_out n _ o w ⟨n,j,none⟩ (fun _ _=>by
        show j<o∨o+us.length≤j
        omega)]
      exact h1 j hj
def copyA (T:Tab) (S:St) (t:TypeId) (d s:AV):Option Res:=
  match descOf T t,d with
  | some (.slice e),.sref b o n _=>match T e,heldA S 1 s,S.heap[b]? with
    | some ei,some (lx,nx),some (some (.cells l)) =>
      if ei.size=1∧0<min nx n∧o+min nx n≤l.length∧(lx.take (min nx n)).all AV.one then some (.write b (.cells (splice l o (lx.take (min nx n)))) (.int .i64 (min nx n:Nat))) else none
    | _,_,_=>none
  | _,_=>none
theorem copy_ok {P:Program} {T:Tab} (hT:T.Ok P) {c:Cx} {S:St} {w:World} (h:StRel c S w) {t t' ty:TypeId} {d s:AV} {p q:Value} {r:Res} (hd:VRel c d p) (hs:VRel c s q) (e:copyA T S t d s=some r) :
    ∃ v w',(Builtin.copy_ #[t,t'] ty #[p,q]).run P w=.ok v w'∧Post c S r v w':=by
  unfold copyA at e
  split at e
  · rename_i el b o n cap hdd
    have hu:=zAm hT hdd
    split at e
    · rename_i ei lx nx l hei hheld hb
      split at e
      · rename_i hc
        obtain ⟨hz,hpos,hlen,hone⟩:=hc
        simp only [yT] at e;subst e
        obtain ⟨a,xcap,us,rfl,hlx,hlr,hcell,hnone⟩:=held_ok h hs hheld
        cases hd with
        | sref _ _ _ _ m cap' hm hc' =>
          have ha:∃ b,a=some b:=by
            cases a with
            | none=>have:=(hnone rfl).1;omega
            | some b=>exact ⟨b,rfl⟩
          obtain ⟨ab,rfl⟩:=ha
          obtain ⟨inf,zv,hi1,hi2,hi3,hi4,hi5,hi6,hi7,hi8⟩:=(hT _ _ hei).info
          have hlr':=hlr.take (min nx n)
          have hul:us.length=nx:=by have:=hlr.1;omega
          have htl:(lx.take (min nx n)).length=min nx n:=by rw [List.length_take,hlr.1,hul];omega
          obtain ⟨hs1,hs2,hst⟩:=Post.cellsIn h hb hm hlr' (by rw [htl];exact hlen)
          have h1c:∀ u∈us.take (min nx n),u.oneCell'=true:=by
            intro u hu'
            obtain ⟨j,hj,rfl⟩:=List.mem_iff_getElem.1 hu'
            have hj':j<(lx.take (min nx n)).length:=by rw [hlr'.1];exact hj
            have hr:=hlr'.2 j _ _ (zF hj') (zF hj)
            rw [hr.oneCell]
            exact List.all_eq_true.1 hone _ (qB hj')
          have hutl:(us.take (min nx n)).length=min nx n:=by rw [← hlr'.1,htl]
          have hrun:=run_copy_cells (P:=P) w t t' ty el m o n cap' ab nx xcap (us.take (min nx n)) hu (by rw [hi1];simp [hi2,hz]) hutl
            (fun j v hj=>hcell ab rfl j v (by
              rw [List.getElem?_take] at hj
              split at hj
              · exact hj
              · cases hj)) hs1 hs2 h1c
          rw [hutl] at hrun
          exact ⟨_,_,hrun,c,Cx.le.refl c,rfl,rfl,hst,.int _ _⟩
      · cases e
    · cases e
  · cases e
def minsA:AV→List AV→Option AV
  | v,[]=>some v
  | .int k a,.int _ b :: l=>minsA (.int k (if b<a then b else a)) l
  | _,_=>none
def maxsA:AV→List AV→Option AV
  | v,[]=>some v
  | .int k a,.int _ b :: l=>maxsA (.int k (if b > a then b else a)) l
  | _,_=>none
theorem mins_ok {P:Program} {c:Cx} {w:World}:∀ (l:List AV) (x v:AV) (p:Value) (us:List Value),VRel c x p→LRel c l us→minsA x l=some v → ∃ u,(us.foldlM Builtin.min2 p:Sem Value).run P w=.ok u w∧VRel c v u
  | [],x,v,p,us,hx,hl,e=>by
    have:us=[]:=by have:=hl.1;cases us <;> simp_all
    subst this
    have:v=x:=by cases x <;> simp_all [minsA]
    subst this
    exact ⟨p,rfl,hx⟩
  | y :: l,x,v,p,us,hx,hl,e=>by
    obtain ⟨q,us',rfl,hq,hl'⟩:=hl.tail
    unfold minsA at e
    split at e
    · simp_all
    · rename_i k a k' b l' heq
      cases heq
      cases hx;cases hq
      obtain ⟨u,h1,h2⟩:=mins_ok l _ v _ us' (.int k _) hl' e
      refine ⟨u, ?_,h2⟩
      simp only [List.foldlM_cons,Builtin.min2,yV,yW,yU]
      exact h1
    · cases e
theorem max2_int {P:Program} (k k':IntKind) (a b:Int):Builtin.max2 (.int k a) (.int k' b)=pure (.int k (if b > a then b else a)):=rfl
theorem maxs_ok {P:Program} {c:Cx} {w:World}:∀ (l:List AV) (x v:AV) (p:Value) (us:List Value),VRel c x p→LRel c l us→maxsA x l=some v → ∃ u,(us.foldlM Builtin.max2 p:Sem Value).run P w=.ok u w∧VRel c v u
  | [],x,v,p,us,hx,hl,e=>by
    have:us=[]:=by have:=hl.1;cases us <;> simp_all
    subst this
    have:v=x:=by cases x <;> simp_all [maxsA]
    subst this
    exact ⟨p,rfl,hx⟩
  | y :: l,x,v,p,us,hx,hl,e=>by
    obtain ⟨q,us',rfl,hq,hl'⟩:=hl.tail
    unfold maxsA at e
    split at e
    · simp_all
    · rename_i k a k' b l' heq
      cases heq
      cases hx;cases hq
      obtain ⟨u,h1,h2⟩:=maxs_ok l _ v _ us' (.int k _) hl' e
      refine ⟨u, ?_,h2⟩
      simp only [List.foldlM_cons,max2_int (P:=P),yV,yW,yU]
      exact h1
    · cases e
def bytesOf (l:List AV):Option (List Int):=
  match l with
  | []=>some []
  | .int .u8 n :: l=>(bytesOf l).map (n :: ·)
  | _=>none
def zCc (T:Tab) (S:St) (src dst:TypeId) (x:AV):Option Res:=
  match descOf T src,descOf T dst,x with
  | some .string,some (.slice e),.str s=>match descOf T e with
    | some (.int .u8)=>some (.alloc (.cells (s.data.toList.map fun b=>.int .u8 b.toNat)) (.sref · 0 s.size s.size))
    | _=>none
  | some (.slice e),some .string,x=>match descOf T e with
    | some (.int .u8)=>match heldA S 1 x with
      | some (l,n)=>(bytesOf l).map fun ns=>.pure (.str (strOfNums ns))
      | none=>none
    | _=>none
  | _,_,_=>none
theorem bytesOf_ok {c:Cx}:∀ (l:List AV) (us:List Value) (ns:List Int),LRel c l us→bytesOf l=some ns→us=ns.map (Value.int .u8)
  | [],us,ns,h,e=>by
    simp only [bytesOf,yT] at e;subst e
    have:=h.1;cases us <;> simp_all
  | x :: l,us,ns,h,e=>by
    obtain ⟨u,us',rfl,hu,hus⟩:=h.tail
    unfold bytesOf at e
    split at e
    · simp_all
    · rename_i n l' heq
      cases heq
      simp only [zK] at e
      obtain ⟨ns',h1,rfl⟩:=e
      cases hu
      rw [bytesOf_ok _ us' ns' hus h1];rfl
    · cases e
theorem convMem_ok {P:Program} {T:Tab} (hT:T.Ok P) {c:Cx} {S:St} {w:World} (h:StRel c S w) {s d:TypeId} {x:AV} {p:Value} {r:Res} (hx:VRel c x p) (e:zCc T S s d x=some r) :
    ∃ v w',(convert s d p).run P w=.ok v w'∧Post c S r v w':=by
  unfold zCc at e
  split at e
  · rename_i el b h1 h2
    have hs:=zAm hT h1
    have hd:=zAm hT h2
    split at e
    · rename_i h3
      have he:=zAm hT h3
      simp only [yT] at e;subst e
      cases hx
      refine ⟨_,_,run_convert_string_bytes w s d el b hs hd he, ?_⟩
      intro i hi hl
      have hcg:Chg w (bytesWorld w el b) (fun _ _=>False) (fun _=>False):=
        ⟨fun b' o v hv _=>(bytesWorld_old w el b ⟨b',o,none⟩ (zAk hv)).trans hv,fun b' o v hv=>⟨v,(bytesWorld_old w el b ⟨b',o,none⟩ (zAk hv)).trans hv⟩,
         fun b' o hb=>by simp only [World.frozen?,bytesWorld_at_old w el b b' hb],fun b' ob hob hc _=>by
          have hb:b'<w.heap.size:=by
            rcases zU b' w.heap.size with h' | h'
            · exact h'
            · rw [qP h'] at hob;cases hob
          rw [bytesWorld_at_old w el b b' hb];exact hob,by rw [bytesWorld_size];omega,fun b' x hx=>by
          have hb:b'<w.heap.size:=by
            rcases zU b' w.heap.size with h' | h'
            · exact h'
            · unfold World.shape? at hx;rw [qP h'] at hx;cases hx
          unfold World.shape? at hx ⊢
          rw [bytesWorld_at_old w el b b' hb];exact hx,
          ⟨rfl,rfl,fun b' cs t fr e=>⟨cs,by rw [bytesWorld_at_old w el b b' (Array.getElem?_eq_some_iff.1 e).1];exact e,rfl⟩⟩⟩
      have h4:=h.chg hcg (fun _ _ e=>e.elim) (fun _ e=>e.elim) (fun _ _ _ _ _=>⟨fun _ _ e=>e,fun _ e=>e⟩)
      have h5:=h4.room (i+1 - S.heap.length)
      obtain ⟨hle,h6⟩:=h5.name i w.heap.size hi (by simp;omega) (fun B hB=>hl B (zBp hB)) (by rw [bytesWorld_size];omega) h.sz
      have hK:∀ o,c.K w.heap.size o=none:=by
        intro o
        cases hk:c.K w.heap.size o with
        | none=>rfl
        | some u=>exact absurd (zAk (h.K _ _ _ hk)) (by omega)
      refine ⟨_,hle,fun j hj=>by simp [updN,hj],rfl, ?_,.sref i 0 _ _ w.heap.size _ (by simp [updN]) (Nat.le_add_right _ _)⟩
      rw [← put_room]
      refine h6.put i w.heap.size _ (fun B' hB=>hl B' (zBp hB)) (by simp [updN]) ?_ (fun j B' hB hm => ?_) (fun k x hk hx hxn => ?_)
      · intro o u hu
        have ho:o<b.size:=by
          rcases zU o b.size with h' | h'
          · exact h'
          · rw [zN (by simpa using h')] at hu;cases hu
        refine ⟨hK o,X_new h o, ?_,_,bytesWorld_cell w el b o ho, ?_⟩
        · simp only [World.frozen?,bytesWorld_at_new]
          have:o<(bytesCells w el b).size:=by simp [bytesCells];have:b.data.size=b.size:=rfl;omega
          simp;omega
        · simp only [qK,zK] at hu
          obtain ⟨x,hx1,rfl⟩:=hu
          rw [zG,hx1]
          exact .int _ _
      · simp only [updN] at hm
        split at hm
        · rename_i e;subst e;exact hl B' (zBp hB)
        · exact absurd (h.dom _ _ hm).2 (by omega)
      · have:=(h.tdom k x hx).2
        omega
    · cases e
  · rename_i el h1 h2
    have hs:=zAm hT h1
    have hd:=zAm hT h2
    split at e
    · rename_i h3
      have he:=zAm hT h3
      split at e
      · rename_i l n hheld
        simp only [zK] at e
        obtain ⟨ns,hns,rfl⟩:=e
        obtain ⟨a,cap,us,rfl,hlen,hlr,hcell,hnone⟩:=held_ok h hx hheld
        have hus:=bytesOf_ok l us ns hlr hns
        have hnl:ns.length=n:=by have:=hlr.1;rw [hus] at this;simp at this;omega
        cases a with
        | none =>
          obtain ⟨rfl,h0⟩:=hnone rfl
          have:ns=[]:=by cases ns <;> simp_all
          subst this
          exact ⟨_,w,run_convert_bytes_nil w s el hs he _ _ d hd,Post.same h (.str _)⟩
        | some ab =>
          obtain ⟨b,off,spot⟩:=ab
          have hsp:spot=none:=by
            cases hx with
            | slice=>rfl
            | sref=>rfl
          subst hsp
          exact ⟨_,w,run_convert_bytes_arg w s el hs he b off n cap ns hnl (fun i hi=>by
              have:=hcell _ rfl i (.int .u8 (ns.getD i 0)) (by rw [hus,qK,zF (by omega)];simp [zG,zF (show i<ns.length by omega)])
              rwa [Addr.add_lit] at this) d hd,Post.same h (.str _)⟩
      · cases e
    · cases e
  · cases e
end Go.Av
end

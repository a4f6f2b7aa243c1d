/- Part 3 of the proof. -/
import Derived.Test.YtclmbbofpaecaaaGreatDoorVu2
import Derived.CallsIn
import Derived.RangeFuncLeaves
import Derived.RangeFuncRecord
import Derived.Laws.World
import Derived.Laws.Sem
import Derived.Laws.Cells
set_option linter.all false
set_option linter.unusedVariables false
set_option linter.unusedSimpArgs false
set_option linter.unusedSectionVars false
open Bool renaming and_eq_true → zR
open Int renaming mul_nonneg → yK
open List renaming getElem?_eq_getElem → zF, getD_eq_getElem?_getD → zI, mem_cons_self → zO, getElem?_eq_none → zP, mem_cons_of_mem → zQ, getElem_mem → qA, getElem?_append_right → qD, length_append → qE, mem_singleton → qL, getElem?_map → qN, getElem?_append_left → qO, map_append → qP, getElem?_range → qT, not_mem_nil → yE, getElem?_set → yG, range_succ → yI, mem_cons → yL
open Nat renaming le_refl → zN, lt_or_ge → zW, zero_le → qI
open Option renaming map_some → zV
section
namespace Go.Lv
open Go.Fw Go.Wk
def firstI {β:Type} (f:Nat→Option β):Nat→Nat→Option β
 | _,0=>none
 | n,r+1=>match f n with
  | some x=>some x
  | none=>firstI f (n+1) r
theorem zDl {β:Type} {f g:Nat→Option β}:∀ {r n:Nat},(∀ i,n≤i→i<n+r→f i=g i)→firstI f n r=firstI g n r
 | 0,n,_=>rfl
 | r+1,n,h=>by
  unfold firstI
  rw [h n (zN _) (by omega),zDl fun i h1 h2=>h i (by omega) (by omega)]
theorem firstI_some {β:Type} {f:Nat→Option β}:∀ {r n:Nat} {x:β},firstI f n r=some x → ∃ i,n≤i∧i<n+r∧f i=some x ∧ ∀ j,n≤j→j<i→f j=none
 | 0,n,x,e=>by cases e
 | r+1,n,x,e=>by
  unfold firstI at e
  cases hf:f n with
  | some y=>rw [hf] at e;cases e;exact ⟨n,zN _,by omega,hf,fun j h1 h2=>by omega⟩
  | none =>
   rw [hf] at e
   obtain ⟨i,h1,h2,h3,h4⟩:=firstI_some e
   refine ⟨i,by omega,by omega,h3,fun j h5 h6 => ?_⟩
   by_cases ej:j=n
   ·subst ej;exact hf
   ·exact h4 j (by omega) h6
theorem zDh {β:Type} {f:Nat→Option β}:∀ {r n:Nat},firstI f n r=none → ∀ j,n≤j→j<n+r→f j=none
 | 0,n,e,j,h1,h2=>by omega
 | r+1,n,e,j,h1,h2=>by
  unfold firstI at e
  cases hf:f n with
  | some y=>rw [hf] at e;cases e
  | none =>
   rw [hf] at e
   by_cases ej:j=n
   ·subst ej;exact hf
   ·exact zDh e j (by omega) (by omega)
theorem firstI_all {β:Type} {f:Nat→Option β}:∀ {r n:Nat},(∀ j,n≤j→j<n+r→f j=none)→firstI f n r=none
 | 0,n,_=>rfl
 | r+1,n,h=>by
  unfold firstI
  rw [h n (zN _) (by omega)]
  exact firstI_all fun j h1 h2=>h j (by omega) (by omega)
def ringB (s:Survey) (l:List Stp):Bool:=closedB s l && decide (tot (stepB s) l<0)
def ringA (s:Survey):Nat→List Stp→Option (List Stp)
 | 0,now=>if ringB s now=true then some now else none
 | m+1,now=>firstI (fun i=>ringA s m (now ++ [stpAt i])) 0 (2 * s.sights.length)
theorem ringA_none {s:Survey}:∀ {m:Nat} {now:List Stp},(∀ t,t.length=m→StepsIn s t→ringB s (now ++ t)=false)→ringA s m now=none
 | 0,now,h=>by
  unfold ringA
  have:=h [] rfl (fun x hx=>by cases hx)
  rw [List.append_nil] at this
  rw [this];rfl
 | m+1,now,h=>by
  unfold ringA
  refine firstI_all fun j _ hj=>ringA_none fun t ht hin => ?_
  have:=h (stpAt j :: t) (by simp [ht]) (fun x hx=>by
   rcases List.mem_cons.1 hx with rfl | hx
   ·exact stpAt_in (by omega)
   ·exact hin x hx)
  rw [show now ++ stpAt j :: t=(now ++ [stpAt j]) ++ t by simp] at this
  exact this
theorem stpAt_inj {i j:Nat} (h:stpAt i=stpAt j):i=j:=by
 unfold stpAt at h
 simp only [Stp.mk.injEq,decide_eq_decide] at h
 omega
def Bf:List Stp→List Stp→Prop
 | x :: a,y :: b=>(∃ i j,i<j∧stpAt i=x∧stpAt j=y)∨(x=y∧Bf a b)
 | _,_=>False
theorem ringA_some {s:Survey}:∀ {m:Nat} {now l:List Stp},ringA s m now=some l → ∃ t,l=now ++ t∧t.length=m∧StepsIn s t∧ringB s l=true ∧ ∀ u,u.length=m→StepsIn s u→ringB s (now ++ u)=true → ¬ Bf u t
 | 0,now,l,h=>by
  unfold ringA at h
  split at h
  ·rename_i hr
   cases h
   exact ⟨[],by simp,rfl,fun x hx=>(by cases hx),hr,fun u _ _ _ hb=>by cases u <;> exact hb⟩
  ·cases h
 | m + 1,now,l,h=>by
  unfold ringA at h
  obtain ⟨i,_,h2,h3,h4⟩:=firstI_some h
  obtain ⟨t,t1,t2,t3,t4,t5⟩:=ringA_some h3
  refine ⟨stpAt i :: t,by rw [t1];simp,by simp [t2],fun x hx => ?_,t4,fun u hu hin hr hb => ?_⟩
  ·rcases List.mem_cons.1 hx with rfl | hx
   ·exact stpAt_in (by omega)
   ·exact t3 x hx
  ·cases u with
   | nil=>cases hu
   | cons y u =>
    have hul:u.length=m:=by simpa using hu
    have e:now ++ y :: u=(now ++ [y]) ++ u:=by simp
    rw [e] at hr
    rcases hb with ⟨j,k,hjk,ej,ek⟩ | ⟨ey,hb⟩
    ·have:k=i:=stpAt_inj ek
     subst this
     subst ej
     have hn:=h4 j (qI _) hjk
     have key:∀ {m:Nat} {now:List Stp},ringA s m now=none → ∀ t,t.length=m→StepsIn s t→ringB s (now ++ t)=true→False:=by
      intro m
      induction m with
      | zero =>
       intro now hn t ht _ hr
       have:t=[]:=List.length_eq_zero_iff.1 ht
       subst this
       rw [List.append_nil] at hr
       unfold ringA at hn
       rw [if_pos hr] at hn;cases hn
      | succ m ih =>
       intro now hn t ht hin hr
       cases t with
       | nil=>cases ht
       | cons z t =>
        obtain ⟨q,hq,rfl⟩:=stpAt_all (hin z zO)
        unfold ringA at hn
        have:=zDh hn q (qI _) (by omega)
        rw [show now ++ stpAt q :: t=(now ++ [stpAt q]) ++ t by simp] at hr
        exact ih this t (by simpa using ht) (fun x hx=>hin x (zQ _ hx)) hr
     exact key hn u hul (fun x hx=>hin x (zQ _ hx)) hr
    ·subst ey
     exact t5 u hul (fun x hx=>hin x (zQ _ hx)) hr hb
theorem ring_chain {s:Survey} {l t:List Stp} (h:ringB s (l ++ t)=true):chainB s l=true:=by
 unfold ringB closedB at h
 rw [zR,zR,zR,zCv] at h
 obtain ⟨⟨_,⟨c1,c2⟩,_⟩,_⟩:=h
 rw [zCv]
 refine ⟨?_, ?_⟩
 ·rw [lnk_iff] at c1 ⊢
  intro j hj hl
  have:=c1 j hj (by rw [qE];omega)
  rw [zCm hl,zCm (A:=l) (B:=t) (j:=j - 1) (by omega)] at this
  exact this
 ·rw [qP,List.nodup_append] at c2
  exact c2.1
def ringR (s:Survey):Nat→List Stp→Option (List Stp)
 | 0,now=>if ringB s now=true then some now else none
 | m+1,now=>firstI (fun i=>if chainB s (now ++ [stpAt i])=true then ringR s m (now ++ [stpAt i]) else none) 0 (2 * s.sights.length)
def ringL (s:Survey):Nat→List Stp→Stp→Option (List Stp)
 | 0,w,y=>if enS s y=bgS s ((w ++ [y]).getD 0 stpD)∧tot (stepB s) (w ++ [y])<0 then some (w ++ [y]) else none
 | m+1,w,y=>if enS s y=bgS s ((w ++ [y]).getD 0 stpD)∨enS s y∈w.map (enS s) then none else firstI (fun i=>if bgS s (stpAt i)=enS s y then ringL s m (w ++ [y]) (stpAt i) else none) 0 (2 * s.sights.length)
structure RingI (s:Survey) (w:List Stp) (y:Stp):Prop where
 lnk:Lnk s (w ++ [y])
 once:(w.map (enS s)).Nodup
 start:bgS s ((w ++ [y]).getD 0 stpD) ∉ w.map (enS s)
theorem last_getD (w:List Stp) (y:Stp):(w ++ [y]).getD ((w ++ [y]).length - 1) stpD=y:=by
 rw [zI];simp
theorem nodup_snoc {α:Type} {l:List α} {a:α}:(l ++ [a]).Nodup↔l.Nodup∧a ∉ l:=by
 rw [List.nodup_append]
 simp only [List.nodup_cons,yE,not_false_eq_true,List.nodup_nil,true_and,yL,yE,or_false,forall_eq]
 exact ⟨fun ⟨h1,h2⟩=>⟨h1,fun hm=>h2 a hm rfl⟩,fun ⟨h1,h2⟩=>⟨h1,fun x hx e=>h2 (e ▸ hx)⟩⟩
theorem lnk_snoc {s:Survey} {w:List Stp} {y x:Stp} (h:Lnk s (w ++ [y])) (hx:bgS s x=enS s y):Lnk s ((w ++ [y]) ++ [x]):=by
 rw [lnk_iff] at h ⊢
 intro j hj hl
 by_cases g:j<(w ++ [y]).length
 ·rw [zCm g,zCm (A:=w ++ [y]) (B:=[x]) (j:=j - 1) (by omega)]
  exact h j hj g
 ·have e:j=(w ++ [y]).length:=by rw [qE] at hl;simp at hl g ⊢;omega
  subst e
  rw [zCm (A:=w ++ [y]) (B:=[x]) (j:=(w ++ [y]).length - 1) (by simp),last_getD]
  have:(w ++ [y] ++ [x]).getD (w ++ [y]).length stpD=x:=by
   rw [zI,qD (zN _),Nat.sub_self];rfl
  rw [this];exact hx
theorem ringL_eq (s:Survey):∀ (m:Nat) (w:List Stp) (y:Stp),RingI s w y→2≤w.length+1+m→ringL s m w y=ringA s m (w ++ [y])
 | 0,w,y,hI,hl=>by
  unfold ringL ringA
  have e:ringB s (w ++ [y])=true↔enS s y=bgS s ((w ++ [y]).getD 0 stpD)∧tot (stepB s) (w ++ [y])<0:=by
   unfold ringB closedB
   rw [zR,zR,zR,zCv,decide_eq_true_iff,decide_eq_true_iff,decide_eq_true_iff,last_getD]
   constructor
   ·rintro ⟨⟨_,_,h1⟩,h2⟩;exact ⟨h1.symm,h2⟩
   ·rintro ⟨h1,h2⟩
    refine ⟨⟨by simp;omega,⟨hI.lnk, ?_⟩,h1.symm⟩,h2⟩
    rw [qP]
    show (w.map (enS s) ++ [enS s y]).Nodup
    rw [nodup_snoc,h1]
    exact ⟨hI.once,hI.start⟩
  by_cases hr:ringB s (w ++ [y])=true
  ·rw [if_pos hr,if_pos (e.1 hr)]
  ·rw [if_neg hr,if_neg fun hh=>hr (e.2 hh)]
 | m + 1,w,y,hI,hl=>by
  unfold ringL
  by_cases c:enS s y=bgS s ((w ++ [y]).getD 0 stpD)∨enS s y∈w.map (enS s)
  ·rw [if_pos c]
   symm
   refine ringA_none fun t ht hin => ?_
   cases hr:ringB s (w ++ [y] ++ t) with
   | false=>rfl
   | true =>
    exfalso
    rcases c with c | c
    ·unfold ringB closedB at hr
     rw [zR,zR,zR,zCv,decide_eq_true_iff,decide_eq_true_iff] at hr
     obtain ⟨⟨_,⟨_,c2⟩,c3⟩,_⟩:=hr
     obtain ⟨t',z,rfl⟩:∃ t' z,t=t' ++ [z]:=by
      rcases List.eq_nil_or_concat t with e | ⟨t',z,e⟩
      ·subst e;cases ht
      ·exact ⟨t',z,by rw [e,List.concat_eq_append]⟩
     have e1:w ++ [y] ++ (t' ++ [z])=(w ++ [y] ++ t') ++ [z]:=by simp
     rw [e1,last_getD,← e1,zCm (by simp)] at c3
     rw [qP,List.nodup_append] at c2
     exact c2.2.2 (enS s y) (by simp) (enS s z) (by simp) (by rw [c,c3])
    ·have:=(zCv.1 (ring_chain hr)).2
     rw [qP] at this
     exact (nodup_snoc.1 this).2 c
  ·rw [if_neg c]
   have c1:enS s y≠bgS s ((w ++ [y]).getD 0 stpD):=fun h=>c (.inl h)
   have c2:enS s y ∉ w.map (enS s):=fun h=>c (.inr h)
   unfold ringA
   refine zDl fun i _ hi => ?_
   by_cases g:bgS s (stpAt i)=enS s y
   ·rw [if_pos g]
    refine ringL_eq s m (w ++ [y]) (stpAt i) ⟨lnk_snoc hI.lnk g, ?_, ?_⟩ (by simp;omega)
    ·rw [qP]
     exact nodup_snoc.2 ⟨hI.once,c2⟩
    ·rw [zCm (by simp),qP]
     intro hm
     rcases List.mem_append.1 hm with hm | hm
     ·exact hI.start hm
     ·simp only [List.map_cons,List.map_nil,yL,yE,or_false] at hm
      exact c1 hm.symm
   ·rw [if_neg g]
    symm
    refine ringA_none fun t _ _ => ?_
    cases hr:ringB s (w ++ [y] ++ [stpAt i] ++ t) with
    | false=>rfl
    | true =>
     exfalso
     have hc:=(zCv.1 (ring_chain hr)).1
     rw [lnk_iff] at hc
     have:=hc (w ++ [y]).length (by simp) (by simp)
     rw [zCm (A:=w ++ [y]) (B:=[stpAt i]) (j:=(w ++ [y]).length - 1) (by simp),last_getD] at this
     have e:(w ++ [y] ++ [stpAt i]).getD (w ++ [y]).length stpD=stpAt i:=by
      rw [zI,qD (zN _),Nat.sub_self];rfl
     rw [e] at this
     exact g this
theorem ring_len {s:Survey} {long:Nat} (h:2≤long):firstI (fun i=>ringL s (long - 1) [] (stpAt i)) 0 (2 * s.sights.length)=ringA s long []:=by
 obtain ⟨m,rfl⟩:∃ m,long=m+1:=⟨long - 1,by omega⟩
 unfold ringA
 refine zDl fun i _ _ => ?_
 rw [Nat.add_sub_cancel]
 exact ringL_eq s m [] (stpAt i) ⟨trivial,List.nodup_nil,fun h=>by cases h⟩ (by simp;omega)
def shortR (s:Survey):Option (List Stp):=firstI (fun long=>ringA s long []) 2 (num s - 1)
def withS (s:Survey) (x:Sight):Survey:={ s with sights:=s.sights ++ [x] }
theorem with_sw {s:Survey} (h:Sw s) {x:Sight} (hx:SightOk s.stations x):Sw (withS s x):=
 ⟨h.st,fun y hy=>by
  rcases List.mem_append.1 hy with hy | hy
  ·exact h.sights y hy
  ·rw [qL] at hy;subst hy;exact hx⟩
theorem with_more {s:Survey} (h:Sw s) {x:Sight} (hx:SightOk s.stations x):More (num s) (surveyB s) (surveyB (withS s x)) x.frm.toNat x.to.toNat (x.rise+x.off) (x.off - x.rise):=by
 have h':=with_sw h hx
 refine ⟨h.num8,h.oks,h'.oks,fun c => ?_,by have:=hx.off;omega⟩
 show c∈(s.sights ++ [x]).flatMap sightB↔_
 rw [List.flatMap_append,List.mem_append]
 refine or_congr Iff.rfl ?_
 unfold sightB
 simp
def sum2 (a b:Int):Int:=if a ≥ far∨b ≥ far then far else a+b
def sum3 (a b c:Int):Int:=if a ≥ far∨b ≥ far∨c ≥ far then far else a+b+c
def withL (V:Mat) (x:Sight) (i j:Nat):Int:=
 min (min (ent V i j) (sum3 (ent V i x.frm.toNat) (x.rise+x.off) (ent V x.to.toNat j))) (sum3 (ent V i x.to.toNat) (x.off - x.rise) (ent V x.frm.toNat j))
def allowsB (V:Mat) (x:Sight):Bool:=!(decide (sum2 (ent V x.to.toNat x.frm.toNat) (x.rise+x.off)<0) || decide (sum2 (ent V x.frm.toNat x.to.toNat) (x.off - x.rise)<0))
theorem withL_eq {n:Int} {x:Sight} (hx:SightOk n x) (V:Mat) (i j:Nat):withL V x i j=withM V x.frm.toNat x.to.toNat (x.rise+x.off) (x.off - x.rise) i j:=by
 have h1:=hx.rise;have h2:=hx.off
 have hf:far=1099511627776:=rfl
 have e:∀ a p b:Int,p<far→sum3 a p b=if a<far∧b<far then a+p+b else far:=fun a p b hp=>by
  unfold sum3
  by_cases g:a<far∧b<far
  ·rw [if_pos g,if_neg (by omega)]
  ·rw [if_neg g,if_pos (by omega)]
 unfold withL withM
 rw [e _ _ _ (by omega),e _ _ _ (by omega)]
theorem allows_iff {n:Int} {x:Sight} (hx:SightOk n x) (V:Mat):allowsB V x=true↔Allows V x.frm.toNat x.to.toNat (x.rise+x.off) (x.off - x.rise):=by
 have h1:=hx.rise;have h2:=hx.off
 have hf:far=1099511627776:=rfl
 have e:∀ a p:Int,p<far→(sum2 a p<0↔a<far∧a+p<0):=fun a p hp=>by
  unfold sum2
  by_cases g:a<far
  ·rw [if_neg (by omega)];exact ⟨fun h=>⟨g,h⟩,fun h=>h.2⟩
  ·rw [if_pos (by omega)];exact ⟨fun h=>by omega,fun h=>absurd h.1 g⟩
 unfold allowsB
 rw [Bool.not_eq_true',Bool.or_eq_false_iff,decide_eq_false_iff_not,decide_eq_false_iff_not,e _ _ (by omega),e _ _ (by omega)]
 constructor
 ·rintro ⟨a1,a2⟩
  exact ⟨fun hlt=>Int.not_lt.1 fun hh=>a1 ⟨hlt,hh⟩,fun hlt=>Int.not_lt.1 fun hh=>a2 ⟨hlt,hh⟩⟩
 ·rintro ⟨a1,a2⟩
  exact ⟨fun ⟨hlt,hh⟩=>by have:=a1 hlt;omega,fun ⟨hlt,hh⟩=>by have:=a2 hlt;omega⟩
theorem with_known {s:Survey} (h:Sw s) {x:Sight} (hx:SightOk s.stations x) {V:Mat} (hV:knownV s=some V):(knownV (withS s x)).isSome=allowsB V x:=by
 rw [Bool.eq_iff_iff,allows_iff hx]
 exact more_allows (with_more h hx) (zCu h hV)
theorem with_ent {s:Survey} (h:Sw s) {x:Sight} (hx:SightOk s.stations x) {V V':Mat} (hV:knownV s=some V) (hV':knownV (withS s x)=some V') {i j:Nat} (hi:i<num s) (hj:j<num s) (hlt:ent V i j<far):ent V' i j=withL V x i j:=by
 rw [withL_eq hx]
 exact more_ent (with_more h hx) (zCu h hV) (zCu (with_sw h hx) hV') hi hj hlt
structure Try where
 frm:Int
 to:Int
 off:Int
 deriving DecidableEq
structure TryOk (n:Int) (x:Try):Prop where
 frm:0≤x.frm∧x.frm<n
 to:0≤x.to∧x.to<n
 ne:x.frm≠x.to
 off:0≤x.off∧x.off≤50
def tried (x:Try) (rise:Int):Sight:=⟨x.frm,x.to,rise,x.off⟩
theorem tried_ok {n:Int} {x:Try} (h:TryOk n x) {r:Int} (hr:-1000≤r∧r≤1000):SightOk n (tried x r):=⟨h.frm,h.to,h.ne,hr,h.off⟩
def riseAt (k:Nat):Int:=(k:Int) - 1000
def worstAt (V:Mat) (x:Try) (i j:Nat):Nat→Int
 | 0 => -1
 | k+1=>if allowsB V (tried x (riseAt k))=true then max (worstAt V x i j k) (withL V (tried x (riseAt k)) i j+withL V (tried x (riseAt k)) j i) else worstAt V x i j k
def widthAt (s:Survey) (x:Try) (i j:Nat):Nat→Int
 | 0 => -1
 | k+1=>match knownV (withS s (tried x (riseAt k))) with
  | some V'=>max (widthAt s x i j k) (ent V' i j - -ent V' j i)
  | none=>widthAt s x i j k
def worstW (V:Mat) (x:Try) (i j:Nat):Int:=if worstAt V x i j 2001<0 then ent V i j+ent V j i else worstAt V x i j 2001
theorem walk_ends {cs cs':List Bd} (h:∀ c∈cs,∃ d∈cs',d.a=c.a∧d.b=c.b):∀ {l:List Bd} {i j:Nat},(∀ x∈l,x∈cs)→Pth id i l j → ∃ m:List Bd,(∀ x∈m,x∈cs')∧Pth id i m j
 | [],i,j,_,hp=>⟨[],fun x hx=>(by cases hx),hp⟩
 | c :: l,i,j,hin,hp=>by
  obtain ⟨e,hp⟩:=hp
  obtain ⟨d,d1,d2,d3⟩:=h c (hin c zO)
  obtain ⟨m,m1,m2⟩:=walk_ends h (fun x hx=>hin x (zQ _ hx)) hp
  refine ⟨d :: m,fun x hx => ?_,⟨d2.trans e, ?_⟩⟩
  ·rcases List.mem_cons.1 hx with rfl | hx
   ·exact d1
   ·exact m1 x hx
  ·show Pth id d.b m j
   rw [d3];exact m2
variable {n:Nat} {cs cs':List Bd} {V V':Mat}
theorem Clos.join (h:Clos n cs V) (h':Clos n cs' V') (hl:∀ c∈cs,∃ d∈cs',d.a=c.a∧d.b=c.b) {i j:Nat} (hi:i<n) (hj:j<n) (hf:ent V i j<far):ent V' i j<far:=by
 obtain ⟨l,p1,p2,p3⟩:=h.real i j hi hj hf
 obtain ⟨m,m1,m2⟩:=walk_ends hl p1 p2
 exact (h'.walk m i j m1 hi m2).2.1
theorem Clos.same (h:Clos n cs V) (h':Clos n cs' V') (hl:∀ c,c∈cs↔c∈cs') {i j:Nat} (hi:i<n) (hj:j<n):(ent V i j<far↔ent V' i j<far)∧(ent V i j<far→ent V i j=ent V' i j):=by
 have a:=fun hf=>h.le h' (fun c hc=>(hl c).1 hc) hi hj hf
 have b:=fun hf=>h'.le h (fun c hc=>(hl c).2 hc) hi hj hf
 refine ⟨⟨fun hf=>(a hf).2,fun hf=>(b hf).2⟩,fun hf => ?_⟩
 have a1:=a hf
 have b1:=b a1.2
 omega
def sightZ:Sight:=⟨0,0,0,0⟩
def keepS (s:Survey) (w:List Int) (k:Nat):List Sight:=((List.range k).filter fun (i:Nat) => !w.contains (i:Int)).map fun i=>s.sights.getD i sightZ
def zAq (s:Survey) (w:List Int):Survey:={ s with sights:=keepS s w s.sights.length }
theorem keep_len (s:Survey) (w:List Int) (k:Nat):(keepS s w k).length≤k:=by
 unfold keepS;rw [List.length_map];exact Nat.le_trans (List.length_filter_le _ _) (by simp)
theorem keep_succ (s:Survey) (w:List Int) (k:Nat):keepS s w (k+1)=if w.contains (k:Int)=true then keepS s w k else keepS s w k ++ [s.sights.getD k sightZ]:=by
 unfold keepS
 rw [yI,List.filter_append,qP]
 cases h:w.contains (k:Int) with
 | true =>
  have e:[k].filter (fun (i:Nat) => !w.contains (i:Int))=[]:=by rw [List.filter_cons_of_neg (by rw [h];decide)];rfl
  rw [e,if_pos rfl];simp
 | false =>
  have e:[k].filter (fun (i:Nat) => !w.contains (i:Int))=[k]:=by rw [List.filter_cons_of_pos (by rw [h];decide)];rfl
  rw [e,if_neg (by decide)];rfl
theorem keep_mem {s:Survey} {w:List Int} {x:Sight}:x∈keepS s w s.sights.length ↔ ∃ (i:Nat),∃ (h:i<s.sights.length),(i:Int) ∉ w∧s.sights[i]=x:=by
 unfold keepS
 simp only [List.mem_map,List.mem_filter,List.mem_range,Bool.not_eq_true',List.contains_eq_mem,decide_eq_false_iff_not]
 constructor
 ·rintro ⟨i,⟨hi,hw⟩,rfl⟩
  refine ⟨i,hi,hw, ?_⟩
  rw [zI,zF hi];rfl
 ·rintro ⟨i,hi,hw,rfl⟩
  refine ⟨i,⟨hi,hw⟩, ?_⟩
  rw [zI,zF hi];rfl
theorem without_sub {s:Survey} {w:List Int}:∀ x∈(zAq s w).sights,x∈s.sights:=fun x hx=>by
 obtain ⟨i,hi,_,rfl⟩:=keep_mem.1 hx
 exact qA hi
theorem without_sw {s:Survey} (h:Sw s) (w:List Int):Sw (zAq s w):=⟨h.st,fun x hx=>h.sights x (without_sub x hx)⟩
theorem without_sv {s:Survey} (h:Sv s) (w:List Int):Sv (zAq s w):=⟨without_sw h.toSw w,Nat.le_trans (keep_len s w _) h.many⟩
theorem keep_nil (s:Survey):keepS s [] s.sights.length=s.sights:=by
 refine List.ext_getElem? fun i => ?_
 unfold keepS
 have e:((List.range s.sights.length).filter fun (i:Nat) => !([]:List Int).contains (i:Int))=List.range s.sights.length:=List.filter_eq_self.2 fun a _=>rfl
 rw [e,qN]
 by_cases hi:i<s.sights.length
 ·rw [qT hi,zV,zI,zF hi];rfl
 ·rw [zP (by simpa using hi),zP (by omega)];rfl
theorem without_nil (s:Survey):zAq s []=s:=by
 cases s;unfold zAq;rw [keep_nil]
theorem none_poss {s:Survey} (h:Sw s) (he:s.sights=[]):possS s=true:=(poss_fit h).2 ⟨fun _=>0,fun y hy=>by rw [he] at hy;cases hy⟩
def dropM (p:List Int→Bool) (below:Nat):Nat→List Int→Nat→Option (List Int)
 | 0,now,_=>if p now=true then some now else none
 | m+1,now,fr=>firstI (fun n=>dropM p below m (now ++ [(n:Int)]) (n+1)) fr (below - fr)
def searchM (p:List Int→Bool) (below:Nat):Nat→List Int→Nat→Option (List Int)
 | 0,now,_=>if p now=true then some now else none
 | m+1,now,fr=>firstI (fun n=>searchM p below m (now ++ [(n:Int)]) (n+1)) fr (below+1 - (fr+(m+1)))
theorem firstI_more {β:Type} {f:Nat→Option β} (s:Nat):∀ (r n:Nat),(∀ i,n+r≤i→i<n+r+s→f i=none)→firstI f n (r+s)=firstI f n r
 | 0,n,h=>by
  rw [Nat.zero_add]
  induction s generalizing n with
  | zero=>rfl
  | succ s ih =>
   unfold firstI
   rw [h n (by omega) (by omega)]
   exact ih (n+1) fun i h1 h2=>h i (by omega) (by omega)
 | r+1,n,h=>by
  rw [show r+1+s=(r+s)+1 by omega]
  unfold firstI
  cases f n with
  | some x=>rfl
  | none=>exact firstI_more s r (n+1) fun i h1 h2=>h i (by omega) (by omega)
theorem search_none {p:List Int→Bool} {below m:Nat} {now:List Int} {fr:Nat} (h:below<fr+m) (hm:0<m):searchM p below m now fr=none:=by
 cases m with
 | zero=>omega
 | succ m =>
  unfold searchM
  rw [show below+1 - (fr+(m+1))=0 by omega];rfl
theorem drop_search (p:List Int→Bool) (below:Nat):∀ (m:Nat) (now:List Int) (fr:Nat),dropM p below m now fr=searchM p below m now fr
 | 0,now,fr=>rfl
 | m+1,now,fr=>by
  unfold dropM searchM
  have e:(fun n:Nat=>dropM p below m (now ++ [(n:Int)]) (n+1))=fun n:Nat=>searchM p below m (now ++ [(n:Int)]) (n+1):=by
   funext n;exact drop_search p below m _ _
  rw [e]
  obtain ⟨s,hs⟩:∃ s,below - fr=(below+1 - (fr+(m+1)))+s:=⟨below - fr - (below+1 - (fr+(m+1))),by omega⟩
  rw [hs]
  refine firstI_more s _ _ fun i h1 h2 => ?_
  exact search_none (by omega) (by omega)
def LxI:List Int→List Int→Prop
 | a :: s,b :: t=>a<b∨(a=b∧LxI s t)
 | _,_=>False
def Rsn (below:Nat):Nat→List Int→Prop
 | _,[]=>True
 | fr,a :: s => ∃ n:Nat,a=n∧fr≤n∧n<below∧Rsn below (n+1) s
theorem drop_no (p:List Int→Bool) (below:Nat):∀ (m:Nat) (now:List Int) (fr:Nat),dropM p below m now fr=none → ∀ t,t.length=m→Rsn below fr t→p (now ++ t)=true→False
 | 0,now,fr,e,t,ht,hr,hp=>by
  have:t=[]:=List.length_eq_zero_iff.1 ht
  subst this
  rw [List.append_nil] at hp
  unfold dropM at e
  rw [if_pos hp] at e;cases e
 | m+1,now,fr,e,t,ht,hr,hp=>by
  cases t with
  | nil=>cases ht
  | cons a t =>
   obtain ⟨n,rfl,g1,g2,g3⟩:=hr
   have hnt:now ++ (n:Int) :: t=(now ++ [(n:Int)]) ++ t:=by simp
   rw [hnt] at hp
   unfold dropM at e
   exact drop_no p below m _ _ (zDh e n g1 (by omega)) t (by simpa using ht) g3 hp
theorem rsn_len {below:Nat}:∀ {fr:Nat} {t:List Int},Rsn below fr t→t.length+fr≤below∨t=[]
 | fr,[],_=>.inr rfl
 | fr,a :: t,h=>by
  obtain ⟨n,rfl,g1,g2,g3⟩:=h
  rcases rsn_len g3 with h' | rfl
  ·left;simp;omega
  ·left;simp;omega
theorem rsn_up {below:Nat}:∀ {fr:Nat} {t:List Int},Rsn below fr t↔(∀ x∈t,(fr:Int)≤x∧x<(below:Int))∧t.Pairwise (· < ·)
 | fr,[]=>by simp [Rsn]
 | fr,a :: t=>by
  rw [List.pairwise_cons]
  constructor
  ·rintro ⟨n,rfl,g1,g2,g3⟩
   obtain ⟨h1,h2⟩:=rsn_up.1 g3
   refine ⟨fun x hx => ?_,fun x hx => ?_,h2⟩
   ·rcases List.mem_cons.1 hx with rfl | hx
    ·omega
    ·have:=h1 x hx;omega
   ·have:=h1 x hx;omega
  ·rintro ⟨h1,h2,h3⟩
   have ha:=h1 a zO
   refine ⟨a.toNat,by omega,by omega,by omega,rsn_up.2 ⟨fun x hx => ?_,h3⟩⟩
   have:=h1 x (zQ _ hx)
   have:=h2 x hx
   omega
def shortM (p:List Int→Bool) (below:Nat):Option (List Int):=firstI (fun many=>searchM p below many [] 0) 0 (below+1)
theorem short_none {p:List Int→Bool} {below:Nat} (h:shortM p below=none):∀ t,Rsn below 0 t→p t=true→False:=by
 intro t ht hpt
 unfold shortM at h
 have hl:t.length<0+(below+1):=by
  rcases rsn_len ht with h' | rfl
  ·omega
  ·simp
 have:=zDh h t.length (qI _) hl
 rw [← drop_search] at this
 exact drop_no p below _ _ _ this t rfl ht hpt
theorem rsn_all (below:Nat):Rsn below 0 ((List.range below).map fun (i:Nat)=>(i:Int)):=by
 refine rsn_up.2 ⟨fun x hx => ?_, ?_⟩
 ·obtain ⟨i,hi,rfl⟩:=List.mem_map.1 hx
  have:=List.mem_range.1 hi
  omega
 ·rw [List.pairwise_map]
  exact List.pairwise_lt_range.imp fun h=>by omega
def dropsS (s:Survey):List Int:=(shortM (fun w=>possS (zAq s w)) s.sights.length).getD []
theorem drops_is {s:Survey} (h:Sw s):shortM (fun w=>possS (zAq s w)) s.sights.length=some (dropsS s):=by
 cases hs:shortM (fun w=>possS (zAq s w)) s.sights.length with
 | some x=>unfold dropsS;rw [hs];rfl
 | none =>
  exfalso
  refine short_none hs _ (rsn_all _) (none_poss (without_sw h _) ?_)
  show keepS s _ _=[]
  refine List.eq_nil_iff_forall_not_mem.2 fun x hx => ?_
  obtain ⟨i,hi,hw,_⟩:=keep_mem.1 hx
  exact hw (List.mem_map.2 ⟨i,List.mem_range.2 hi,rfl⟩)
structure DropP (s:Survey) (l:List Int):Prop where
 own:possS (zAq s l)=true
 up:Rsn s.sights.length 0 l
 least:∀ t,Rsn s.sights.length 0 t→possS (zAq s t)=true→l.length≤t.length∧(t.length=l.length → ¬ LxI t l)
theorem DropP.len {s:Survey} {l:List Int} (h:DropP s l):l.length≤s.sights.length:=by
 rcases rsn_len h.up with g | rfl
 ·omega
 ·simp
theorem DropP.nil {s:Survey} {l:List Int} (h:DropP s l):possS s=true↔l=[]:=by
 constructor
 ·intro hp
  have:=(h.least [] trivial (by rw [without_nil];exact hp)).1
  exact List.length_eq_zero_iff.1 (by simpa using this)
 ·rintro rfl
  have:=h.own
  rwa [without_nil] at this
def blamesS (s:Survey):List Int:=((List.range s.sights.length).filter fun (i:Nat)=>possS (zAq s [(i:Int)])).map fun (i:Nat)=>(i:Int)
theorem blame_iff {s:Survey} {x:Int}:x∈blamesS s↔(0≤x∧x<s.sights.length)∧possS (zAq s [x])=true:=by
 unfold blamesS
 simp only [List.mem_map,List.mem_filter,List.mem_range]
 constructor
 ·rintro ⟨i,⟨h1,h2⟩,rfl⟩
  exact ⟨by omega,h2⟩
 ·rintro ⟨h1,h2⟩
  refine ⟨x.toNat,⟨by omega, ?_⟩,by omega⟩
  rw [show ((x.toNat:Nat):Int)=x by omega];exact h2
theorem DropP.one {s:Survey} {l:List Int} (h:DropP s l) (hl:l.length=1):blamesS s≠[]:=by
 match l,hl with
 | [x],_ =>
  have hx:=(rsn_up.1 h.up).1 x zO
  exact List.ne_nil_of_mem (blame_iff.2 ⟨by omega,h.own⟩)
structure Leg where
 frm:Int
 to:Int
 long:Int
 deriving DecidableEq
structure LegOk (n:Int) (x:Leg):Prop where
 frm:0≤x.frm∧x.frm<n
 to:0≤x.to∧x.to<n
 ne:x.frm≠x.to
 long:1≤x.long∧x.long≤100
structure RangeOk (lo hi:Int):Prop where
 l0:0≤lo
 mid:lo≤hi
 top:hi≤20
theorem leg_small {n lo hi:Int} {x:Leg} (hx:LegOk n x) (hr:RangeOk lo hi):(0≤x.long * lo∧x.long * lo≤2000)∧(0≤x.long * hi∧x.long * hi≤2000):=by
 have h1:=hx.long;have h2:=hr.l0;have h3:=hr.mid;have h4:=hr.top
 have a:=yK (a:=x.long) (b:=lo) (by omega) h2
 have b:=yK (a:=x.long) (b:=hi) (by omega) (by omega)
 have c:=Int.mul_le_mul (a:=x.long) (b:=lo) (c:=100) (d:=20) (by omega) (by omega) h2 (by omega)
 have d:=Int.mul_le_mul (a:=x.long) (b:=hi) (c:=100) (d:=20) (by omega) (by omega) (by omega) (by omega)
 omega
def fallW (V:Mat) (x:Leg) (lo hi:Int):Int:=
 if -ent V x.frm.toNat x.to.toNat ≥ x.long * lo∧ent V x.to.toNat x.frm.toNat≤x.long * hi then 3
 else if ent V x.to.toNat x.frm.toNat<x.long * lo ∨ -ent V x.frm.toNat x.to.toNat > x.long * hi then 1 else 2
def legP (lo hi:Int) (x:Leg):List Bd:=[⟨x.to.toNat,x.frm.toNat,x.long * hi⟩,⟨x.frm.toNat,x.to.toNat,-(x.long * lo)⟩]
def legsP (lo hi:Int) (l:List Leg):List Bd:=l.flatMap (legP lo hi)
def carryB (s:Survey) (l:List Leg) (lo hi:Int):Bool:=(clo (num s) (legsP lo hi l ++ surveyB s)).isSome
def carryW (s:Survey) (V:Mat) (l:List Leg) (lo hi:Int):Int:=if (l.all fun x=>decide (fallW V x lo hi=3))=true then 3 else if carryB s l lo hi=true then 2 else 1

def bestAt (f:Nat→Int):Nat→Nat
 | 0=>0
 | k+1=>if f (k+1)<f (bestAt f k) then k+1 else bestAt f k
structure Tun where
 frm:Int
 to:Int
 long:Int
 fall:Int
 err:Int
 deriving DecidableEq
structure TunOk (n:Int) (x:Tun):Prop where
 frm:0≤x.frm∧x.frm<n
 to:0≤x.to∧x.to<n
 ne:x.frm≠x.to
 long:1≤x.long∧x.long≤100
 fall:0≤x.fall∧x.fall≤20
 err:0≤x.err∧x.err≤5
theorem mul_small {a b A B:Int} (ha:0≤a∧a≤A) (hb:0≤b∧b≤B):0≤a * b∧a * b≤A * B:=
 ⟨yK ha.1 hb.1,Int.mul_le_mul ha.2 hb.2 hb.1 (by omega)⟩
theorem TunOk.fall' {n:Int} {x:Tun} (h:TunOk n x):0≤x.long * x.fall∧x.long * x.fall≤2000:=by
 have:=mul_small (A:=100) (B:=20) ⟨by have:=h.long;omega,h.long.2⟩ h.fall;omega
theorem TunOk.err' {n:Int} {x:Tun} (h:TunOk n x):0≤x.long * x.err∧x.long * x.err≤500:=by
 have:=mul_small (A:=100) (B:=5) ⟨by have:=h.long;omega,h.long.2⟩ h.err;omega
def meetL (V:Mat) (x:Tun):Int:=-ent V x.frm.toNat x.to.toNat - x.long * x.fall - x.long * x.err
def meetH (V:Mat) (x:Tun):Int:=ent V x.to.toNat x.frm.toNat - x.long * x.fall+x.long * x.err
def wideI (lo hi:Int):Int:=max (max lo (-lo)) (max hi (-hi))
def withFall (x:Tun) (n:Int):Tun:={ x with fall:=n }
def driveF (V:Mat) (x:Tun) (n:Nat):Int:=wideI (meetL V (withFall x n)) (meetH V (withFall x n))
end Go.Lv
end
section
namespace Go.Av
open Go
inductive Tail where
  | unk | exact | tok (k:Nat)
  deriving DecidableEq
inductive AV where
  | bool (b:Bool)
  | int (k:IntKind) (n:Int)
  | str (s:ByteArray)
  | nilp
  | ref (i o:Nat)
  | eptr (l:List AV) (o:Nat)
  | slice (l:List AV) (n:Nat) (t:Tail)
  | nilS
  | sref (i o len cap:Nat)
  | func (fn:Fn) (first captured:List AV)
  | nilFunc
  | iface (t:TypeId) (v:AV)
  | nilIface
  | agg (l:List AV)
  | tuple (l:List AV)
  | map (i:Nat)
  | nilMap
def AV.undef:AV:=.tuple []
def AV.cells:AV→List AV
  | .agg l=>l
  | v=>[v]
def AV.one:AV→Bool
  | .agg _ | .tuple _=>false
  | _=>true
inductive Blk where
  | cells (l:List AV)
  | map (es:List (AV × AV))
  | siter (s:ByteArray) (pos:Nat)
  | loop (r:Loop)
structure St where
  heap:List (Option Blk)
  nt:Nat
  toks:List Nat
def St.empty:St:=⟨[],0,[]⟩
structure Frm (w w':World):Prop where
  os:w'.os=w.os
  out:w'.output=w.output
  blk:∀ (i:Nat) (cs:Array Value) (t:TypeId) (fr:Nat × Nat),w.heap[i]? = some (.cells cs t fr) → ∃ cs':Array Value,w'.heap[i]? = some (.cells cs' t fr)∧cs'.size=cs.size
theorem Frm.refl (w:World):Frm w w:=⟨rfl,rfl,fun i cs t fr h=>⟨cs,h,rfl⟩⟩
theorem Frm.trans {a b c:World} (h:Frm a b) (k:Frm b c):Frm a c:=
  ⟨k.os.trans h.os,k.out.trans h.out,fun i cs t fr e =>
    let ⟨c1,e1,s1⟩:=h.blk i cs t fr e
    let ⟨c2,e2,s2⟩:=k.blk i c1 t fr e1
    ⟨c2,e2,s2.trans s1⟩⟩
structure Fz where
  z:Nat→Nat→Bool
  w0:World
instance:CoeFun Fz (fun _=>Nat→Nat→Bool):=⟨Fz.z⟩
structure Cx where
  K:Nat→Nat→Option Value
  μ:Nat→Option Nat
  τ:Nat→Option (Nat × Nat × Nat)
  X:Nat→Nat→Option Value
  XO:Nat→Option Obj
  sz:Nat
  FZ:Fz
structure Cx.le (c c':Cx):Prop where
  K:∀ b o v,c.K b o=some v→c'.K b o=some v
  μ:∀ i n,c.μ i=some n→c'.μ i=some n
  τ:∀ i n,c.τ i=some n→c'.τ i=some n
  X:c'.X=c.X
  XO:c'.XO=c.XO
  sz:c'.sz=c.sz
  FZ:c'.FZ=c.FZ
  μn:∀ i n,c'.μ i=some n→c.μ i=some n∨c.sz≤n
  τn:∀ k x,c'.τ k=some x→c.τ k=some x∨c.sz≤x.1 ∨ ∃ k0 y,c.τ k0=some y∧y.1=x.1
theorem Cx.le.refl (c:Cx):c.le c:=⟨fun _ _ _ h=>h,fun _ _ h=>h,fun _ _ h=>h,rfl,rfl,rfl,rfl,fun _ _ h=>.inl h,fun _ _ h=>.inl h⟩
theorem Cx.le.trans {a b c:Cx} (h:a.le b) (h':b.le c):a.le c:=
  ⟨fun _ _ _ x=>h'.K _ _ _ (h.K _ _ _ x),fun _ _ x=>h'.μ _ _ (h.μ _ _ x),fun _ _ x=>h'.τ _ _ (h.τ _ _ x),h'.X.trans h.X,h'.XO.trans h.XO,h'.sz.trans h.sz,h'.FZ.trans h.FZ,
   fun i n x=>by
    rcases h'.μn i n x with y | y
    · exact h.μn i n y
    · exact .inr (h.sz ▸ y),
   fun k x y=>by
    rcases h'.τn k x y with z | z | ⟨k0,u,z,e⟩
    · exact h.τn k x z
    · exact .inr (.inl (h.sz ▸ z))
    · rcases h.τn k0 u z with z' | z' | ⟨k1,u',z',e'⟩
      · exact .inr (.inr ⟨k0,u,z',e⟩)
      · exact .inr (.inl (e ▸ z'))
      · exact .inr (.inr ⟨k1,u',z',e'.trans e⟩)⟩
inductive VRel (c:Cx):AV→Value→Prop where
  | bool (b:Bool):VRel c (.bool b) (.bool b)
  | int (k:IntKind) (n:Int):VRel c (.int k n) (.int k n)
  | str (s:ByteArray):VRel c (.str s) (.string s)
  | nilp:VRel c .nilp (.pointer none)
  | ref (i o n:Nat) (h:c.μ i=some n):VRel c (.ref i o) (.pointer (some ⟨n,o,none⟩))
  | eptr (l:List AV) (o b off:Nat) (vs:Nat→Value) (hk:∀ j,j<l.length→c.K b (off+j)=some (vs j))
      (hr:∀ (j:Nat) (x:AV),l[j]? = some x→VRel c x (vs j)):VRel c (.eptr l o) (.pointer (some ⟨b,off+o,none⟩))
  | slice (l:List AV) (n:Nat) (t:Tail) (b off cap:Nat) (vs:Nat→Value) (hc:n≤cap) (hk:∀ j,j<l.length→c.K b (off+j)=some (vs j))
      (hr:∀ (j:Nat) (x:AV),l[j]? = some x→VRel c x (vs j)) (he:t=.exact→cap=n)
      (ht:∀ k,t=.tok k→0<n∧off=0 ∧ ∃ z,l.length=n * z∧c.τ k=some (b,off+n * z,off+cap * z)):VRel c (.slice l n t) (.slice (some ⟨b,off,none⟩) n cap)
  | sliceNil (t:Tail) (ht:∀ k,t ≠ .tok k):VRel c (.slice [] 0 t) (.slice none 0 0)
  | nilS:VRel c .nilS (.slice none 0 0)
  | sref (i o len cap n cap':Nat) (h:c.μ i=some n) (hc:cap≤cap'):VRel c (.sref i o len cap) (.slice (some ⟨n,o,none⟩) len cap')
  | func (fn:Fn) (f1 c1:List AV) (f2 c2:Array Value) (hl:f1.length=f2.size) (hl':c1.length=c2.size)
      (hf:∀ (j:Nat) (x:AV) (v:Value),f1[j]? = some x→f2[j]? = some v→VRel c x v) (hc:∀ (j:Nat) (x:AV) (v:Value),c1[j]? = some x→c2[j]? = some v→VRel c x v):VRel c (.func fn f1 c1) (.func fn f2 c2)
  | nilFunc:VRel c .nilFunc .nilFunc
  | iface (t:TypeId) (v:AV) (x:Value) (h:VRel c v x):VRel c (.iface t v) (.iface t x)
  | nilIface:VRel c .nilIface .nilIface
  | agg (l:List AV) (vs:Array Value) (hl:l.length=vs.size) (h:∀ (j:Nat) (x:AV) (v:Value),l[j]? = some x→vs[j]? = some v→VRel c x v):VRel c (.agg l) (.agg vs)
  | tuple (l:List AV) (vs:Array Value) (hl:l.length=vs.size) (h:∀ (j:Nat) (x:AV) (v:Value),l[j]? = some x→vs[j]? = some v→VRel c x v):VRel c (.tuple l) (.tuple vs)
  | map (i n:Nat) (h:c.μ i=some n):VRel c (.map i) (.map (some n))
  | nilMap:VRel c .nilMap (.map none)
structure Cx.le3 (c c':Cx):Prop where
  K:∀ b o v,c.K b o=some v→c'.K b o=some v
  μ:∀ i n,c.μ i=some n→c'.μ i=some n
  τ:∀ i n,c.τ i=some n→c'.τ i=some n
theorem VRel.mono3 {c c':Cx} (h:c.le3 c') {v:AV} {x:Value} (r:VRel c v x):VRel c' v x:=by
  induction r with
  | bool b=>exact .bool b
  | int k n=>exact .int k n
  | str s=>exact .str s
  | nilp=>exact .nilp
  | ref i o n hm=>exact .ref i o n (h.μ _ _ hm)
  | eptr l o b off vs hk _ ih=>exact .eptr l o b off vs (fun j hj=>h.K _ _ _ (hk j hj)) ih
  | slice l n t b off cap vs hc hk _ he ht ih =>
    exact .slice l n t b off cap vs hc (fun j hj=>h.K _ _ _ (hk j hj)) ih he (fun k e=>let ⟨h0,hf,z,h1,h2⟩:=ht k e;⟨h0,hf,z,h1,h.τ _ _ h2⟩)
  | sliceNil t ht=>exact .sliceNil t ht
  | nilS=>exact .nilS
  | sref i o len cap n cap' hm hc=>exact .sref i o len cap n cap' (h.μ _ _ hm) hc
  | func fn f1 c1 f2 c2 hl hl' _ _ ih1 ih2=>exact .func fn f1 c1 f2 c2 hl hl' ih1 ih2
  | nilFunc=>exact .nilFunc
  | iface t v x _ ih=>exact .iface t v x ih
  | nilIface=>exact .nilIface
  | agg l vs hl _ ih=>exact .agg l vs hl ih
  | tuple l vs hl _ ih=>exact .tuple l vs hl ih
  | map i n hm=>exact .map i n (h.μ _ _ hm)
  | nilMap=>exact .nilMap
theorem VRel.mono {c c':Cx} (h:c.le c') {v:AV} {x:Value} (r:VRel c v x):VRel c' v x:=r.mono3 ⟨h.K,h.μ,h.τ⟩
def LRel (c:Cx) (l:List AV) (vs:List Value):Prop:=l.length=vs.length ∧ ∀ (j:Nat) (x:AV) (v:Value),l[j]? = some x→vs[j]? = some v→VRel c x v
theorem LRel.mono {c c':Cx} (h:c.le c') {l:List AV} {vs:List Value} (r:LRel c l vs):LRel c' l vs:=
  ⟨r.1,fun j x v h1 h2=>(r.2 j x v h1 h2).mono h⟩
theorem LRel.nil (c:Cx):LRel c [] []:=⟨rfl,by simp⟩
theorem LRel.cons {c:Cx} {x:AV} {v:Value} {l:List AV} {vs:List Value} (h:VRel c x v) (r:LRel c l vs):LRel c (x :: l) (v :: vs):=
  ⟨by simp [r.1],fun j=>by cases j with
    | zero=>intro a b h1 h2;simp at h1 h2;subst h1;subst h2;exact h
    | succ j=>intro a b h1 h2;simp at h1 h2;exact r.2 j a b h1 h2⟩
theorem LRel.tail {c:Cx} {x:AV} {l:List AV} {vs:List Value} (r:LRel c (x :: l) vs):∃ v vs',vs=v :: vs'∧VRel c x v∧LRel c l vs':=by
  cases vs with
  | nil=>simp [LRel] at r
  | cons v vs =>
    refine ⟨v,vs,rfl,r.2 0 x v (by simp) (by simp),by simpa using r.1,fun j a b h1 h2=>r.2 (j+1) a b (by simpa using h1) (by simpa using h2)⟩
theorem LRel.append {c:Cx} {l l':List AV} {vs vs':List Value} (h:LRel c l vs) (h':LRel c l' vs'):LRel c (l ++ l') (vs ++ vs'):=by
  refine ⟨by simp [h.1,h'.1],fun j x v h1 h2 => ?_⟩
  by_cases hj:j<l.length
  · rw [qO hj] at h1
    rw [qO (h.1 ▸ hj)] at h2
    exact h.2 j x v h1 h2
  · rw [qD (by omega)] at h1
    rw [qD (by have:=h.1;omega),← h.1] at h2
    exact h'.2 _ x v h1 h2
theorem LRel.drop {c:Cx} {l:List AV} {vs:List Value} (h:LRel c l vs) (n:Nat):LRel c (l.drop n) (vs.drop n):=
  ⟨by simp [h.1],fun j x v h1 h2=>h.2 (n+j) x v (by simpa using h1) (by simpa using h2)⟩
theorem LRel.take {c:Cx} {l:List AV} {vs:List Value} (h:LRel c l vs) (n:Nat):LRel c (l.take n) (vs.take n):=
  ⟨by simp [h.1],fun j x v h1 h2=>by
    rw [List.getElem?_take] at h1 h2
    split at h1
    · rename_i hj;simp only [hj,if_true] at h2;exact h.2 j x v h1 h2
    · simp at h1⟩
theorem LRel.get {c:Cx} {l:List AV} {vs:List Value} (h:LRel c l vs) {j:Nat} {x:AV} (hx:l[j]? = some x):∃ v,vs[j]? = some v∧VRel c x v:=by
  have hj:j<l.length:=by
    rcases zW j l.length with h' | h'
    · exact h'
    · rw [zP h'] at hx;cases hx
  have hj':j<vs.length:=h.1 ▸ hj
  exact ⟨vs[j],zF hj',h.2 j x _ hx (zF hj')⟩
theorem LRel.get_none {c:Cx} {l:List AV} {vs:List Value} (h:LRel c l vs) {j:Nat} (hx:l[j]? = none):vs[j]? = none:=by
  rw [List.getElem?_eq_none_iff] at hx ⊢
  have:=h.1
  omega
theorem LRel.set {c:Cx} {l:List AV} {vs:List Value} (h:LRel c l vs) {x:AV} {v:Value} (hv:VRel c x v) (j:Nat):LRel c (l.set j x) (vs.set j v):=by
  refine ⟨by simp [h.1],fun i a b h1 h2 => ?_⟩
  rw [yG] at h1 h2
  by_cases hij:j=i
  · simp only [hij,if_true] at h1 h2
    split at h1
    · rename_i hlt
      simp only [h.1 ▸ hlt,if_true] at h2
      simp at h1 h2;subst h1;subst h2;exact hv
    · simp at h1
  · simp only [hij,if_false] at h1 h2
    exact h.2 i a b h1 h2
theorem VRel.of_agg {c:Cx} {l:List AV} {x:Value} (h:VRel c (.agg l) x):∃ vs:Array Value,x=.agg vs∧LRel c l vs.toList:=by
  cases h with
  | agg _ vs hl hh=>exact ⟨vs,rfl,by simpa using hl,fun j x v h1 h2=>hh j x v h1 (by simpa using h2)⟩
theorem VRel.mk_agg {c:Cx} {l:List AV} {vs:Array Value} (h:LRel c l vs.toList):VRel c (.agg l) (.agg vs):=
  .agg l vs (by simpa using h.1) (fun j x v h1 h2=>h.2 j x v h1 (by simpa using h2))
theorem VRel.of_tuple {c:Cx} {l:List AV} {x:Value} (h:VRel c (.tuple l) x):∃ vs:Array Value,x=.tuple vs∧LRel c l vs.toList:=by
  cases h with
  | tuple _ vs hl hh=>exact ⟨vs,rfl,by simpa using hl,fun j x v h1 h2=>hh j x v h1 (by simpa using h2)⟩
theorem VRel.mk_tuple {c:Cx} {l:List AV} {vs:Array Value} (h:LRel c l vs.toList):VRel c (.tuple l) (.tuple vs):=
  .tuple l vs (by simpa using h.1) (fun j x v h1 h2=>h.2 j x v h1 (by simpa using h2))
theorem VRel.undef (c:Cx):VRel c .undef Go.undef:=by
  show VRel c (.tuple []) (.tuple #[])
  exact VRel.mk_tuple (LRel.nil c)
theorem VRel.cells {c:Cx} {v:AV} {x:Value} (h:VRel c v x):LRel c v.cells x.cells.toList:=by
  cases h with
  | agg l vs hl hh=>exact ⟨by simpa [AV.cells,Value.cells] using hl,fun j x v h1 h2=>hh j x v h1 (by simpa [Value.cells] using h2)⟩
  | bool b=>exact LRel.cons (.bool b) (LRel.nil c)
  | int k n=>exact LRel.cons (.int k n) (LRel.nil c)
  | str s=>exact LRel.cons (.str s) (LRel.nil c)
  | nilp=>exact LRel.cons .nilp (LRel.nil c)
  | ref i o n hm=>exact LRel.cons (.ref i o n hm) (LRel.nil c)
  | eptr l o b off vs hk hr=>exact LRel.cons (.eptr l o b off vs hk hr) (LRel.nil c)
  | slice l n t b off cap vs h1 h2 h3 h4 h5=>exact LRel.cons (.slice l n t b off cap vs h1 h2 h3 h4 h5) (LRel.nil c)
  | sliceNil t ht=>exact LRel.cons (.sliceNil t ht) (LRel.nil c)
  | nilS=>exact LRel.cons .nilS (LRel.nil c)
  | sref i o len cap n cap' hm hc=>exact LRel.cons (.sref i o len cap n cap' hm hc) (LRel.nil c)
  | func fn f1 c1 f2 c2 hl hl' h1 h2=>exact LRel.cons (.func fn f1 c1 f2 c2 hl hl' h1 h2) (LRel.nil c)
  | nilFunc=>exact LRel.cons .nilFunc (LRel.nil c)
  | iface t v x hh=>exact LRel.cons (.iface t v x hh) (LRel.nil c)
  | nilIface=>exact LRel.cons .nilIface (LRel.nil c)
  | tuple l vs hl hh=>exact LRel.cons (.tuple l vs hl hh) (LRel.nil c)
  | map i n hm=>exact LRel.cons (.map i n hm) (LRel.nil c)
  | nilMap=>exact LRel.cons .nilMap (LRel.nil c)
theorem VRel.oneCell {c:Cx} {v:AV} {x:Value} (h:VRel c v x):x.oneCell'=v.one:=by cases h <;> rfl
def BRel (c:Cx) (n:Nat) (w:World):Blk→Prop
  | .cells l => ∀ (o:Nat) (x:AV),l[o]? = some x→c.K n o=none∧c.X n o=none∧w.frozen? ⟨n,o,none⟩=false ∧ ∃ v,w.cell? ⟨n,o,none⟩=some v∧VRel c x v
  | .map es=>c.XO n=none ∧ ∃ entries clock,w.heap[n]? = some (.map entries clock)∧es.length=entries.size ∧
      ∀ (j:Nat) (kv:AV × AV) (e:MapEntry),es[j]? = some kv→entries[j]? = some e→VRel c kv.1 e.key∧VRel c kv.2 e.val
  | .siter s pos=>c.XO n=none∧w.heap[n]? = some (.stringIter s pos)
  | .loop r=>c.XO n=none∧w.heap[n]? = some (.loop r)
def TRel (c:Cx) (w:World) (b lo hi:Nat):Prop:=
  ∀ o,lo≤o→o<hi→c.K b o=none∧c.X b o=none∧w.frozen? ⟨b,o,none⟩=false ∧ ∃ v,w.cell? ⟨b,o,none⟩=some v
def tabB:Nat:=0
def tabV (i:Nat):Value:=.int .u64 ((10 ^ i:Nat):Int)
structure StRel (c:Cx) (S:St) (w:World):Prop where
  sz:c.sz≤w.heap.size
  tab:∀ i,i<20→c.K tabB i=some (tabV i)
  tsh:∃ t,w.shape? tabB=some (t,20)
  K:∀ b o v,c.K b o=some v→w.cell? ⟨b,o,none⟩=some v
  X:∀ b o v,c.X b o=some v→w.cell? ⟨b,o,none⟩=some v∧w.frozen? ⟨b,o,none⟩=false∧c.K b o=none
  XO:∀ b ob,c.XO b=some ob→w.heap[b]? = some ob ∧ ∀ cs t f,ob ≠ .cells cs t f
  fr:Frm c.FZ.w0 w
  F:∀ b o,c.FZ b o=true→b<w.heap.size∧w.frozen? ⟨b,o,none⟩=false
  dom:∀ i n,c.μ i=some n→i<S.heap.length∧n<w.heap.size
  tdom:∀ k x,c.τ k=some x→k<S.nt∧x.1<w.heap.size
  blk:∀ i B,S.heap[i]? = some (some B) → ∃ n,c.μ i=some n∧BRel c n w B
  inj:∀ i j Bi Bj n,S.heap[i]? = some (some Bi)→S.heap[j]? = some (some Bj)→c.μ i=some n→c.μ j=some n→i=j
  tok:∀ k,k∈S.toks → ∃ b lo hi,c.τ k=some (b,lo,hi)∧TRel c w b lo hi
  tinj:∀ k k' b lo hi lo' hi',k∈S.toks→k'∈S.toks→c.τ k=some (b,lo,hi)→c.τ k'=some (b,lo',hi')→k=k'
  tblk:∀ k i b lo hi B,k∈S.toks→S.heap[i]? = some (some B)→c.τ k=some (b,lo,hi)→c.μ i≠some b
  tfr:∀ k b lo hi,k∈S.toks→c.τ k=some (b,lo,hi) → ∀ o,w.frozen? ⟨b,o,none⟩=false
theorem zAk {w:World} {b o:Nat} {v:Value} (h:w.cell? ⟨b,o,none⟩=some v):b<w.heap.size:=World.block_lt_of_cell? w ⟨b,o,none⟩ h
end Go.Av
end

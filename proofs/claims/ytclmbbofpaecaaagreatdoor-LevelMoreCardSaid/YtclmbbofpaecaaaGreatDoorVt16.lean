/- Part 16 of the proof. -/
import Derived.Test.YtclmbbofpaecaaaGreatDoorVt15
import Derived.Test.YtclmbbofpaecaaaGreatDoorVt14
set_option linter.all false
set_option linter.unusedVariables false
set_option linter.unusedSimpArgs false
set_option linter.unusedSectionVars false
open Bool renaming false_eq_true → zT, and_eq_true → zU, not_true → zX, not_false → qF
open Int renaming toNat_natCast → qL, mul_le_mul_of_nonneg_right → qP, mul_assoc → qV, le_trans → yQ
open List renaming getElem?_eq_getElem → zF, getD_eq_getElem?_getD → zI, mem_cons_self → zP, mem_cons_of_mem → zR, length_cons → zS, getElem_mem → zW, getElem?_append_right → zZ, length_append → qD, getElem?_append_left → qJ, map_append → qT, flatMap_cons → qX, not_mem_nil → qY, mem_cons → yD, mem_singleton → yP, mem_of_getElem? → yV
open Nat renaming reduceLeDiff → zA, reduceEqDiff → zB, reduceAdd → zC, reduceBEq → zD, le_of_ble_eq_true → zE, le_refl → zN, zero_le → qH, not_lt_zero → qZ
open Option renaming map_some → zY
section
namespace Go.Lv
open Go.Fw Go.Wk
def riseS (s:Survey) (x:Stp):Int:=if x.back=true then -(sightAt s x.sight).rise else (sightAt s x.sight).rise
theorem rise_step (s:Survey) (x:Stp):-(stepR s x).m=riseS s x:=by
 unfold stepR stepG riseS
 cases x.back
 ·show - -(sightAt s x.sight).rise=_;simp
 ·rfl
def stpAt (i:Nat):Stp:=⟨(i / 2:Nat),decide (i % 2=1)⟩
theorem stpAt_all {s:Survey} {x:Stp} (h:0≤x.sight∧x.sight<s.sights.length):∃ i,i<2 * s.sights.length∧stpAt i=x:=by
 obtain ⟨n,b⟩:=x
 have h1:0≤n∧n<s.sights.length:=h
 cases b with
 | false =>
  refine ⟨2 * n.toNat,by omega, ?_⟩
  unfold stpAt
  rw [show 2 * n.toNat / 2=n.toNat by omega,show 2 * n.toNat % 2=0 by omega]
  simp;omega
 | true =>
  refine ⟨2 * n.toNat+1,by omega, ?_⟩
  unfold stpAt
  rw [show (2 * n.toNat+1) / 2=n.toNat by omega,show (2 * n.toNat+1) % 2=1 by omega]
  simp;omega
theorem stpAt_in {s:Survey} {i:Nat} (h:i<2 * s.sights.length):0≤(stpAt i).sight∧(stpAt i).sight<s.sights.length:=by
 unfold stpAt
 exact ⟨by show (0:Int)≤((i / 2:Nat):Int);omega,by show ((i / 2:Nat):Int)<_;omega⟩
def goesB (s:Survey) (now:List Stp) (x:Stp):Bool:=chainB s (now ++ [x]) && decide (enS s x ≥ bgS s ((now ++ [x]).getD 0 stpD))
def greater (than:Int × Int) (sum n:Int):Int × Int:=if sum * than.2 > than.1 * n then (sum,n) else than
def worstF (s:Survey):Nat→List Stp→Int→Int × Int→Int × Int
 | 0,now,sum,than=>if closedB s now=true then greater than sum now.length else than
 | f+1,now,sum,than=>if closedB s now=true then greater than sum now.length else
  (List.range (2 * s.sights.length)).foldl (fun out i=>if goesB s now (stpAt i)=true then worstF s f (now ++ [stpAt i]) (sum+riseS s (stpAt i)) out else out) than
structure FrQ (s:Survey) (o:Int × Int):Prop where
 den:0<o.2∧o.2≤num s
 num0:0≤o.1∧o.1≤1000 * o.2
 met:o.1=0 ∨ ∃ l,StepsIn s l∧l≠[]∧(∃ u,Pth (stepR s) u l u)∧riseL s l * o.2=o.1 * l.length
theorem zCl {A B:List Stp} {j:Nat} (h:j<A.length):(A ++ B).getD j stpD=A.getD j stpD:=by
 rw [zI,qJ h,← zI]
def redF (o:Int × Int):Int × Int:=(((o.1.toNat / Nat.gcd o.1.toNat o.2.toNat:Nat):Int),((o.2.toNat / Nat.gcd o.1.toNat o.2.toNat:Nat):Int))
structure RedP (s:Survey) (o:Int × Int):Prop where
 err:ErrP s o.1 o.2
 den:1≤o.2∧o.2≤num s
 num0:0≤o.1∧o.1≤1000 * o.2
theorem red_ok {s:Survey} {o:Int × Int} (he:ErrP s o.1 o.2) (hd:o.2≤num s) (hn:o.1≤1000 * o.2):RedP s (redF o):=by
 obtain ⟨a,b⟩:=o
 have h1:0≤a:=he.num0
 have h2:0<b:=he.den
 obtain ⟨a,rfl⟩:∃ n:Nat,a=n:=⟨a.toNat,by omega⟩
 obtain ⟨b,rfl⟩:∃ n:Nat,b=n:=⟨b.toNat,by omega⟩
 have hb:0<b:=by omega
 have g1:0<Nat.gcd a b:=Nat.gcd_pos_of_pos_right a hb
 have ea:a=Nat.gcd a b * (a / Nat.gcd a b):=(Nat.mul_div_cancel' (Nat.gcd_dvd_left a b)).symm
 have eb:b=Nat.gcd a b * (b / Nat.gcd a b):=(Nat.mul_div_cancel' (Nat.gcd_dvd_right a b)).symm
 have er:redF ((a:Int),(b:Int))=(((a / Nat.gcd a b:Nat):Int),((b / Nat.gcd a b:Nat):Int)):=by unfold redF;simp only [qL]
 rw [er]
 generalize hx:a / Nat.gcd a b=x at *
 generalize hy:b / Nat.gcd a b=y at *
 generalize Nat.gcd a b=g at *
 have hy0:0<y:=Nat.pos_of_ne_zero fun h0=>by subst h0;simp at eb;omega
 have eai:(a:Int)=g * x:=by rw [ea];exact Int.natCast_mul g x
 have ebi:(b:Int)=g * y:=by rw [eb];exact Int.natCast_mul g y
 have hg:(0:Int)<g:=by omega
 have hmost:=he.most
 have hmet:=he.met
 have hd':(b:Int)≤num s:=hd
 have hn':(a:Int)≤1000 * (b:Int):=hn
 rw [eai] at hmet
 rw [ebi] at hmet
 have cancel:∀ u v:Int,g * u≤g * v→u≤v:=fun u v h=>Int.le_of_mul_le_mul_left h hg
 have cancelE:∀ u v:Int,g * u=g * v→u=v:=fun u v h=>Int.le_antisymm (cancel u v (Int.le_of_eq h)) (cancel v u (Int.le_of_eq h.symm))
 have ass1:∀ r:Int,r * (g * (y:Int))=g * (r * y):=fun r=>by rw [← qV,Int.mul_comm r g,qV]
 refine ⟨⟨by show (0:Int)<(y:Int);omega,by show (0:Int)≤(x:Int);omega,fun l hl hs => ?_, ?_⟩,⟨by show (1:Int)≤(y:Int);omega, ?_⟩,⟨by show (0:Int)≤(x:Int);omega, ?_⟩⟩
 ·have:=hmost l hl hs
  have h':riseL s l * (b:Int)≤(a:Int) * l.length:=this
  rw [eai,ebi,ass1,qV] at h'
  exact cancel _ _ h'
 ·rcases hmet with h0 | ⟨l,l1,l2,l3,l4⟩
  ·left
   have h0':(g:Int) * x=g * 0:=by rw [Int.mul_zero];exact h0
   exact cancelE _ _ h0'
  ·right
   refine ⟨l,l1,l2,l3, ?_⟩
   have h':riseL s l * (g * (y:Int))=g * (x:Int) * l.length:=l4
   rw [ass1,qV] at h'
   exact cancelE _ _ h'
 ·show (y:Int)≤num s
  have hyb:y≤b:=by
   rw [eb];exact Nat.le_mul_of_pos_left y g1
  omega
 ·show (x:Int)≤1000 * (y:Int)
  rw [eai,ebi,← qV,Int.mul_comm 1000 (g:Int),qV] at hn'
  exact cancel _ _ hn'
def errF (s:Survey):Int × Int:=redF (leastF s)
theorem err_ok {s:Survey} (h:Sw s):RedP s (errF s):=by
 have:=least_ok h
 exact red_ok (least_err h) this.den.2 this.num0.2
def flip (x:Stp):Stp:=⟨x.sight,!x.back⟩
theorem flip_in {s:Survey} {l:List Stp} (h:StepsIn s l):StepsIn s (l.reverse.map flip):=fun x hx=>by
 obtain ⟨y,hy,rfl⟩:=List.mem_map.1 hx
 exact h y (List.mem_reverse.1 hy)
theorem flip_ends (s:Survey) (p q:Sight→Int) (x:Stp):(stepG p q s (flip x)).a=(stepG p q s x).b∧(stepG p q s (flip x)).b=(stepG p q s x).a:=by
 unfold stepG flip
 cases x.back <;> exact ⟨rfl,rfl⟩
theorem flip_pth {s:Survey} {p q:Sight→Int}:∀ {l:List Stp} {u v:Nat},Pth (stepG p q s) u l v→Pth (stepG p q s) v (l.reverse.map flip) u
 | [],u,v,h=>h.symm
 | x :: l,u,v,h=>by
  obtain ⟨h1,h2⟩:=h
  have:=flip_pth h2
  rw [List.reverse_cons,qT]
  obtain ⟨e1,e2⟩:=flip_ends s p q x
  exact zBn.2 ⟨_,this,e1,by show (stepG p q s (flip x)).b=u;rw [e2];exact h1⟩
theorem flip_rise (s:Survey):∀ l:List Stp,riseL s (l.reverse.map flip) = -riseL s l
 | []=>rfl
 | x :: l=>by
  rw [List.reverse_cons,qT,rise_app,flip_rise s l]
  have e1:riseL s (List.map flip [x])=riseS s (flip x):=by
   show -((stepR s (flip x)).m+0)=_
   rw [← rise_step];omega
  have e2:riseL s (x :: l)=riseS s x+riseL s l:=by
   rw [← rise_step]
   show -((stepR s x).m+tot (stepR s) l)=_
   unfold riseL;omega
  have e3:riseS s (flip x) = -riseS s x:=by
   unfold riseS flip
   cases x.back <;> simp
  rw [e1,e2,e3];omega
def evenB (s:Survey) (by' off:Int):List Bd:=s.sights.flatMap (sightD by' off)
theorem mem_evenB {s:Survey} {d o:Int} {c:Bd}:c∈evenB s d o ↔ ∃ x∈s.sights,c=⟨x.frm.toNat,x.to.toNat,x.rise * d+o⟩∨c=⟨x.to.toNat,x.frm.toNat,o - x.rise * d⟩:=by
 unfold evenB sightD
 simp only [List.mem_flatMap,yD,qY,or_false]
abbrev stepE (s:Survey) (d o:Int):Stp→Bd:=stepG (fun y=>y.rise * d+o) (fun y=>o - y.rise * d) s
theorem mem_stepE {s:Survey} {d o:Int} {c:Bd} (h:c∈evenB s d o):∃ x:Stp,(0≤x.sight∧x.sight<s.sights.length)∧stepE s d o x=c:=by
 obtain ⟨y,hy,hc⟩:=mem_evenB.1 h
 obtain ⟨i,hi,rfl⟩:=List.mem_iff_getElem.1 hy
 have e:sightAt s (i:Int)=s.sights[i]:=by
  unfold sightAt
  rw [qL,zI,zF hi];rfl
 rcases hc with rfl | rfl
 ·exact ⟨⟨i,false⟩,⟨by show (0:Int)≤i;omega,by show (i:Int)<_;omega⟩,by unfold stepE stepG;rw [e];rfl⟩
 ·exact ⟨⟨i,true⟩,⟨by show (0:Int)≤i;omega,by show (i:Int)<_;omega⟩,by unfold stepE stepG;rw [e];rfl⟩
theorem stepsE_of {s:Survey} {d o:Int}:∀ m:List Bd,(∀ c∈m,c∈evenB s d o) → ∃ l:List Stp,StepsIn s l∧l.map (stepE s d o)=m
 | [],_=>⟨[],fun x hx=>(by cases hx),rfl⟩
 | c :: m,h=>by
  obtain ⟨x,hx,e⟩:=mem_stepE (h c zP)
  obtain ⟨l,hl,e2⟩:=stepsE_of m fun d hd=>h d (zR _ hd)
  refine ⟨x :: l,fun y hy => ?_,by rw [List.map_cons,e,e2]⟩
  rcases List.mem_cons.1 hy with rfl | hy
  ·exact hx
  ·exact hl y hy
theorem tot_stepE (s:Survey) (d o:Int):∀ l:List Stp,tot (stepE s d o) l=riseL s l * d+o * l.length
 | []=>by simp [tot,riseL]
 | x :: l=>by
  have e1:(stepE s d o x).m=riseS s x * d+o:=by
   unfold stepE stepG riseS
   cases x.back
   ·rfl
   ·show o - (sightAt s x.sight).rise * d = -(sightAt s x.sight).rise * d+o
    rw [Int.neg_mul];omega
  have e2:riseL s (x :: l)=riseS s x+riseL s l:=by
   rw [← rise_step]
   show -((stepR s x).m+tot (stepR s) l)=_
   unfold riseL;omega
  show (stepE s d o x).m+tot (stepE s d o) l=_
  rw [e1,tot_stepE s d o l,e2,Int.add_mul,zS,Int.natCast_add,Int.mul_add]
  omega
theorem even_oks {s:Survey} (h:Sw s) {d o:Int} (hd:1≤d∧d≤8) (ho:0≤o∧o≤8000):Oks (num s) (evenB s d o):=fun c hc=>by
 obtain ⟨x,hx,hc⟩:=mem_evenB.1 hc
 have hs:=h.sights x hx
 have h1:=hs.frm;have h2:=hs.to;have h3:=hs.ne;have h4:=hs.rise
 have b1:x.rise * d≤1000 * 8:=yQ (qP h4.2 (by omega)) (by omega)
 have b2:-8000≤x.rise * d:=by
  have:-1000 * d≤x.rise * d:=qP h4.1 (by omega)
  omega
 rcases hc with rfl | rfl
 ·exact ⟨by show x.frm.toNat<s.stations.toNat;omega,by show x.to.toNat<s.stations.toNat;omega,by show x.frm.toNat≠x.to.toNat;omega,by show -20000≤x.rise * d+o;omega,by show x.rise * d+o≤20000;omega⟩
 ·exact ⟨by show x.to.toNat<s.stations.toNat;omega,by show x.frm.toNat<s.stations.toNat;omega,by show x.to.toNat≠x.frm.toNat;omega,by show -20000≤o - x.rise * d;omega,by show o - x.rise * d≤20000;omega⟩
theorem err_bd {s:Survey} (h:Sw s) {o:Int × Int} (hr:RedP s o):(1≤o.2∧o.2≤8)∧0≤o.1∧o.1≤8000:=by
 have h8:=h.num8
 have h1:=hr.den;have h2:=hr.num0
 omega
theorem even_some {s:Survey} (h:Sw s) {o:Int × Int} (hr:RedP s o):∃ V,clo (num s) (evenB s o.2 o.1)=some V:=by
 obtain ⟨b1,b2⟩:=err_bd h hr
 cases hV:clo (num s) (evenB s o.2 o.1) with
 | some V=>exact ⟨V,rfl⟩
 | none =>
  exfalso
  obtain ⟨m,m1,m2,m3⟩:=clo_none (even_oks h b1 b2) hV
  obtain ⟨l,l1,rfl⟩:=stepsE_of m m2
  have hs:Simple (stepE s o.2 o.1) l:=simple_map.1 m1
  rw [tot_map,tot_stepE] at m3
  obtain ⟨u,hu⟩:=hs.closed
  have hu2:Pth (stepR s) u l u:=pth_ends.1 hu
  have:=hr.err.walk (flip_in l1) (fun e=>hs.ne (by
   rw [List.map_eq_nil_iff,List.reverse_eq_nil_iff] at e;exact e)) ⟨u,flip_pth hu2⟩
  rw [flip_rise,Int.neg_mul,List.length_map,List.length_reverse] at this
  omega
def firstI {β:Type} (f:Nat→Option β):Nat→Nat→Option β
 | _,0=>none
 | n,r+1=>match f n with
  | some x=>some x
  | none=>firstI f (n+1) r
theorem zDp {β:Type} {f g:Nat→Option β}:∀ {r n:Nat},(∀ i,n≤i→i<n+r→f i=g i)→firstI f n r=firstI g n r
 | 0,n,_=>rfl
 | r+1,n,h=>by
  unfold firstI
  rw [h n (zN _) (by omega),zDp fun i h1 h2=>h i (by omega) (by omega)]
theorem firstI_some {β:Type} {f:Nat→Option β}:∀ {r n:Nat} {x:β},firstI f n r=some x → ∃ i,n≤i∧i<n+r∧f i=some x ∧ ∀ j,n≤j→j<i→f j=none
 | 0,n,x,e=>by cases e
 | r+1,n,x,e=>by
  unfold firstI at e
  cases hf:f n with
  | some y=>rw [hf] at e;cases e;exact ⟨n,zN _,by omega,hf,fun j h1 h2=>by omega⟩
  | none =>
   rw [hf] at e
   obtain ⟨i,h1,h2,h3,h4⟩:=firstI_some e
   refine ⟨i,by omega,by omega,h3,fun j h5 h6 => ?_⟩
   by_cases ej:j=n
   ·subst ej;exact hf
   ·exact h4 j (by omega) h6
theorem zDk {β:Type} {f:Nat→Option β}:∀ {r n:Nat},firstI f n r=none → ∀ j,n≤j→j<n+r→f j=none
 | 0,n,e,j,h1,h2=>by omega
 | r+1,n,e,j,h1,h2=>by
  unfold firstI at e
  cases hf:f n with
  | some y=>rw [hf] at e;cases e
  | none =>
   rw [hf] at e
   by_cases ej:j=n
   ·subst ej;exact hf
   ·exact zDk e j (by omega) (by omega)
theorem firstI_all {β:Type} {f:Nat→Option β}:∀ {r n:Nat},(∀ j,n≤j→j<n+r→f j=none)→firstI f n r=none
 | 0,n,_=>rfl
 | r+1,n,h=>by
  unfold firstI
  rw [h n (zN _) (by omega)]
  exact firstI_all fun j h1 h2=>h j (by omega) (by omega)
def ringB (s:Survey) (l:List Stp):Bool:=closedB s l && decide (tot (stepB s) l<0)
def ringA (s:Survey):Nat→List Stp→Option (List Stp)
 | 0,now=>if ringB s now=true then some now else none
 | m+1,now=>firstI (fun i=>ringA s m (now ++ [stpAt i])) 0 (2 * s.sights.length)
theorem ringA_none {s:Survey}:∀ {m:Nat} {now:List Stp},(∀ t,t.length=m→StepsIn s t→ringB s (now ++ t)=false)→ringA s m now=none
 | 0,now,h=>by
  unfold ringA
  have:=h [] rfl (fun x hx=>by cases hx)
  rw [List.append_nil] at this
  rw [this];rfl
 | m+1,now,h=>by
  unfold ringA
  refine firstI_all fun j _ hj=>ringA_none fun t ht hin => ?_
  have:=h (stpAt j :: t) (by simp [ht]) (fun x hx=>by
   rcases List.mem_cons.1 hx with rfl | hx
   ·exact stpAt_in (by omega)
   ·exact hin x hx)
  rw [show now ++ stpAt j :: t=(now ++ [stpAt j]) ++ t by simp] at this
  exact this
theorem stpAt_inj {i j:Nat} (h:stpAt i=stpAt j):i=j:=by
 unfold stpAt at h
 simp only [Stp.mk.injEq,decide_eq_decide] at h
 omega
def Bf:List Stp→List Stp→Prop
 | x :: a,y :: b=>(∃ i j,i<j∧stpAt i=x∧stpAt j=y)∨(x=y∧Bf a b)
 | _,_=>False
theorem ringA_some {s:Survey}:∀ {m:Nat} {now l:List Stp},ringA s m now=some l → ∃ t,l=now ++ t∧t.length=m∧StepsIn s t∧ringB s l=true ∧ ∀ u,u.length=m→StepsIn s u→ringB s (now ++ u)=true → ¬ Bf u t
 | 0,now,l,h=>by
  unfold ringA at h
  split at h
  ·rename_i hr
   cases h
   exact ⟨[],by simp,rfl,fun x hx=>(by cases hx),hr,fun u _ _ _ hb=>by cases u <;> exact hb⟩
  ·cases h
 | m + 1,now,l,h=>by
  unfold ringA at h
  obtain ⟨i,_,h2,h3,h4⟩:=firstI_some h
  obtain ⟨t,t1,t2,t3,t4,t5⟩:=ringA_some h3
  refine ⟨stpAt i :: t,by rw [t1];simp,by simp [t2],fun x hx => ?_,t4,fun u hu hin hr hb => ?_⟩
  ·rcases List.mem_cons.1 hx with rfl | hx
   ·exact stpAt_in (by omega)
   ·exact t3 x hx
  ·cases u with
   | nil=>cases hu
   | cons y u =>
    have hul:u.length=m:=by simpa using hu
    have e:now ++ y :: u=(now ++ [y]) ++ u:=by simp
    rw [e] at hr
    rcases hb with ⟨j,k,hjk,ej,ek⟩ | ⟨ey,hb⟩
    ·have:k=i:=stpAt_inj ek
     subst this
     subst ej
     have hn:=h4 j (qH _) hjk
     have key:∀ {m:Nat} {now:List Stp},ringA s m now=none → ∀ t,t.length=m→StepsIn s t→ringB s (now ++ t)=true→False:=by
      intro m
      induction m with
      | zero =>
       intro now hn t ht _ hr
       have:t=[]:=List.length_eq_zero_iff.1 ht
       subst this
       rw [List.append_nil] at hr
       unfold ringA at hn
       rw [if_pos hr] at hn;cases hn
      | succ m ih =>
       intro now hn t ht hin hr
       cases t with
       | nil=>cases ht
       | cons z t =>
        obtain ⟨q,hq,rfl⟩:=stpAt_all (hin z zP)
        unfold ringA at hn
        have:=zDk hn q (qH _) (by omega)
        rw [show now ++ stpAt q :: t=(now ++ [stpAt q]) ++ t by simp] at hr
        exact ih this t (by simpa using ht) (fun x hx=>hin x (zR _ hx)) hr
     exact key hn u hul (fun x hx=>hin x (zR _ hx)) hr
    ·subst ey
     exact t5 u hul (fun x hx=>hin x (zR _ hx)) hr hb
theorem ring_chain {s:Survey} {l t:List Stp} (h:ringB s (l ++ t)=true):chainB s l=true:=by
 unfold ringB closedB at h
 rw [zU,zU,zU,zCz] at h
 obtain ⟨⟨_,⟨c1,c2⟩,_⟩,_⟩:=h
 rw [zCz]
 refine ⟨?_, ?_⟩
 ·rw [lnk_iff] at c1 ⊢
  intro j hj hl
  have:=c1 j hj (by rw [qD];omega)
  rw [zCl hl,zCl (A:=l) (B:=t) (j:=j - 1) (by omega)] at this
  exact this
 ·rw [qT,List.nodup_append] at c2
  exact c2.1
def ringR (s:Survey):Nat→List Stp→Option (List Stp)
 | 0,now=>if ringB s now=true then some now else none
 | m+1,now=>firstI (fun i=>if chainB s (now ++ [stpAt i])=true then ringR s m (now ++ [stpAt i]) else none) 0 (2 * s.sights.length)
def ringL (s:Survey):Nat→List Stp→Stp→Option (List Stp)
 | 0,w,y=>if enS s y=bgS s ((w ++ [y]).getD 0 stpD)∧tot (stepB s) (w ++ [y])<0 then some (w ++ [y]) else none
 | m+1,w,y=>if enS s y=bgS s ((w ++ [y]).getD 0 stpD)∨enS s y∈w.map (enS s) then none else firstI (fun i=>if bgS s (stpAt i)=enS s y then ringL s m (w ++ [y]) (stpAt i) else none) 0 (2 * s.sights.length)
structure RingI (s:Survey) (w:List Stp) (y:Stp):Prop where
 lnk:Lnk s (w ++ [y])
 once:(w.map (enS s)).Nodup
 start:bgS s ((w ++ [y]).getD 0 stpD) ∉ w.map (enS s)
theorem last_getD (w:List Stp) (y:Stp):(w ++ [y]).getD ((w ++ [y]).length - 1) stpD=y:=by
 rw [zI];simp
theorem nodup_snoc {α:Type} {l:List α} {a:α}:(l ++ [a]).Nodup↔l.Nodup∧a ∉ l:=by
 rw [List.nodup_append]
 simp only [List.nodup_cons,qY,not_false_eq_true,List.nodup_nil,true_and,yD,qY,or_false,forall_eq]
 exact ⟨fun ⟨h1,h2⟩=>⟨h1,fun hm=>h2 a hm rfl⟩,fun ⟨h1,h2⟩=>⟨h1,fun x hx e=>h2 (e ▸ hx)⟩⟩
theorem lnk_snoc {s:Survey} {w:List Stp} {y x:Stp} (h:Lnk s (w ++ [y])) (hx:bgS s x=enS s y):Lnk s ((w ++ [y]) ++ [x]):=by
 rw [lnk_iff] at h ⊢
 intro j hj hl
 by_cases g:j<(w ++ [y]).length
 ·rw [zCl g,zCl (A:=w ++ [y]) (B:=[x]) (j:=j - 1) (by omega)]
  exact h j hj g
 ·have e:j=(w ++ [y]).length:=by rw [qD] at hl;simp at hl g ⊢;omega
  subst e
  rw [zCl (A:=w ++ [y]) (B:=[x]) (j:=(w ++ [y]).length - 1) (by simp),last_getD]
  have:(w ++ [y] ++ [x]).getD (w ++ [y]).length stpD=x:=by
   rw [zI,zZ (zN _),Nat.sub_self];rfl
  rw [this];exact hx
theorem ringL_eq (s:Survey):∀ (m:Nat) (w:List Stp) (y:Stp),RingI s w y→2≤w.length+1+m→ringL s m w y=ringA s m (w ++ [y])
 | 0,w,y,hI,hl=>by
  unfold ringL ringA
  have e:ringB s (w ++ [y])=true↔enS s y=bgS s ((w ++ [y]).getD 0 stpD)∧tot (stepB s) (w ++ [y])<0:=by
   unfold ringB closedB
   rw [zU,zU,zU,zCz,decide_eq_true_iff,decide_eq_true_iff,decide_eq_true_iff,last_getD]
   constructor
   ·rintro ⟨⟨_,_,h1⟩,h2⟩;exact ⟨h1.symm,h2⟩
   ·rintro ⟨h1,h2⟩
    refine ⟨⟨by simp;omega,⟨hI.lnk, ?_⟩,h1.symm⟩,h2⟩
    rw [qT]
    show (w.map (enS s) ++ [enS s y]).Nodup
    rw [nodup_snoc,h1]
    exact ⟨hI.once,hI.start⟩
  by_cases hr:ringB s (w ++ [y])=true
  ·rw [if_pos hr,if_pos (e.1 hr)]
  ·rw [if_neg hr,if_neg fun hh=>hr (e.2 hh)]
 | m + 1,w,y,hI,hl=>by
  unfold ringL
  by_cases c:enS s y=bgS s ((w ++ [y]).getD 0 stpD)∨enS s y∈w.map (enS s)
  ·rw [if_pos c]
   symm
   refine ringA_none fun t ht hin => ?_
   cases hr:ringB s (w ++ [y] ++ t) with
   | false=>rfl
   | true =>
    exfalso
    rcases c with c | c
    ·unfold ringB closedB at hr
     rw [zU,zU,zU,zCz,decide_eq_true_iff,decide_eq_true_iff] at hr
     obtain ⟨⟨_,⟨_,c2⟩,c3⟩,_⟩:=hr
     obtain ⟨t',z,rfl⟩:∃ t' z,t=t' ++ [z]:=by
      rcases List.eq_nil_or_concat t with e | ⟨t',z,e⟩
      ·subst e;cases ht
      ·exact ⟨t',z,by rw [e,List.concat_eq_append]⟩
     have e1:w ++ [y] ++ (t' ++ [z])=(w ++ [y] ++ t') ++ [z]:=by simp
     rw [e1,last_getD,← e1,zCl (by simp)] at c3
     rw [qT,List.nodup_append] at c2
     exact c2.2.2 (enS s y) (by simp) (enS s z) (by simp) (by rw [c,c3])
    ·have:=(zCz.1 (ring_chain hr)).2
     rw [qT] at this
     exact (nodup_snoc.1 this).2 c
  ·rw [if_neg c]
   have c1:enS s y≠bgS s ((w ++ [y]).getD 0 stpD):=fun h=>c (.inl h)
   have c2:enS s y ∉ w.map (enS s):=fun h=>c (.inr h)
   unfold ringA
   refine zDp fun i _ hi => ?_
   by_cases g:bgS s (stpAt i)=enS s y
   ·rw [if_pos g]
    refine ringL_eq s m (w ++ [y]) (stpAt i) ⟨lnk_snoc hI.lnk g, ?_, ?_⟩ (by simp;omega)
    ·rw [qT]
     exact nodup_snoc.2 ⟨hI.once,c2⟩
    ·rw [zCl (by simp),qT]
     intro hm
     rcases List.mem_append.1 hm with hm | hm
     ·exact hI.start hm
     ·simp only [List.map_cons,List.map_nil,yD,qY,or_false] at hm
      exact c1 hm.symm
   ·rw [if_neg g]
    symm
    refine ringA_none fun t _ _ => ?_
    cases hr:ringB s (w ++ [y] ++ [stpAt i] ++ t) with
    | false=>rfl
    | true =>
     exfalso
     have hc:=(zCz.1 (ring_chain hr)).1
     rw [lnk_iff] at hc
     have:=hc (w ++ [y]).length (by simp) (by simp)
     rw [zCl (A:=w ++ [y]) (B:=[stpAt i]) (j:=(w ++ [y]).length - 1) (by simp),last_getD] at this
     have e:(w ++ [y] ++ [stpAt i]).getD (w ++ [y]).length stpD=stpAt i:=by
      rw [zI,zZ (zN _),Nat.sub_self];rfl
     rw [e] at this
     exact g this
theorem ring_len {s:Survey} {long:Nat} (h:2≤long):firstI (fun i=>ringL s (long - 1) [] (stpAt i)) 0 (2 * s.sights.length)=ringA s long []:=by
 obtain ⟨m,rfl⟩:∃ m,long=m+1:=⟨long - 1,by omega⟩
 unfold ringA
 refine zDp fun i _ _ => ?_
 rw [Nat.add_sub_cancel]
 exact ringL_eq s m [] (stpAt i) ⟨trivial,List.nodup_nil,fun h=>by cases h⟩ (by simp;omega)
def shortR (s:Survey):Option (List Stp):=firstI (fun long=>ringA s long []) 2 (num s - 1)
def withS (s:Survey) (x:Sight):Survey:={ s with sights:=s.sights ++ [x] }
theorem with_sw {s:Survey} (h:Sw s) {x:Sight} (hx:SightOk s.stations x):Sw (withS s x):=
 ⟨h.st,fun y hy=>by
  rcases List.mem_append.1 hy with hy | hy
  ·exact h.sights y hy
  ·rw [yP] at hy;subst hy;exact hx⟩
theorem with_more {s:Survey} (h:Sw s) {x:Sight} (hx:SightOk s.stations x):More (num s) (surveyB s) (surveyB (withS s x)) x.frm.toNat x.to.toNat (x.rise+x.off) (x.off - x.rise):=by
 have h':=with_sw h hx
 refine ⟨h.num8,h.oks,h'.oks,fun c => ?_,by have:=hx.off;omega⟩
 show c∈(s.sights ++ [x]).flatMap sightB↔_
 rw [List.flatMap_append,List.mem_append]
 refine or_congr Iff.rfl ?_
 unfold sightB
 simp
def sum2 (a b:Int):Int:=if a ≥ far∨b ≥ far then far else a+b
def sum3 (a b c:Int):Int:=if a ≥ far∨b ≥ far∨c ≥ far then far else a+b+c
def withL (V:Mat) (x:Sight) (i j:Nat):Int:=
 min (min (ent V i j) (sum3 (ent V i x.frm.toNat) (x.rise+x.off) (ent V x.to.toNat j))) (sum3 (ent V i x.to.toNat) (x.off - x.rise) (ent V x.frm.toNat j))
def allowsB (V:Mat) (x:Sight):Bool:=!(decide (sum2 (ent V x.to.toNat x.frm.toNat) (x.rise+x.off)<0) || decide (sum2 (ent V x.frm.toNat x.to.toNat) (x.off - x.rise)<0))
theorem withL_eq {n:Int} {x:Sight} (hx:SightOk n x) (V:Mat) (i j:Nat):withL V x i j=withM V x.frm.toNat x.to.toNat (x.rise+x.off) (x.off - x.rise) i j:=by
 have h1:=hx.rise;have h2:=hx.off
 have hf:far=1099511627776:=rfl
 have e:∀ a p b:Int,p<far→sum3 a p b=if a<far∧b<far then a+p+b else far:=fun a p b hp=>by
  unfold sum3
  by_cases g:a<far∧b<far
  ·rw [if_pos g,if_neg (by omega)]
  ·rw [if_neg g,if_pos (by omega)]
 unfold withL withM
 rw [e _ _ _ (by omega),e _ _ _ (by omega)]
theorem allows_iff {n:Int} {x:Sight} (hx:SightOk n x) (V:Mat):allowsB V x=true↔Allows V x.frm.toNat x.to.toNat (x.rise+x.off) (x.off - x.rise):=by
 have h1:=hx.rise;have h2:=hx.off
 have hf:far=1099511627776:=rfl
 have e:∀ a p:Int,p<far→(sum2 a p<0↔a<far∧a+p<0):=fun a p hp=>by
  unfold sum2
  by_cases g:a<far
  ·rw [if_neg (by omega)];exact ⟨fun h=>⟨g,h⟩,fun h=>h.2⟩
  ·rw [if_pos (by omega)];exact ⟨fun h=>by omega,fun h=>absurd h.1 g⟩
 unfold allowsB
 rw [Bool.not_eq_true',Bool.or_eq_false_iff,decide_eq_false_iff_not,decide_eq_false_iff_not,e _ _ (by omega),e _ _ (by omega)]
 constructor
 ·rintro ⟨a1,a2⟩
  exact ⟨fun hlt=>Int.not_lt.1 fun hh=>a1 ⟨hlt,hh⟩,fun hlt=>Int.not_lt.1 fun hh=>a2 ⟨hlt,hh⟩⟩
 ·rintro ⟨a1,a2⟩
  exact ⟨fun ⟨hlt,hh⟩=>by have:=a1 hlt;omega,fun ⟨hlt,hh⟩=>by have:=a2 hlt;omega⟩
theorem with_known {s:Survey} (h:Sw s) {x:Sight} (hx:SightOk s.stations x) {V:Mat} (hV:knownV s=some V):(knownV (withS s x)).isSome=allowsB V x:=by
 rw [Bool.eq_iff_iff,allows_iff hx]
 exact more_allows (with_more h hx) (zAy h hV)
theorem with_ent {s:Survey} (h:Sw s) {x:Sight} (hx:SightOk s.stations x) {V V':Mat} (hV:knownV s=some V) (hV':knownV (withS s x)=some V') {i j:Nat} (hi:i<num s) (hj:j<num s) (hlt:ent V i j<far):ent V' i j=withL V x i j:=by
 rw [withL_eq hx]
 exact more_ent (with_more h hx) (zAy h hV) (zAy (with_sw h hx) hV') hi hj hlt
structure Try where
 frm:Int
 to:Int
 off:Int
 deriving DecidableEq
structure TryOk (n:Int) (x:Try):Prop where
 frm:0≤x.frm∧x.frm<n
 to:0≤x.to∧x.to<n
 ne:x.frm≠x.to
 off:0≤x.off∧x.off≤50
def tried (x:Try) (rise:Int):Sight:=⟨x.frm,x.to,rise,x.off⟩
theorem tried_ok {n:Int} {x:Try} (h:TryOk n x) {r:Int} (hr:-1000≤r∧r≤1000):SightOk n (tried x r):=⟨h.frm,h.to,h.ne,hr,h.off⟩
def riseAt (k:Nat):Int:=(k:Int) - 1000
def worstAt (V:Mat) (x:Try) (i j:Nat):Nat→Int
 | 0 => -1
 | k+1=>if allowsB V (tried x (riseAt k))=true then max (worstAt V x i j k) (withL V (tried x (riseAt k)) i j+withL V (tried x (riseAt k)) j i) else worstAt V x i j k
def widthAt (s:Survey) (x:Try) (i j:Nat):Nat→Int
 | 0 => -1
 | k+1=>match knownV (withS s (tried x (riseAt k))) with
  | some V'=>max (widthAt s x i j k) (ent V' i j - -ent V' j i)
  | none=>widthAt s x i j k
def worstW (V:Mat) (x:Try) (i j:Nat):Int:=if worstAt V x i j 2001<0 then ent V i j+ent V j i else worstAt V x i j 2001
end Go.Lv
end
section
namespace Go.Av.Fx
open Go Go.Av Go.Av.Tb Go.Proofs
open Go.Lv (Sight Survey Sw Sv SightOk)
abbrev sgtC (x:Sight):List AV:=[.int .i64 x.frm,.int .i64 x.to,.int .i64 x.rise,.int .i64 x.off]
def sgts (l:List Sight):List AV:=l.flatMap sgtC
@[simp] theorem zAw (l:List Sight):(sgts l).length=4 * l.length:=by
 induction l with
 | nil=>rfl
 | cons c l ih=>simp only [sgts,qX,qD] at ih ⊢;rw [ih];simp [sgtC];omega
@[simp] theorem sgts_bnd (n k:Nat) (l:List Sight):bndL n k (sgts l)=true:=zBd _ (fun _=>rfl) l
abbrev surC (s:Survey):List AV:=[.int .i64 s.stations,.slice (sgts s.sights) s.sights.length .unk]
abbrev surA (s:Survey):AV:=.agg (surC s)
attribute [go_sem] surC sgtC
theorem zBs:∀ (l:List Sight) (k:Nat) (h:k<l.length),((sgts l).drop (k * 4)).take 4=sgtC l[k]
 | c :: l,0,h=>by simp [sgts,sgtC]
 | c :: l,k+1,h=>by
  have:=zBs l k (by simpa using h)
  rw [show (k+1) * 4=4+k * 4 by omega,← List.drop_drop]
  simpa [sgts,sgtC] using this
theorem rin_pc (x lo hi:Int):PC Tryz.prog 88 [.int .i64 x,.int .i64 lo,.int .i64 hi] (.pure (.bool (inB x lo hi))):=by
 refine PC.of_empty (AC.run (E_ok _) mix Tryz.func88 m88 rfl rfl rfl (zE rfl) ?_) rfl rfl
 simp only [go_sem,zB,zD,zC,reduceIte,reduceCtorEq,zA]
 refine sg_dec (fun h => ?_) (fun h => ?_)
 ·simp only [go_sem,h,decide_true,Tryz.f88,zB,zD,zC,reduceIte,reduceCtorEq,zA]
  unfold inB;rw [decide_eq_true h];rfl
 ·simp only [go_sem,h,decide_false,Tryz.f88,zB,zD,zC,reduceIte,reduceCtorEq,zA]
  unfold inB;rw [decide_eq_false h];rfl
def lastS (s:Survey):Int:=IntKind.i64.wrap (s.stations - 1)
def staB (s:Survey) (n:Int):Bool:=inB n 0 (lastS s)
theorem zCm (s:Survey) (n:Int):PC Tryz.prog 142 [surA s,.int .i64 n] (.pure (.bool (staB s n))):=by
 refine PC.of_empty (AC.run (E_ok _) mix Tryz.func142 m142 rfl rfl rfl (zE rfl) ?_) (by simp [bndL,AV.bnd]) rfl
 simp only [go_sem,boxA,zB,zD,zC,reduceIte,reduceCtorEq,zA]
 refine cp n100 (in_pc _ _ _) (SubL.refl _) ?_
 simp only [go_sem,Tryz.f142,zB,zD,zC,reduceIte,reduceCtorEq,zA]
 rfl
theorem zDl (s:Survey) (n:Int):PC Tryz.prog 30 [surA s,.int .i64 n] (.pure (.bool (staB s n))):=by
 refine PC.of_empty (AC.run (E_ok _) mix Tryz.func30 m30 rfl rfl rfl (zE rfl) ?_) (by simp [bndL,AV.bnd]) rfl
 simp only [go_sem,boxA,zB,zD,zC,reduceIte,reduceCtorEq,zA]
 refine cp n88 (rin_pc _ _ _) (SubL.refl _) ?_
 simp only [go_sem,Tryz.f30,zB,zD,zC,reduceIte,reduceCtorEq,zA]
 rfl
theorem endsS_pc (x:Sight):PC Tryz.prog 238 [.agg (sgtC x)] (.pure (.tuple [.int .i64 x.frm,.int .i64 x.to])):=by
 refine PC.of_empty (AC.run (E_ok _) mix Tryz.func238 m238 rfl rfl rfl (zE rfl) ?_) (by simp [bndL,AV.bnd]) rfl
 simp only [go_sem,boxA,Tryz.f238,zB,zD,zC,reduceIte,reduceCtorEq,zA]
def linkB (s:Survey) (a b:Int):Bool:=staB s a && (staB s b && decide (a≠b))
theorem zEu (s:Survey) {t:TypeId} {g:FuncId} (hM:lvM t "quinaria/level.ends" = some g) (ng:Callable Tryz.prog g) (v:AV) (hv:v.bnd 0 0=true) (a b:Int) (hg:PC Tryz.prog g [v] (.pure (.tuple [.int .i64 a,.int .i64 b]))) :
  PC Tryz.prog 115 [surA s,.iface t v] (.pure (.bool (linkB s a b))):=by
 refine PC.of_empty (AC.run (E_ok _) mix Tryz.func115 m115 rfl rfl rfl (zE rfl) ?_) (by simp [bndL,AV.bnd,hv]) rfl
 have hM':∀ n,(E n).M t "quinaria/level.ends" = some g:=fun n=>hM
 unfold linkB
 simp only [go_sem,boxA,hM',zY,zB,zD,zC,reduceIte,reduceCtorEq,zA]
 refine cp ng hg (SubL.refl _) ?_
 simp only [go_sem,zAd,zB,zD,zC,reduceIte,reduceCtorEq,zA]
 refine cp n142 (zCm s a) (SubL.refl _) ?_
 cases ha:staB s a
 ·simp only [go_sem,Tryz.f115,zB,zD,zC,reduceIte,reduceCtorEq,zA]
  rfl
 simp only [go_sem,zB,zD,zC,reduceIte,reduceCtorEq,zA]
 refine cp n142 (zCm s b) (SubL.refl _) ?_
 cases hb:staB s b
 ·simp only [go_sem,Tryz.f115,zB,zD,zC,reduceIte,reduceCtorEq,zA]
  rfl
 simp only [go_sem,Tryz.f115,zB,zD,zC,reduceIte,reduceCtorEq,zA]
 rfl
@[go_sem] theorem bd_sight (a b c d:Int):buildA T 140 [(0,.agg [.int .i64 a,.int .i64 b,.int .i64 c,.int .i64 d])]=some (.agg [.int .i64 a,.int .i64 b,.int .i64 c,.int .i64 d]):=rfl
@[go_sem] theorem d_sight:descOf T 140=some ti140.desc:=rfl
@[go_sem] theorem i_sight:isIface ti140.desc=false:=rfl
def badSgt (s:Survey) (x:Sight):Bool:=!linkB s x.frm x.to || (!inB x.rise (-1000) 1000 || !inB x.off 0 50)
theorem isSurvey1_pc (s:Survey) (x:Sight):PC Tryz.prog 145 [.agg (sgtC x),.eptr (surC s) 0] (.pure (.bool (badSgt s x))):=by
 refine PC.of_empty (AC.run (E_ok _) mix Tryz.func145 m145 rfl rfl rfl (zE rfl) ?_) (by simp [bndL,AV.bnd]) rfl
 have hI:=zEu s (t:=140) (g:=238) rfl n238 (.agg (sgtC x)) (by simp [AV.bnd,bndL]) _ _ (endsS_pc x)
 unfold badSgt
 simp only [go_sem,boxA,zB,zD,zC,reduceIte,reduceCtorEq,zA]
 refine cp n115 hI (SubL.refl _) ?_
 cases hl:linkB s x.frm x.to
 ·simp only [go_sem,zAj,qF,Tryz.f145,zB,zD,zC,reduceIte,reduceCtorEq,zA]
 simp only [go_sem,zAj,zX,zB,zD,zC,reduceIte,reduceCtorEq,zA]
 refine cp n100 (in_pc _ _ _) (SubL.refl _) ?_
 rw [show (decide (x.rise ≥ -1000) && decide (x.rise≤1000))=inB x.rise (-1000) 1000 from rfl]
 cases hr:inB x.rise (-1000) 1000
 ·simp only [go_sem,zAj,qF,Tryz.f145,zB,zD,zC,reduceIte,reduceCtorEq,zA]
 simp only [go_sem,zAj,zX,zB,zD,zC,reduceIte,reduceCtorEq,zA]
 refine cp n100 (in_pc _ _ _) (SubL.refl _) ?_
 rw [show (decide (x.off ≥ 0) && decide (x.off≤50))=inB x.off 0 50 from rfl]
 simp only [go_sem,zAj,Tryz.f145,zB,zD,zC,reduceIte,reduceCtorEq,zA]
theorem indexFuncS_pc (l:List Sight) (hl:okL l.length) (g:FuncId) (ng:Callable Tryz.prog g) (caps:List AV) (hc:bndL 0 0 caps=true) (p:Sight→Bool) (hg:∀ x∈l,PC Tryz.prog g (.agg (sgtC x) :: caps) (.pure (.bool (p x)))) :
  PC Tryz.prog 170 [.slice (sgts l) l.length .unk,.func (.func g) [] caps] (.pure (.int .i64 (idx p l))):=by
 refine PC.of_empty (AC.run (E_ok _) mix Tryz.func170 m170 rfl rfl rfl (zE rfl) ?_) (by simp [bndL,AV.bnd,hc]) rfl
 simp only [go_sem,zAa,zB,zD,zC,reduceIte,reduceCtorEq,zA]
 refine zBp l.length (fun k => ∀ i (hi:i<k) (hil:i<l.length),p l[i]=false) (fun k=>[(0,.slice (sgts l) l.length .unk),(1,.func (.func g) [] caps),(7,.int .i64 l.length),(8,.int .i64 k)]) (fun _=>St.empty) (fun i hi=>absurd hi (qZ _)) rfl rfl ?_
 intro k hk hP I hI
 by_cases h:k<l.length
 ·have h':(k:Int)<l.length:=by omega
  have h2:0≤(k:Int)∧(k:Int)<l.length:=by omega
  have h3:k * 4+4≤(sgts l).length:=by rw [zAw];omega
  have h4:IntKind.i64.wrap ((k:Int)+1)=(k+1:Nat):=wrap64 (by omega)
  have h5:=zBs l k h
  simp only [go_sem,l170_0,h',decide_true,zB,zD,zC,reduceIte,reduceCtorEq,zA]
  simp only [go_sem,h2,zAg,and_self,h3,h5,zB,zD,zC,reduceIte,reduceCtorEq,zA]
  refine cp ng (hg _ (zW h)) (SubL.refl _) ?_
  simp only [go_sem,zB,zD,zC,reduceIte,reduceCtorEq,zA]
  refine sb_bool (fun hb => ?_) (fun hb => ?_)
  ·simp only [go_sem,Tryz.f170,zB,zD,zC,reduceIte,reduceCtorEq,zA]
   rw [idx_at h hb (fun i hi=>hP i hi (by omega))]
  ·simp only [go_sem,h4,zB,zD,zC,reduceIte,reduceCtorEq,zA]
   refine hI h fun i hi hil => ?_
   by_cases e:i=k
   ·subst e;exact hb
   ·exact hP i (by omega) hil
 ·have h':¬ (k:Int)<l.length:=by omega
  simp only [go_sem,l170_0,h',decide_false,Tryz.f170,zB,zD,zC,reduceIte,reduceCtorEq,zA]
  rw [zEq fun i hi=>hP i (by omega) hi]
theorem containsFuncS_pc (l:List Sight) (hl:okL l.length) (g:FuncId) (ng:Callable Tryz.prog g) (caps:List AV) (hc:bndL 0 0 caps=true) (p:Sight→Bool) (hg:∀ x∈l,PC Tryz.prog g (.agg (sgtC x) :: caps) (.pure (.bool (p x)))) :
  PC Tryz.prog 131 [.slice (sgts l) l.length .unk,.func (.func g) [] caps] (.pure (.bool (l.any p))):=by
 refine PC.of_empty (AC.run (E_ok _) mix Tryz.func131 m131 rfl rfl rfl (zE rfl) ?_) (by simp [bndL,AV.bnd,hc]) rfl
 simp only [go_sem,zB,zD,zC,reduceIte,reduceCtorEq,zA]
 refine cp n170 (indexFuncS_pc l hl g ng caps hc p hg) (SubL.refl _) ?_
 simp only [go_sem,Tryz.f131,zCy,zB,zD,zC,reduceIte,reduceCtorEq,zA]
def zAo (s:Survey):Bool:=inB s.stations 2 8 && (decide ((s.sights.length:Int)≤14) && !s.sights.any (badSgt s))
theorem zBw (s:Survey) (hl:okL s.sights.length):PC Tryz.prog 89 [surA s] (.pure (.bool (zAo s))):=by
 refine PC.of_empty (AC.run (E_ok _) mix Tryz.func89 m89 rfl rfl rfl (zE rfl) ?_) (by simp [bndL,AV.bnd]) rfl
 unfold zAo
 simp only [go_sem,boxA,zB,zD,zC,reduceIte,reduceCtorEq,zA]
 refine cp n100 (in_pc _ _ _) (SubL.refl _) ?_
 rw [show (decide (s.stations ≥ 2) && decide (s.stations≤8))=inB s.stations 2 8 from rfl]
 cases h1:inB s.stations 2 8
 ·simp only [go_sem,Tryz.f89,zB,zD,zC,reduceIte,reduceCtorEq,zA]
  rfl
 by_cases h2:(s.sights.length:Int)≤14
 rotate_left
 ·simp only [go_sem,zAa,h2,decide_false,Tryz.f89,zB,zD,zC,reduceIte,reduceCtorEq,zA]
  rfl
 have hC:=containsFuncS_pc s.sights hl 145 n145 [.eptr (surC s) 0] (by simp [bndL,AV.bnd]) (badSgt s) (fun x _=>isSurvey1_pc s x)
 simp only [go_sem,zAa,h2,decide_true,zB,zD,zC,reduceIte,reduceCtorEq,zA]
 refine cl n131 hC (LntL.cons (.same _ (by simp [AV.bnd])) (LntL.cons (Lnt.func1 (.ptr 0 0 _ rfl (by simp [bndL,AV.bnd]))) (LntL.nil _))) rfl ?_
 simp only [go_sem,zAj,Tryz.f89,zB,zD,zC,reduceIte,reduceCtorEq,zA]
 rfl
theorem last_eq {s:Survey} (h:2≤s.stations∧s.stations≤8):lastS s=s.stations - 1:=wrap64 (by omega)
theorem zBh {s:Survey} (h:2≤s.stations∧s.stations≤8) {n:Int}:staB s n=true↔0≤n∧n<s.stations:=by
 unfold staB;rw [inB_iff,last_eq h];omega
theorem sgt_iff {s:Survey} (h:2≤s.stations∧s.stations≤8) {x:Sight}:badSgt s x=false↔SightOk s.stations x:=by
 unfold badSgt linkB
 rw [Bool.or_eq_false_iff,Bool.or_eq_false_iff,Bool.not_eq_false',Bool.not_eq_false',Bool.not_eq_false',zU,zU,zBh h,zBh h,inB_iff,inB_iff,decide_eq_true_iff]
 exact ⟨fun ⟨⟨a,b,c⟩,d,e⟩=>⟨a,b,c,d,e⟩,fun ⟨a,b,c,d,e⟩=>⟨⟨a,b,c⟩,d,e⟩⟩
theorem zDa {s:Survey}:zAo s=true↔Sv s:=by
 unfold zAo
 rw [zU,zU,inB_iff,decide_eq_true_iff,Bool.not_eq_true',List.any_eq_false]
 constructor
 ·rintro ⟨h1,h2,h3⟩
  exact ⟨⟨h1,fun x hx=>(sgt_iff h1).1 (by simpa using h3 x hx)⟩,by omega⟩
 ·rintro ⟨⟨h1,h2⟩,h3⟩
  exact ⟨h1,by omega,fun x hx=>by rw [(sgt_iff h1).2 (h2 x hx)];decide⟩
theorem rsights_pc (s:Survey) (hl:s.sights.length≤1000):PC Tryz.prog 96 [surA s] (.pure (.bool (!s.sights.any (badSgt s)))):=by
 refine PC.of_empty (AC.run (E_ok _) mix Tryz.func96 m96 rfl rfl rfl (zE rfl) ?_) (by simp [bndL,AV.bnd]) rfl
 simp only [go_sem,boxA,zB,zD,zC,reduceIte,reduceCtorEq,zA]
 refine wc_forGP s.sights.length (fun k => ∀ i (hi:i<k) (hil:i<s.sights.length),badSgt s s.sights[i]=false) (fun k=>[(1,.ref 0 0),(3,.int .i64 k)]) (fun _=>⟨[some (.cells (surC s))],0,[]⟩) (fun i hi=>absurd hi (qZ _)) rfl rfl (fun k hk => ?_) ?_
 ·refine ⟨qH _,qH _,by simp [bndTS,AV.bnd],fun i B hB => ?_,fun t ht=>by cases ht⟩
  match i,hB with
  | 0,hB=>simp at hB;subst hB;simp [Blk.bnd,bndL,AV.bnd]
  | i+1,hB=>simp at hB
 intro k hk hP I hI
 by_cases h:k<s.sights.length
 ·have h1:(k:Int)<s.sights.length:=by omega
  have h2:0≤(k:Int)∧(k:Int)<s.sights.length:=by omega
  have h3:k * 4+4≤(sgts s.sights).length:=by rw [zAw];omega
  have h4:IntKind.i64.wrap ((k:Int)+1)=(k+1:Nat):=wrap64 (by omega)
  have h5:=zBs s.sights k h
  have hany:badSgt s s.sights[k]=true→(!s.sights.any (badSgt s))=false:=fun hh=>by
   rw [Bool.not_eq_false',List.any_eq_true]
   exact ⟨_,zW h,hh⟩
  have hnx:badSgt s s.sights[k]=false → ∀ i (hi:i<k+1) (hil:i<s.sights.length),badSgt s s.sights[i]=false:=fun hh i hi hil=>by
   by_cases e:i=k
   ·subst e;exact hh
   ·exact hP i (by omega) hil
  have hI:=hI h
  generalize s.sights[k]=x at *
  have hb:badSgt s x=(!(staB s x.frm && (staB s x.to && decide (x.frm≠x.to))) || (!inB x.rise (-1000) 1000 || !inB x.off 0 50)):=rfl
  simp only [go_sem,l96_0,zAa,h1,decide_true,h2,h3,h5,zB,zD,zC,reduceIte,reduceCtorEq,zA]
  refine cp n30 (zDl s x.frm) (SubL.refl _) ?_
  cases h6:staB s x.frm
  ·rw [hany (by rw [hb,h6];rfl)]
   simp only [go_sem,zAj,qF,Tryz.f96,zB,zD,zC,reduceIte,reduceCtorEq,zA]
  simp only [go_sem,zAj,zX,zB,zD,zC,reduceIte,reduceCtorEq,zA]
  refine cp n30 (zDl s x.to) (SubL.refl _) ?_
  cases h7:staB s x.to
  ·rw [hany (by rw [hb,h6,h7];rfl)]
   simp only [go_sem,zAj,qF,Tryz.f96,zB,zD,zC,reduceIte,reduceCtorEq,zA]
  by_cases h8:x.frm=x.to
  ·rw [hany (by rw [hb,h6,h7,decide_eq_false (fun hh=>hh h8)];rfl)]
   have d8:=decide_eq_true h8
   simp only [go_sem,zAj,zX,d8,Tryz.f96,zB,zD,zC,reduceIte,reduceCtorEq,zA]
  have d8:=decide_eq_false h8
  simp only [go_sem,zAj,zX,d8,zB,zD,zC,reduceIte,reduceCtorEq,zA]
  refine cp n88 (rin_pc _ _ _) (SubL.refl _) ?_
  cases h9:inB x.rise (-1000) 1000
  ·rw [hany (by rw [hb,h9];simp)]
   simp only [go_sem,zAj,qF,Tryz.f96,zB,zD,zC,reduceIte,reduceCtorEq,zA]
  simp only [go_sem,zAj,zX,zB,zD,zC,reduceIte,reduceCtorEq,zA]
  refine cp n88 (rin_pc _ _ _) (SubL.refl _) ?_
  cases h10:inB x.off 0 50
  ·rw [hany (by rw [hb,h10];simp)]
   simp only [go_sem,zAj,qF,Tryz.f96,zB,zD,zC,reduceIte,reduceCtorEq,zA]
  simp only [go_sem,zAj,zX,h4,zB,zD,zC,reduceIte,reduceCtorEq,zA]
  exact hI (hnx (by rw [hb,h6,h7,h9,h10,decide_eq_true h8];rfl)) [_]
 ·have h1:¬ (k:Int)<s.sights.length:=by omega
  have ht:(!s.sights.any (badSgt s))=true:=by
   rw [Bool.not_eq_true',List.any_eq_false]
   intro x hx
   obtain ⟨i,hi,rfl⟩:=List.mem_iff_getElem.1 hx
   rw [hP i (by omega) hi];decide
  simp only [go_sem,l96_0,zAa,h1,decide_false,Tryz.f96,zB,zD,zC,reduceIte,reduceCtorEq,zA]
  rw [ht]
theorem rSurvey_pc (s:Survey) (hl:okL s.sights.length):PC Tryz.prog 33 [surA s] (.pure (.bool (zAo s))):=by
 refine PC.of_empty (AC.run (E_ok _) mix Tryz.func33 m33 rfl rfl rfl (zE rfl) ?_) (by simp [bndL,AV.bnd]) rfl
 unfold zAo
 simp only [go_sem,boxA,zB,zD,zC,reduceIte,reduceCtorEq,zA]
 refine cp n88 (rin_pc _ _ _) (SubL.refl _) ?_
 cases h1:inB s.stations 2 8
 ·simp only [go_sem,Tryz.f33,zB,zD,zC,reduceIte,reduceCtorEq,zA]
  rfl
 by_cases h2:(s.sights.length:Int)≤14
 rotate_left
 ·simp only [go_sem,zAa,h2,decide_false,Tryz.f33,zB,zD,zC,reduceIte,reduceCtorEq,zA]
  rfl
 simp only [go_sem,zAa,h2,decide_true,zB,zD,zC,reduceIte,reduceCtorEq,zA]
 refine cp n96 (rsights_pc s (by omega)) (SubL.refl _) ?_
 simp only [go_sem,Tryz.f33,zB,zD,zC,reduceIte,reduceCtorEq,zA]
 rfl
structure HsOk (n:Int) (hs:List Int):Prop where
 len:(hs.length:Int)=n
 bd:∀ h∈hs,-20000≤h∧h≤20000
theorem HsOk.at {n:Int} {hs:List Int} (h:HsOk n hs) (i:Nat):-20000≤hs.getD i 0∧hs.getD i 0≤20000:=by
 rw [zI]
 cases hx:hs[i]? with
 | none=>simp
 | some g=>exact h.bd g (yV hx)
end Go.Av.Fx
end
section
namespace Go.Av.Fx
open Go Go.Av Go.Av.Tb Go.Proofs
open Go.Lv (Sight Survey Sw Sv SightOk)
open Go.Fw (Sq ent Bd Mat)
def sB (x:Sight):List Bound:=[⟨x.frm,x.to,IntKind.i64.wrap (x.rise+x.off)⟩,⟨x.to,x.frm,IntKind.i64.wrap (x.off - x.rise)⟩]
theorem zDq (x:Sight):PC Tryz.prog 91 [.agg (sgtC x)] (.pure (.slice (bnds (sB x)) 2 .exact)):=by
 refine PC.of_empty (AC.run (E_ok _) mix Tryz.func91 m91 rfl rfl rfl (zE rfl) ?_) (by simp [bndL,AV.bnd]) (by simp [AV.bnd])
 simp only [go_sem,boxA,Tryz.f91,zB,zD,zC,reduceIte,reduceCtorEq,zA]
 rfl
theorem sB_eq {n:Int} {x:Sight} (h:SightOk n x):(sB x).map bd=Lv.sightB x:=by
 have h1:=h.rise;have h2:=h.off
 have w1:IntKind.i64.wrap (x.rise+x.off)=x.rise+x.off:=wrap64 (by omega)
 have w2:IntKind.i64.wrap (x.off - x.rise)=x.off - x.rise:=wrap64 (by omega)
 simp only [sB,w1,w2];rfl
def sumF (acc:Int):List Int→Int
 | []=>acc
 | x :: l=>if x ≥ far then far else sumF (IntKind.i64.wrap (acc+x)) l
theorem sum_pc' (l:List Int) (hl:okL l.length):PC Tryz.prog 151 [sl l] (.pure (.int .i64 (sumF 0 l))):=by
 refine PC.of_empty (AC.run (E_ok _) mix Tryz.func151 m151 rfl rfl rfl (zE rfl) ?_) (by simp [bndL,AV.bnd]) rfl
 generalize hz:sumF 0 l=z
 simp only [go_sem,zAa,zB,zD,zC,reduceIte,reduceCtorEq,zA]
 refine zAv (fun m ts' S' => ∃ k acc,k≤l.length∧m=l.length - k∧sumF acc (l.drop k)=z∧ts'=[(3,.int .i64 acc),(6,sl l),(7,.int .i64 l.length),(8,.int .i64 k)]∧S'=St.empty) l.length ⟨0,0,qH _,rfl,hz,rfl,rfl⟩ ?_
 rintro m ts' S' ⟨k,acc,hk,rfl,hs,rfl,rfl⟩
 by_cases h:k<l.length
 ·have h1:(k:Int)<l.length:=by omega
  have h2:0≤(k:Int)∧(k:Int)<l.length:=by omega
  have h3:l[k]? = some l[k]:=zF h
  have h4:IntKind.i64.wrap ((k:Int)+1)=(k+1:Nat):=wrap64 (by unfold okL at hl;omega)
  rw [List.drop_eq_getElem_cons h] at hs
  unfold sumF at hs
  by_cases g:l[k] ≥ far
  ·rw [if_pos g] at hs
   have g':l[k] ≥ 1099511627776:=g
   simp only [go_sem,l151_0,h1,decide_true,h2,ints_get,h3,zY,zAg,zB,zD,zC,reduceIte,reduceCtorEq,zA]
   simp only [go_sem,g',decide_true,Tryz.f151,zB,zD,zC,reduceIte,reduceCtorEq,zA]
   rw [← hs];rfl
  ·rw [if_neg g] at hs
   have g':¬ l[k] ≥ 1099511627776:=g
   simp only [go_sem,l151_0,h1,decide_true,h2,ints_get,h3,zY,zAg,zB,zD,zC,reduceIte,reduceCtorEq,zA]
   simp only [go_sem,g',decide_false,h4,zB,zD,zC,reduceIte,reduceCtorEq,zA]
   exact zAi (l.length - (k+1)) (by omega) ⟨k+1,_,h,rfl,hs,rfl,rfl⟩
 ·have h1:¬ (k:Int)<l.length:=by omega
  rw [List.drop_of_length_le (by omega)] at hs
  unfold sumF at hs
  simp only [go_sem,l151_0,h1,decide_false,Tryz.f151,zB,zD,zC,reduceIte,reduceCtorEq,zA]
  rw [hs]
def MoreA (ds:List Bound) (M:AV) (S:St) (N:Nat):Prop:=(M=.nilS∧ds=[]) ∨ ∃ k,M=.slice (bnds ds) ds.length (.tok k)∧k∈S.toks∧k<N
theorem MoreA.app {ds l:List Bound} {M:AV} {S:St} {N:Nat} (h:MoreA ds M S N) (hN:N≤S.nt) (hl:l≠[]) (hlen:ds.length+l.length≤1000000) {tl:Tail} {K:AV→St→Prop} {hK:Hold K} (next:∀ M' toks,MoreA (ds ++ l) M' ⟨S.heap,S.nt+1,toks⟩ (S.nt+1)→K M' ⟨S.heap,S.nt+1,toks⟩) :
  sr K hK (appendA T S 138 M (.slice (bnds l) l.length tl)) S:=by
 have hp:l.length≠0:=fun e=>hl (List.length_eq_zero_iff.1 e)
 rcases h with ⟨rfl,rfl⟩ | ⟨k,rfl,hk,hkN⟩
 ·have:appendA T S 138 .nilS (.slice (bnds l) l.length tl)=some (.tok none fun j=>.slice (bnds l) l.length (.tok j)):=by
   unfold appendA
   rw [show descOf T 138=some (.slice 150) from rfl]
   simp only [show T 150=some ti150 from rfl]
   rw [if_neg (by decide)]
   have hh:heldA S ti150.size (.slice (bnds l) l.length tl)=some (bnds l,l.length):=by
    unfold heldA
    simp [show ti150.size=3 from rfl,Nat.mul_comm]
   rw [hh]
   simp only [if_neg hp,bnds_one,zX,zT,if_false]
   have hb:ti150.bytes=24:=rfl
   rw [if_pos ⟨by rw [hb];simp at hlen;omega,by simp at hlen;omega⟩]
  rw [this,sr_tok]
  exact next _ _ (.inr ⟨S.nt,rfl,zP,Nat.lt_succ_self _⟩)
 ·rw [zCq (e:=150) (ei:=ti150) (lx:=bnds l) (nx:=l.length) rfl rfl (by decide) (by unfold heldA;simp [show ti150.size=3 from rfl,Nat.mul_comm]) hp (bnds_one l) (by rw [show ti150.bytes=24 from rfl];omega) (by omega) (by rw [bnds_len,show ti150.size=3 from rfl];omega)]
  rw [zBv]
  refine ⟨hk, ?_⟩
  rw [bnds_app,← qD]
  exact next _ _ (.inr ⟨S.nt,rfl,zP,Nat.lt_succ_self _⟩)
theorem MoreA.mono {ds:List Bound} {M:AV} {S S':St} {N N':Nat} (h:MoreA ds M S N) (ht:∀ k∈S.toks,k<N→k∈S'.toks) (hN:N≤N'):MoreA ds M S' N':=by
 rcases h with h | ⟨k,h1,h2,h3⟩
 ·exact .inl h
 ·exact .inr ⟨k,h1,ht k h2 h3,by omega⟩
end Go.Av.Fx
end

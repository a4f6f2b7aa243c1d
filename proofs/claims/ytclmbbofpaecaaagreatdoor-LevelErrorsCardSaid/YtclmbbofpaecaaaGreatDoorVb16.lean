/- Part 16 of the proof. -/
import Derived.Test.YtclmbbofpaecaaaGreatDoorVb15
set_option linter.all false
set_option linter.unusedVariables false
set_option linter.unusedSimpArgs false
set_option linter.unusedSectionVars false
open Bool renaming and_eq_true → zT, not_eq_true' → yY
open Int renaming mul_le_mul_of_nonneg_right → qO, toNat_natCast → qQ, le_refl → qW, mul_assoc → yD, mul_nonneg → yH, le_trans → yU
open List renaming getElem?_eq_getElem → zF, getD_eq_getElem?_getD → zG, mem_cons_self → zP, mem_cons_of_mem → zQ, getElem?_append_right → zS, length_append → zX, length_cons → qA, getElem?_append_left → qF, map_append → qN, nil_append → qS, not_mem_nil → yA, all_eq_true → yI, mem_cons → yJ, length_map → yK, mem_singleton → yO, append_nil → yR, map_cons → yX
open Nat renaming le_refl → zN, zero_le → qH, not_lt_zero → qT
open Option.some renaming injEq → xA
section
namespace Go.Lv
open Go.Fw Go.Wk
def bgS (s:Survey) (x:Stp):Int:=if x.back=true then (sightAt s x.sight).to else (sightAt s x.sight).frm
def enS (s:Survey) (x:Stp):Int:=if x.back=true then (sightAt s x.sight).frm else (sightAt s x.sight).to
def stpD:Stp:=⟨0,false⟩
def chainB (s:Survey) (l:List Stp):Bool:=(List.range l.length).all fun i=>(decide (i=0) || decide (bgS s (l.getD i stpD)=enS s (l.getD (i - 1) stpD))) && (List.range i).all fun k => !decide (enS s (l.getD k stpD)=enS s (l.getD i stpD))
def closedB (s:Survey) (l:List Stp):Bool:=decide (l.length > 1) && (chainB s l && decide (bgS s (l.getD 0 stpD)=enS s (l.getD (l.length - 1) stpD)))
theorem zBt {s:Survey} (h:Sw s) (p q:Sight→Int) {x:Stp} (hx:0≤x.sight∧x.sight<s.sights.length):((stepG p q s x).a:Int)=bgS s x∧((stepG p q s x).b:Int)=enS s x:=by
 have hs:=h.sights _ (sight_mem hx)
 have h1:=hs.frm;have h2:=hs.to
 unfold stepG bgS enS
 cases x.back
 ·exact ⟨by show (((sightAt s x.sight).frm.toNat:Nat):Int)=(sightAt s x.sight).frm;omega,by show (((sightAt s x.sight).to.toNat:Nat):Int)=(sightAt s x.sight).to;omega⟩
 ·exact ⟨by show (((sightAt s x.sight).to.toNat:Nat):Int)=(sightAt s x.sight).to;omega,by show (((sightAt s x.sight).frm.toNat:Nat):Int)=(sightAt s x.sight).frm;omega⟩
def Lnk (s:Survey):List Stp→Prop
 | x :: y :: l=>bgS s y=enS s x∧Lnk s (y :: l)
 | _=>True
theorem lnk_iff {s:Survey}:∀ {l:List Stp},Lnk s l ↔ ∀ i,0<i→i<l.length→bgS s (l.getD i stpD)=enS s (l.getD (i - 1) stpD)
 | []=>⟨fun _ i _ h2=>absurd h2 (qT _),fun _=>trivial⟩
 | [x]=>⟨fun _ i h1 h2=>by simp at h2;omega,fun _=>trivial⟩
 | x :: y :: l=>by
  show (bgS s y=enS s x∧Lnk s (y :: l))↔_
  rw [lnk_iff (l:=y :: l)]
  constructor
  ·rintro ⟨h1,h2⟩ i hi hl
   match i,hi with
   | 1,_=>exact h1
   | i+2,_=>exact h2 (i+1) (by omega) (by simp at hl ⊢;omega)
  ·intro h
   exact ⟨h 1 (by decide) (by simp),fun i hi hl=>h (i+1) (by omega) (by simp at hl ⊢;omega) |>.trans (by
    obtain ⟨k,rfl⟩:∃ k,i=k+1:=⟨i - 1,by omega⟩
    rfl)⟩
theorem lnk_pth {s:Survey} (h:Sw s) (p q:Sight→Int):∀ {l:List Stp} {x:Stp},StepsIn s (x :: l)→(Lnk s (x :: l) ↔ ∃ v,Pth (stepG p q s) (stepG p q s x).a (x :: l) v)
 | [],x,_=>⟨fun _=>⟨_,rfl,rfl⟩,fun _=>trivial⟩
 | y :: l,x,hl=>by
  have ih:=lnk_pth h p q (l:=l) (x:=y) fun z hz=>hl z (zQ _ hz)
  have e1:=zBt h p q (hl x zP)
  have e2:=zBt h p q (hl y (zQ _ zP))
  show (bgS s y=enS s x∧Lnk s (y :: l))↔_
  rw [ih]
  constructor
  ·rintro ⟨h1,v,h2⟩
   have:(stepG p q s y).a=(stepG p q s x).b:=by omega
   exact ⟨v,rfl,by rw [← this];exact h2⟩
  ·rintro ⟨v,_,h2⟩
   have e:(stepG p q s y).a=(stepG p q s x).b:=h2.1
   exact ⟨by omega,v,by rw [e];exact h2⟩
theorem nodup_idx {α:Type} [DecidableEq α] (g:Stp→α):∀ {l:List Stp},(l.map g).Nodup ↔ ∀ i,i<l.length → ∀ k,k<i→g (l.getD k stpD)≠g (l.getD i stpD):=by
 intro l
 unfold List.Nodup
 rw [List.pairwise_iff_getElem]
 simp only [yK,List.getElem_map]
 constructor
 ·intro h i hi k hk
  have:=h k i (by omega) hi hk
  rw [zG,zG,zF hi,zF (by omega:k<l.length)]
  exact this
 ·intro h k i hk hi hki
  have:=h i hi k hki
  rw [zG,zG,zF hi,zF hk] at this
  exact this
theorem zBu {s:Survey} {l:List Stp}:chainB s l=true↔Lnk s l∧(l.map (enS s)).Nodup:=by
 unfold chainB
 rw [lnk_iff,nodup_idx,yI]
 simp only [List.mem_range,zT,Bool.or_eq_true,decide_eq_true_eq,yI,yY,decide_eq_false_iff_not]
 constructor
 ·intro h
  exact ⟨fun i hi hl=>(h i hl).1.resolve_left (by omega),fun i hi k hk=>(h i hi).2 k hk⟩
 ·rintro ⟨h1,h2⟩ i hi
  refine ⟨?_,fun k hk=>h2 i hi k hk⟩
  by_cases e:i=0
  ·exact .inl e
  ·exact .inr (h1 i (by omega) hi)
theorem nodup_nat {s:Survey} (h:Sw s) (p q:Sight→Int):∀ {l:List Stp},StepsIn s l→((l.map fun x=>(stepG p q s x).b).Nodup↔(l.map (enS s)).Nodup):=by
 intro l hl
 have e:l.map (enS s)=(l.map fun x=>(stepG p q s x).b).map fun n:Nat=>(n:Int):=by
  rw [List.map_map]
  refine List.map_congr_left fun x hx => ?_
  exact ((zBt h p q (hl x hx)).2).symm
 rw [e]
 generalize l.map (fun x=>(stepG p q s x).b)=m
 induction m with
 | nil=>simp
 | cons a m ih =>
  rw [yX,List.nodup_cons,List.nodup_cons]
  refine and_congr (not_congr ⟨fun hm=>List.mem_map.2 ⟨a,hm,rfl⟩,fun hm => ?_⟩) ih
  obtain ⟨b,hb,eb⟩:=List.mem_map.1 hm
  have:b=a:=by omega
  rw [← this];exact hb
theorem zDk {s:Survey} (h:Sw s) (p q:Sight→Int) {l:List Stp} (hl:StepsIn s l):closedB s l=true↔Simple (stepG p q s) l:=by
 unfold closedB
 rw [zT,zT,zBu,decide_eq_true_iff,decide_eq_true_iff]
 constructor
 ·rintro ⟨h1,⟨h2,h3⟩,h4⟩
  match l,h1 with
  | x :: l,h1 =>
   obtain ⟨v,hv⟩:=(lnk_pth h p q hl).1 h2
   refine ⟨List.cons_ne_nil _ _,⟨(stepG p q s x).a, ?_⟩,(nodup_nat h p q hl).2 h3⟩
   have hlast:∃ m y,x :: l=m ++ [y]:=by
    rcases List.eq_nil_or_concat (x :: l) with e | ⟨m,y,e⟩
    ·cases e
    ·exact ⟨m,y,by rw [e,List.concat_eq_append]⟩
   obtain ⟨m,y,e⟩:=hlast
   rw [e] at hv h4 hl ⊢
   have e1:=zCk hv
   have e2:=zBt h p q (hl y (by simp))
   have e3:enS s ((m ++ [y]).getD ((m ++ [y]).length - 1) stpD)=enS s y:=by
    rw [zG];simp
   rw [e3] at h4
   have e4:(m ++ [y]).getD 0 stpD=x:=by rw [← e];rfl
   rw [e4] at h4
   have e5:=zBt h p q (hl x (by rw [← e];exact zP))
   have:v=(stepG p q s x).a:=by omega
   rw [← this] at hv ⊢
   exact hv
 ·intro hs
  have h2:=hs.two fun x hx=>by
   have:=(zDu h (hl x hx)).1
   have e1:=zBt h p q (hl x hx)
   have e2:=zBt h upS downS (hl x hx)
   intro e
   apply this
   show (stepG upS downS s x).a=(stepG upS downS s x).b
   omega
  obtain ⟨_,⟨u,hu⟩,h3⟩:=hs
  match l,h2 with
  | x :: l,h2 =>
   have eu:(stepG p q s x).a=u:=hu.1
   refine ⟨h2,⟨(lnk_pth h p q hl).2 ⟨u,by rw [eu];exact hu⟩,(nodup_nat h p q hl).1 h3⟩, ?_⟩
   obtain ⟨m,y,e⟩:∃ m y,x :: l=m ++ [y]:=by
    rcases List.eq_nil_or_concat (x :: l) with e | ⟨m,y,e⟩
    ·cases e
    ·exact ⟨m,y,by rw [e,List.concat_eq_append]⟩
   have ex:=zBt h p q (hl x zP)
   have e0:(x :: l).getD 0 stpD=x:=rfl
   rw [e0]
   rw [e] at hu hl ⊢
   have e1:=zCk hu
   have e2:=zBt h p q (hl y (by simp))
   have e3:enS s ((m ++ [y]).getD ((m ++ [y]).length - 1) stpD)=enS s y:=by
    rw [zG];simp
   rw [e3];omega
def riseS (s:Survey) (x:Stp):Int:=if x.back=true then -(sightAt s x.sight).rise else (sightAt s x.sight).rise
theorem zFg (s:Survey) (x:Stp):-(stepR s x).m=riseS s x:=by
 unfold stepR stepG riseS
 cases x.back
 ·show - -(sightAt s x.sight).rise=_;simp
 ·rfl
theorem rise_snoc (s:Survey) (l:List Stp) (x:Stp):riseL s (l ++ [x])=riseL s l+riseS s x:=by
 rw [zEk,← zFg]
 show _ + -((stepR s x).m+0)=_
 omega
def stpAt (i:Nat):Stp:=⟨(i / 2:Nat),decide (i % 2=1)⟩
theorem stpAt_all {s:Survey} {x:Stp} (h:0≤x.sight∧x.sight<s.sights.length):∃ i,i<2 * s.sights.length∧stpAt i=x:=by
 obtain ⟨n,b⟩:=x
 have h1:0≤n∧n<s.sights.length:=h
 cases b with
 | false =>
  refine ⟨2 * n.toNat,by omega, ?_⟩
  unfold stpAt
  rw [show 2 * n.toNat / 2=n.toNat by omega,show 2 * n.toNat % 2=0 by omega]
  simp;omega
 | true =>
  refine ⟨2 * n.toNat+1,by omega, ?_⟩
  unfold stpAt
  rw [show (2 * n.toNat+1) / 2=n.toNat by omega,show (2 * n.toNat+1) % 2=1 by omega]
  simp;omega
theorem stpAt_in {s:Survey} {i:Nat} (h:i<2 * s.sights.length):0≤(stpAt i).sight∧(stpAt i).sight<s.sights.length:=by
 unfold stpAt
 exact ⟨by show (0:Int)≤((i / 2:Nat):Int);omega,by show ((i / 2:Nat):Int)<_;omega⟩
def goesB (s:Survey) (now:List Stp) (x:Stp):Bool:=chainB s (now ++ [x]) && decide (enS s x ≥ bgS s ((now ++ [x]).getD 0 stpD))
def greater (than:Int × Int) (sum n:Int):Int × Int:=if sum * than.2 > than.1 * n then (sum,n) else than
def worstF (s:Survey):Nat→List Stp→Int→Int × Int→Int × Int
 | 0,now,sum,than=>if closedB s now=true then greater than sum now.length else than
 | f+1,now,sum,than=>if closedB s now=true then greater than sum now.length else
  (List.range (2 * s.sights.length)).foldl (fun out i=>if goesB s now (stpAt i)=true then worstF s f (now ++ [stpAt i]) (sum+riseS s (stpAt i)) out else out) than
structure FrQ (s:Survey) (o:Int × Int):Prop where
 den:0<o.2∧o.2≤num s
 num0:0≤o.1∧o.1≤1000 * o.2
 met:o.1=0 ∨ ∃ l,StepsIn s l∧l≠[]∧(∃ u,Pth (stepR s) u l u)∧riseL s l * o.2=o.1 * l.length
abbrev Ge (o o':Int × Int):Prop:=o.1 * o'.2≤o'.1 * o.2
theorem ge_trans {a b c:Int × Int} (hb:0<b.2) (ha:0≤a.2) (hc:0≤c.2) (h1:Ge a b) (h2:Ge b c):Ge a c:=
 zDi (t:=a.1) (P:=b.2) (p:=b.1) (m:=a.2) (l:=c.1) (L:=c.2) hb ha hc h1 h2
theorem ge_le {o o':Int × Int} {v n:Int} (ho:0<o.2) (ho':0≤o'.2) (hn:0≤n) (h:Ge o o') (hv:v * o.2≤o.1 * n):v * o'.2≤o'.1 * n:=
 zDi (t:=v) (P:=o.2) (p:=o.1) (m:=n) (l:=o'.1) (L:=o'.2) ho hn ho' hv h
theorem greater_ok {s:Survey} (h:Sw s) {than:Int × Int} (ht:FrQ s than) {now:List Stp} (hn:StepsIn s now) (hc:Simple (stepR s) now):FrQ s (greater than (riseL s now) now.length)∧Ge than (greater than (riseL s now) now.length)∧riseL s now * (greater than (riseL s now) now.length).2≤(greater than (riseL s now) now.length).1 * now.length:=by
 have hlen:now.length≤num s:=(zEu hc:Simple (stepB s) now).short fun x hx=>(zDu h (hn x hx)).2.2
 have hpos:=List.length_pos_iff.2 hc.ne
 have bd:=rise_bd h hn
 obtain ⟨d1,d2⟩:=ht.den
 unfold greater
 by_cases g:riseL s now * than.2 > than.1 * now.length
 ·rw [if_pos g]
  have hp:0≤than.1 * now.length:=yH ht.num0.1 (by omega)
  have hv0:0<riseL s now:=by
   refine Int.not_le.1 fun hle => ?_
   have:=qO hle (Int.le_of_lt d1)
   rw [Int.zero_mul] at this
   omega
  refine ⟨⟨⟨by show (0:Int)<now.length;omega,by show (now.length:Int)≤_;omega⟩,⟨by show 0≤riseL s now;omega,bd.2⟩,.inr ⟨now,hn,hc.ne,hc.closed,rfl⟩⟩, ?_,qW _⟩
  show than.1 * now.length≤riseL s now * than.2
  omega
 ·rw [if_neg g]
  exact ⟨ht,qW _,Int.not_lt.1 g⟩
theorem zBv {A B:List Stp} {j:Nat} (h:j<A.length):(A ++ B).getD j stpD=A.getD j stpD:=by
 rw [zG,qF h,← zG]
theorem worst_ok {s:Survey} (h:Sw s):∀ (f:Nat) (now:List Stp) (than:Int × Int),StepsIn s now→FrQ s than →
  FrQ s (worstF s f now (riseL s now) than)∧Ge than (worstF s f now (riseL s now) than) ∧
  ∀ ext,StepsIn s ext→Simple (stepR s) (now ++ ext)→ext.length≤f→(∀ x∈ext,enS s x ≥ bgS s ((now ++ ext).getD 0 stpD)) →
   riseL s (now ++ ext) * (worstF s f now (riseL s now) than).2≤(worstF s f now (riseL s now) than).1 * (now ++ ext).length:=by
 intro f
 induction f with
 | zero =>
  intro now than hn ht
  unfold worstF
  by_cases hc:closedB s now=true
  ·rw [if_pos hc]
   have hs:=(zDk h (fun y => -y.rise) (fun y=>y.rise) hn).1 hc
   obtain ⟨g1,g2,g3⟩:=greater_ok h ht hn hs
   refine ⟨g1,g2,fun ext _ _ he _ => ?_⟩
   have:ext=[]:=List.length_eq_zero_iff.1 (by omega)
   subst this
   rw [yR];exact g3
  ·rw [if_neg hc]
   refine ⟨ht,qW _,fun ext he1 he2 he _ => ?_⟩
   have:ext=[]:=List.length_eq_zero_iff.1 (by omega)
   subst this
   rw [yR] at he2
   exact absurd ((zDk h (fun y => -y.rise) (fun y=>y.rise) hn).2 he2) hc
 | succ f ih =>
  intro now than hn ht
  unfold worstF
  by_cases hc:closedB s now=true
  ·rw [if_pos hc]
   have hs:=(zDk h (fun y => -y.rise) (fun y=>y.rise) hn).1 hc
   obtain ⟨g1,g2,g3⟩:=greater_ok h ht hn hs
   refine ⟨g1,g2,fun ext he1 he2 he _ => ?_⟩
   cases ext with
   | nil=>rw [yR];exact g3
   | cons x ext =>
    exfalso
    obtain ⟨u,hu⟩:=hs.closed
    obtain ⟨w,hw⟩:=he2.closed
    obtain ⟨v,p1,p2⟩:=zBh.1 hw
    have euw:u=w:=by
     match now,hs.ne,hu,p1 with
     | y :: now,_,hu,p1=>exact hu.1.symm.trans p1.1
    subst euw
    have ev:v=u:=pth_fun p1 hu
    subst ev
    obtain ⟨m,y,e⟩:∃ m y,x :: ext=m ++ [y]:=by
     rcases List.eq_nil_or_concat (x :: ext) with e | ⟨m,y,e⟩
     ·cases e
     ·exact ⟨m,y,by rw [e,List.concat_eq_append]⟩
    obtain ⟨m2,y2,e2⟩:∃ m y,now=m ++ [y]:=by
     rcases List.eq_nil_or_concat now with e | ⟨m,y,e⟩
     ·exact absurd e hs.ne
     ·exact ⟨m,y,by rw [e,List.concat_eq_append]⟩
    have hon:=he2.once
    rw [e,e2] at hon
    rw [e] at p2
    rw [e2] at p1
    have l1:=zCk p2
    have l2:=zCk p1
    rw [qN,List.nodup_append] at hon
    exact hon.2.2 (stepR s y2).b (by simp) (stepR s y).b (by simp) (by omega)
  ·rw [if_neg hc]
   have key:=fold_ind (fun i out=>FrQ s out∧Ge than out ∧ ∀ ext,StepsIn s ext→Simple (stepR s) (now ++ ext)→ext.length≤f+1→(∀ x∈ext,enS s x ≥ bgS s ((now ++ ext).getD 0 stpD))→(∃ k,k<i∧ext.head? = some (stpAt k)) →
     riseL s (now ++ ext) * out.2≤out.1 * (now ++ ext).length)
    (fun out i=>if goesB s now (stpAt i)=true then worstF s f (now ++ [stpAt i]) (riseL s now+riseS s (stpAt i)) out else out) than (2 * s.sights.length)
    ⟨ht,qW _,fun ext _ _ _ _ ⟨k,hk,_⟩=>absurd hk (qT _)⟩ ?_
   ·refine ⟨key.1,key.2.1,fun ext he1 he2 he he3 => ?_⟩
    cases ext with
    | nil =>
     rw [yR] at he2
     exact absurd ((zDk h (fun y => -y.rise) (fun y=>y.rise) hn).2 he2) hc
    | cons x ext =>
     obtain ⟨i,hi,ei⟩:=stpAt_all (he1 x zP)
     exact key.2.2 (x :: ext) he1 he2 he he3 ⟨i,hi,by rw [ei];rfl⟩
   ·rintro i hi out ⟨o1,o2,o3⟩
    have hxi:=stpAt_in hi
    by_cases g:goesB s now (stpAt i)=true
    ·rw [if_pos g]
     have hn':StepsIn s (now ++ [stpAt i]):=fun y hy=>by
      rcases List.mem_append.1 hy with hy | hy
      ·exact hn y hy
      ·rw [yO] at hy;subst hy;exact hxi
     have:=ih (now ++ [stpAt i]) out hn' o1
     rw [rise_snoc] at this
     obtain ⟨r1,r2,r3⟩:=this
     refine ⟨r1,ge_trans o1.den.1 (by have:=ht.den.1;omega) (by have:=r1.den.1;omega) o2 r2,fun ext he1 he2 he he3 ⟨k,hk,hh⟩ => ?_⟩
     by_cases e:k=i
     ·subst e
      cases ext with
      | nil=>cases hh
      | cons x ext =>
       simp only [List.head?_cons,xA] at hh
       subst hh
       have e2:now ++ stpAt k :: ext=(now ++ [stpAt k]) ++ ext:=by simp
       rw [e2] at he2 he3 ⊢
       exact r3 ext (fun y hy=>he1 y (zQ _ hy)) he2 (by simp at he;omega) fun y hy=>he3 y (zQ _ hy)
     ·exact ge_le o1.den.1 (by have:=r1.den.1;omega) (by omega) r2 (o3 ext he1 he2 he he3 ⟨k,by omega,hh⟩)
    ·rw [if_neg g]
     refine ⟨o1,o2,fun ext he1 he2 he he3 ⟨k,hk,hh⟩ => ?_⟩
     by_cases e:k=i
     ·subst e
      exfalso
      cases ext with
      | nil=>cases hh
      | cons x ext =>
       simp only [List.head?_cons,xA] at hh
       subst hh
       apply g
       have hall:StepsIn s (now ++ stpAt k :: ext):=fun y hy=>by
        rcases List.mem_append.1 hy with hy | hy
        ·exact hn y hy
        ·exact he1 y hy
       have hcl:=(zDk h (fun y => -y.rise) (fun y=>y.rise) hall).2 he2
       unfold closedB at hcl
       rw [zT,zT,zBu] at hcl
       obtain ⟨_,⟨c1,c2⟩,_⟩:=hcl
       unfold goesB
       rw [zT,zBu,decide_eq_true_iff]
       have e2:now ++ stpAt k :: ext=(now ++ [stpAt k]) ++ ext:=by simp
       refine ⟨⟨?_, ?_⟩, ?_⟩
       ·rw [lnk_iff] at c1 ⊢
        intro j hj hl
        have hl':j<(now ++ stpAt k :: ext).length:=by rw [e2,zX];omega
        have:=c1 j hj hl'
        rw [e2,zBv hl,zBv (A:=now ++ [stpAt k]) (B:=ext) (j:=j - 1) (by omega)] at this
        exact this
       ·rw [e2,qN,List.nodup_append] at c2
        exact c2.1
       ·have:=he3 (stpAt k) zP
        have e3:(now ++ [stpAt k]).getD 0 stpD=(now ++ stpAt k :: ext).getD 0 stpD:=by
         rw [e2,zBv (A:=now ++ [stpAt k]) (B:=ext) (by simp)]
        rw [e3];exact this
     ·exact o3 ext he1 he2 he he3 ⟨k,by omega,hh⟩
theorem least_of (g:Stp→Int):∀ {l:List Stp},l≠[] → ∃ x∈l,∀ y∈l,g x≤g y
 | [],h=>absurd rfl h
 | [x],_=>⟨x,zP,fun y hy=>by rw [yO] at hy;subst hy;exact qW _⟩
 | x :: y :: l,_=>by
  obtain ⟨z,hz,hm⟩:=least_of g (l:=y :: l) (List.cons_ne_nil _ _)
  rcases Int.le_total (g x) (g z) with q | q
  ·exact ⟨x,zP,fun w hw=>by
    rcases List.mem_cons.1 hw with rfl | hw
    ·exact qW _
    ·have:=hm w hw;omega⟩
  ·exact ⟨z,zQ _ hz,fun w hw=>by
    rcases List.mem_cons.1 hw with rfl | hw
    ·exact q
    ·exact hm w hw⟩
theorem worst_err {s:Survey} (h:Sw s):ErrP s (worstF s (num s) [] 0 (0,1)).1 (worstF s (num s) [] 0 (0,1)).2∧FrQ s (worstF s (num s) [] 0 (0,1)):=by
 have hst:=h.st
 have start:FrQ s (0,1):=⟨⟨by show (0:Int)<1;decide,by show (1:Int)≤((s.stations.toNat:Nat):Int);omega⟩,⟨qW _,by show (0:Int)≤1000 * 1;decide⟩,.inl rfl⟩
 obtain ⟨r1,r2,r3⟩:=worst_ok h (num s) [] (0,1) (fun x hx=>by cases hx) start
 have e0:riseL s []=0:=rfl
 rw [e0] at r1 r2 r3
 refine ⟨⟨r1.den.1,r1.num0.1,fun l hl hs => ?_,r1.met⟩,r1⟩
 obtain ⟨x,hx,hmin⟩:=least_of (enS s) hs.ne
 obtain ⟨A,B,rfl⟩:=List.append_of_mem hx
 have e1:A ++ x :: B=(A ++ [x]) ++ B:=by simp
 obtain ⟨u,hu⟩:=hs.closed
 rw [e1] at hu
 obtain ⟨w,p1,p2⟩:=zBh.1 hu
 have hw:=zCk p1
 have hp:Pth (stepR s) w (B ++ (A ++ [x])) w:=zBh.2 ⟨u,p2,p1⟩
 have perm:(B ++ (A ++ [x])).Perm (A ++ x :: B):=by rw [e1];exact List.perm_append_comm
 have hl2:StepsIn s (B ++ (A ++ [x])):=fun y hy=>hl y (perm.mem_iff.1 hy)
 have hs2:Simple (stepR s) (B ++ (A ++ [x])):=⟨by simp,⟨w,hp⟩,(perm.map _).nodup_iff.2 hs.once⟩
 have hlen:(B ++ (A ++ [x])).length≤num s:=(zEu hs2:Simple (stepB s) _).short fun y hy=>(zDu h (hl2 y hy)).2.2
 have hfirst:bgS s ((B ++ (A ++ [x])).getD 0 stpD)=enS s x:=by
  have e2:=zBt h (fun y => -y.rise) (fun y=>y.rise) (hl x hx)
  obtain ⟨y,m,e⟩:∃ y m,B ++ (A ++ [x])=y :: m:=by
   cases hb:B ++ (A ++ [x]) with
   | nil=>simp at hb
   | cons y m=>exact ⟨y,m,rfl⟩
  rw [e] at hp hl2 ⊢
  have e3:(stepR s y).a=w:=hp.1
  have e4:=zBt h (fun y => -y.rise) (fun y=>y.rise) (hl2 y zP)
  show bgS s y=enS s x
  have e5:((stepR s y).a:Int)=bgS s y:=e4.1
  have e6:((stepR s x).b:Int)=enS s x:=e2.2
  omega
 have:=r3 (B ++ (A ++ [x])) hl2 hs2 hlen fun y hy=>by
  rw [qS,hfirst]
  exact hmin y (perm.mem_iff.1 hy)
 rw [qS] at this
 have er:riseL s (B ++ (A ++ [x]))=riseL s (A ++ x :: B):=by
  rw [e1,zEk s B,zEk s (A ++ [x]) B];omega
 rw [er,perm.length_eq] at this
 exact this
def redF (o:Int × Int):Int × Int:=(((o.1.toNat / Nat.gcd o.1.toNat o.2.toNat:Nat):Int),((o.2.toNat / Nat.gcd o.1.toNat o.2.toNat:Nat):Int))
theorem red_nat {a b c d:Nat} (hb:0<b) (hd:0<d) (h:a * d=c * b):a / Nat.gcd a b=c / Nat.gcd c d∧b / Nat.gcd a b=d / Nat.gcd c d:=by
 have g1:0<Nat.gcd a b:=Nat.gcd_pos_of_pos_right a hb
 have g2:0<Nat.gcd c d:=Nat.gcd_pos_of_pos_right c hd
 have c1:Nat.Coprime (a / Nat.gcd a b) (b / Nat.gcd a b):=Nat.coprime_div_gcd_div_gcd g1
 have c2:Nat.Coprime (c / Nat.gcd c d) (d / Nat.gcd c d):=Nat.coprime_div_gcd_div_gcd g2
 have ea:a=Nat.gcd a b * (a / Nat.gcd a b):=(Nat.mul_div_cancel' (Nat.gcd_dvd_left a b)).symm
 have eb:b=Nat.gcd a b * (b / Nat.gcd a b):=(Nat.mul_div_cancel' (Nat.gcd_dvd_right a b)).symm
 have ec:c=Nat.gcd c d * (c / Nat.gcd c d):=(Nat.mul_div_cancel' (Nat.gcd_dvd_left c d)).symm
 have ed:d=Nat.gcd c d * (d / Nat.gcd c d):=(Nat.mul_div_cancel' (Nat.gcd_dvd_right c d)).symm
 generalize hx:a / Nat.gcd a b=x at *
 generalize hy:b / Nat.gcd a b=y at *
 generalize hz:c / Nat.gcd c d=z at *
 generalize hw:d / Nat.gcd c d=w at *
 generalize Nat.gcd a b=g at *
 generalize Nat.gcd c d=k at *
 subst ea eb ec ed
 have e:x * w=z * y:=by
  have h1:(g * k) * (x * w)=(g * k) * (z * y):=by
   have e1:g * x * (k * w)=(g * k) * (x * w):=by
    rw [Nat.mul_assoc,Nat.mul_assoc,← Nat.mul_assoc x k w,Nat.mul_comm x k,Nat.mul_assoc k x w]
   have e2:k * z * (g * y)=(g * k) * (z * y):=by
    rw [Nat.mul_assoc,← Nat.mul_assoc z g y,Nat.mul_comm z g,Nat.mul_assoc g z y,← Nat.mul_assoc k g,Nat.mul_comm k g]
   rw [← e1,← e2];exact h
  exact Nat.eq_of_mul_eq_mul_left (Nat.mul_pos g1 g2) h1
 have hy0:0<y:=Nat.pos_of_ne_zero fun h0=>by subst h0;simp at hb
 have hw0:0<w:=Nat.pos_of_ne_zero fun h0=>by subst h0;simp at hd
 have d1:y ∣ w:=(Nat.Coprime.dvd_of_dvd_mul_left c1.symm (by rw [e];exact Nat.dvd_mul_left y z))
 have d2:w ∣ y:=(Nat.Coprime.dvd_of_dvd_mul_left c2.symm (by rw [← e];exact Nat.dvd_mul_left w x))
 have eyw:=Nat.dvd_antisymm d1 d2
 subst eyw
 exact ⟨Nat.eq_of_mul_eq_mul_right hy0 e,rfl⟩
theorem red_eq {o o':Int × Int} (h1:0≤o.1) (h2:0<o.2) (h3:0≤o'.1) (h4:0<o'.2) (h:o.1 * o'.2=o'.1 * o.2):redF o=redF o':=by
 obtain ⟨a,b⟩:=o
 obtain ⟨c,d⟩:=o'
 obtain ⟨a,rfl⟩:∃ n:Nat,a=n:=⟨a.toNat,by simp at h1;omega⟩
 obtain ⟨b,rfl⟩:∃ n:Nat,b=n:=⟨b.toNat,by simp at h2;omega⟩
 obtain ⟨c,rfl⟩:∃ n:Nat,c=n:=⟨c.toNat,by simp at h3;omega⟩
 obtain ⟨d,rfl⟩:∃ n:Nat,d=n:=⟨d.toNat,by simp at h4;omega⟩
 have e:a * d=c * b:=by
  have h':(a:Int) * d=c * b:=h
  rw [← Int.natCast_mul,← Int.natCast_mul] at h'
  exact Int.ofNat_inj.1 h'
 have:=red_nat (a:=a) (b:=b) (c:=c) (d:=d) (by simp at h2;omega) (by simp at h4;omega) e
 unfold redF
 simp only [qQ]
 rw [this.1,this.2]
theorem least_worst {s:Survey} (h:Sw s):redF (leastF s)=redF (worstF s (num s) [] 0 (0,1)):=by
 have h1:=least_err h
 have h2:=(worst_err h).1
 exact red_eq h1.num0 h1.den h2.num0 h2.den (Int.le_antisymm (h1.same h2) (h2.same h1))
structure RedP (s:Survey) (o:Int × Int):Prop where
 err:ErrP s o.1 o.2
 den:1≤o.2∧o.2≤num s
 num0:0≤o.1∧o.1≤1000 * o.2
theorem red_ok {s:Survey} {o:Int × Int} (he:ErrP s o.1 o.2) (hd:o.2≤num s) (hn:o.1≤1000 * o.2):RedP s (redF o):=by
 obtain ⟨a,b⟩:=o
 have h1:0≤a:=he.num0
 have h2:0<b:=he.den
 obtain ⟨a,rfl⟩:∃ n:Nat,a=n:=⟨a.toNat,by omega⟩
 obtain ⟨b,rfl⟩:∃ n:Nat,b=n:=⟨b.toNat,by omega⟩
 have hb:0<b:=by omega
 have g1:0<Nat.gcd a b:=Nat.gcd_pos_of_pos_right a hb
 have ea:a=Nat.gcd a b * (a / Nat.gcd a b):=(Nat.mul_div_cancel' (Nat.gcd_dvd_left a b)).symm
 have eb:b=Nat.gcd a b * (b / Nat.gcd a b):=(Nat.mul_div_cancel' (Nat.gcd_dvd_right a b)).symm
 have er:redF ((a:Int),(b:Int))=(((a / Nat.gcd a b:Nat):Int),((b / Nat.gcd a b:Nat):Int)):=by unfold redF;simp only [qQ]
 rw [er]
 generalize hx:a / Nat.gcd a b=x at *
 generalize hy:b / Nat.gcd a b=y at *
 generalize Nat.gcd a b=g at *
 have hy0:0<y:=Nat.pos_of_ne_zero fun h0=>by subst h0;simp at eb;omega
 have eai:(a:Int)=g * x:=by rw [ea];exact Int.natCast_mul g x
 have ebi:(b:Int)=g * y:=by rw [eb];exact Int.natCast_mul g y
 have hg:(0:Int)<g:=by omega
 have hmost:=he.most
 have hmet:=he.met
 have hd':(b:Int)≤num s:=hd
 have hn':(a:Int)≤1000 * (b:Int):=hn
 rw [eai] at hmet
 rw [ebi] at hmet
 have cancel:∀ u v:Int,g * u≤g * v→u≤v:=fun u v h=>Int.le_of_mul_le_mul_left h hg
 have cancelE:∀ u v:Int,g * u=g * v→u=v:=fun u v h=>Int.le_antisymm (cancel u v (Int.le_of_eq h)) (cancel v u (Int.le_of_eq h.symm))
 have ass1:∀ r:Int,r * (g * (y:Int))=g * (r * y):=fun r=>by rw [← yD,Int.mul_comm r g,yD]
 refine ⟨⟨by show (0:Int)<(y:Int);omega,by show (0:Int)≤(x:Int);omega,fun l hl hs => ?_, ?_⟩,⟨by show (1:Int)≤(y:Int);omega, ?_⟩,⟨by show (0:Int)≤(x:Int);omega, ?_⟩⟩
 ·have:=hmost l hl hs
  have h':riseL s l * (b:Int)≤(a:Int) * l.length:=this
  rw [eai,ebi,ass1,yD] at h'
  exact cancel _ _ h'
 ·rcases hmet with h0 | ⟨l,l1,l2,l3,l4⟩
  ·left
   have h0':(g:Int) * x=g * 0:=by rw [Int.mul_zero];exact h0
   exact cancelE _ _ h0'
  ·right
   refine ⟨l,l1,l2,l3, ?_⟩
   have h':riseL s l * (g * (y:Int))=g * (x:Int) * l.length:=l4
   rw [ass1,yD] at h'
   exact cancelE _ _ h'
 ·show (y:Int)≤num s
  have hyb:y≤b:=by
   rw [eb];exact Nat.le_mul_of_pos_left y g1
  omega
 ·show (x:Int)≤1000 * (y:Int)
  rw [eai,ebi,← yD,Int.mul_comm 1000 (g:Int),yD] at hn'
  exact cancel _ _ hn'
def errF (s:Survey):Int × Int:=redF (leastF s)
theorem err_ok {s:Survey} (h:Sw s):RedP s (errF s):=by
 have:=least_ok h
 exact red_ok (least_err h) this.den.2 this.num0.2
def flip (x:Stp):Stp:=⟨x.sight,!x.back⟩
theorem flip_in {s:Survey} {l:List Stp} (h:StepsIn s l):StepsIn s (l.reverse.map flip):=fun x hx=>by
 obtain ⟨y,hy,rfl⟩:=List.mem_map.1 hx
 exact h y (List.mem_reverse.1 hy)
theorem flip_ends (s:Survey) (p q:Sight→Int) (x:Stp):(stepG p q s (flip x)).a=(stepG p q s x).b∧(stepG p q s (flip x)).b=(stepG p q s x).a:=by
 unfold stepG flip
 cases x.back <;> exact ⟨rfl,rfl⟩
theorem flip_pth {s:Survey} {p q:Sight→Int}:∀ {l:List Stp} {u v:Nat},Pth (stepG p q s) u l v→Pth (stepG p q s) v (l.reverse.map flip) u
 | [],u,v,h=>h.symm
 | x :: l,u,v,h=>by
  obtain ⟨h1,h2⟩:=h
  have:=flip_pth h2
  rw [List.reverse_cons,qN]
  obtain ⟨e1,e2⟩:=flip_ends s p q x
  exact zBh.2 ⟨_,this,e1,by show (stepG p q s (flip x)).b=u;rw [e2];exact h1⟩
theorem flip_rise (s:Survey):∀ l:List Stp,riseL s (l.reverse.map flip) = -riseL s l
 | []=>rfl
 | x :: l=>by
  rw [List.reverse_cons,qN,zEk,flip_rise s l]
  have e1:riseL s (List.map flip [x])=riseS s (flip x):=by
   show -((stepR s (flip x)).m+0)=_
   rw [← zFg];omega
  have e2:riseL s (x :: l)=riseS s x+riseL s l:=by
   rw [← zFg]
   show -((stepR s x).m+tot (stepR s) l)=_
   unfold riseL;omega
  have e3:riseS s (flip x) = -riseS s x:=by
   unfold riseS flip
   cases x.back <;> simp
  rw [e1,e2,e3];omega
def evenB (s:Survey) (by' off:Int):List Bd:=s.sights.flatMap (sightD by' off)
theorem zDv {s:Survey} {d o:Int} {c:Bd}:c∈evenB s d o ↔ ∃ x∈s.sights,c=⟨x.frm.toNat,x.to.toNat,x.rise * d+o⟩∨c=⟨x.to.toNat,x.frm.toNat,o - x.rise * d⟩:=by
 unfold evenB sightD
 simp only [List.mem_flatMap,yJ,yA,or_false]
theorem even_both (s:Survey) (d o:Int):Both (evenB s d o):=fun c hc=>by
 obtain ⟨x,hx,rfl | rfl⟩:=zDv.1 hc
 ·exact ⟨_,zDv.2 ⟨x,hx,.inr rfl⟩,rfl,rfl⟩
 ·exact ⟨_,zDv.2 ⟨x,hx,.inl rfl⟩,rfl,rfl⟩
abbrev stepE (s:Survey) (d o:Int):Stp→Bd:=stepG (fun y=>y.rise * d+o) (fun y=>o - y.rise * d) s
theorem mem_stepE {s:Survey} {d o:Int} {c:Bd} (h:c∈evenB s d o):∃ x:Stp,(0≤x.sight∧x.sight<s.sights.length)∧stepE s d o x=c:=by
 obtain ⟨y,hy,hc⟩:=zDv.1 h
 obtain ⟨i,hi,rfl⟩:=List.mem_iff_getElem.1 hy
 have e:sightAt s (i:Int)=s.sights[i]:=by
  unfold sightAt
  rw [qQ,zG,zF hi];rfl
 rcases hc with rfl | rfl
 ·exact ⟨⟨i,false⟩,⟨by show (0:Int)≤i;omega,by show (i:Int)<_;omega⟩,by unfold stepE stepG;rw [e];rfl⟩
 ·exact ⟨⟨i,true⟩,⟨by show (0:Int)≤i;omega,by show (i:Int)<_;omega⟩,by unfold stepE stepG;rw [e];rfl⟩
theorem stepsE_of {s:Survey} {d o:Int}:∀ m:List Bd,(∀ c∈m,c∈evenB s d o) → ∃ l:List Stp,StepsIn s l∧l.map (stepE s d o)=m
 | [],_=>⟨[],fun x hx=>(by cases hx),rfl⟩
 | c :: m,h=>by
  obtain ⟨x,hx,e⟩:=mem_stepE (h c zP)
  obtain ⟨l,hl,e2⟩:=stepsE_of m fun d hd=>h d (zQ _ hd)
  refine ⟨x :: l,fun y hy => ?_,by rw [yX,e,e2]⟩
  rcases List.mem_cons.1 hy with rfl | hy
  ·exact hx
  ·exact hl y hy
theorem tot_stepE (s:Survey) (d o:Int):∀ l:List Stp,tot (stepE s d o) l=riseL s l * d+o * l.length
 | []=>by simp [tot,riseL]
 | x :: l=>by
  have e1:(stepE s d o x).m=riseS s x * d+o:=by
   unfold stepE stepG riseS
   cases x.back
   ·rfl
   ·show o - (sightAt s x.sight).rise * d = -(sightAt s x.sight).rise * d+o
    rw [Int.neg_mul];omega
  have e2:riseL s (x :: l)=riseS s x+riseL s l:=by
   rw [← zFg]
   show -((stepR s x).m+tot (stepR s) l)=_
   unfold riseL;omega
  show (stepE s d o x).m+tot (stepE s d o) l=_
  rw [e1,tot_stepE s d o l,e2,Int.add_mul,qA,Int.natCast_add,Int.mul_add]
  omega
theorem even_oks {s:Survey} (h:Sw s) {d o:Int} (hd:1≤d∧d≤8) (ho:0≤o∧o≤8000):Oks (num s) (evenB s d o):=fun c hc=>by
 obtain ⟨x,hx,hc⟩:=zDv.1 hc
 have hs:=h.sights x hx
 have h1:=hs.frm;have h2:=hs.to;have h3:=hs.ne;have h4:=hs.rise
 have b1:x.rise * d≤1000 * 8:=yU (qO h4.2 (by omega)) (by omega)
 have b2:-8000≤x.rise * d:=by
  have:-1000 * d≤x.rise * d:=qO h4.1 (by omega)
  omega
 rcases hc with rfl | rfl
 ·exact ⟨by show x.frm.toNat<s.stations.toNat;omega,by show x.to.toNat<s.stations.toNat;omega,by show x.frm.toNat≠x.to.toNat;omega,by show -20000≤x.rise * d+o;omega,by show x.rise * d+o≤20000;omega⟩
 ·exact ⟨by show x.to.toNat<s.stations.toNat;omega,by show x.frm.toNat<s.stations.toNat;omega,by show x.to.toNat≠x.frm.toNat;omega,by show -20000≤o - x.rise * d;omega,by show o - x.rise * d≤20000;omega⟩
theorem err_bd {s:Survey} (h:Sw s) {o:Int × Int} (hr:RedP s o):(1≤o.2∧o.2≤8)∧0≤o.1∧o.1≤8000:=by
 have h8:=h.num8
 have h1:=hr.den;have h2:=hr.num0
 omega
theorem even_some {s:Survey} (h:Sw s) {o:Int × Int} (hr:RedP s o):∃ V,clo (num s) (evenB s o.2 o.1)=some V:=by
 obtain ⟨b1,b2⟩:=err_bd h hr
 cases hV:clo (num s) (evenB s o.2 o.1) with
 | some V=>exact ⟨V,rfl⟩
 | none =>
  exfalso
  obtain ⟨m,m1,m2,m3⟩:=clo_none (even_oks h b1 b2) hV
  obtain ⟨l,l1,rfl⟩:=stepsE_of m m2
  have hs:Simple (stepE s o.2 o.1) l:=simple_map.1 m1
  rw [tot_map,tot_stepE] at m3
  obtain ⟨u,hu⟩:=hs.closed
  have hu2:Pth (stepR s) u l u:=pth_ends.1 hu
  have:=hr.err.walk (flip_in l1) (fun e=>hs.ne (by
   rw [List.map_eq_nil_iff,List.reverse_eq_nil_iff] at e;exact e)) ⟨u,flip_pth hu2⟩
  rw [flip_rise,Int.neg_mul,yK,List.length_reverse] at this
  omega
def firstI {β:Type} (f:Nat→Option β):Nat→Nat→Option β
 | _,0=>none
 | n,r+1=>match f n with
  | some x=>some x
  | none=>firstI f (n+1) r
theorem zDw {β:Type} {f g:Nat→Option β}:∀ {r n:Nat},(∀ i,n≤i→i<n+r→f i=g i)→firstI f n r=firstI g n r
 | 0,n,_=>rfl
 | r+1,n,h=>by
  unfold firstI
  rw [h n (zN _) (by omega),zDw fun i h1 h2=>h i (by omega) (by omega)]
theorem firstI_some {β:Type} {f:Nat→Option β}:∀ {r n:Nat} {x:β},firstI f n r=some x → ∃ i,n≤i∧i<n+r∧f i=some x ∧ ∀ j,n≤j→j<i→f j=none
 | 0,n,x,e=>by cases e
 | r+1,n,x,e=>by
  unfold firstI at e
  cases hf:f n with
  | some y=>rw [hf] at e;cases e;exact ⟨n,zN _,by omega,hf,fun j h1 h2=>by omega⟩
  | none =>
   rw [hf] at e
   obtain ⟨i,h1,h2,h3,h4⟩:=firstI_some e
   refine ⟨i,by omega,by omega,h3,fun j h5 h6 => ?_⟩
   by_cases ej:j=n
   ·subst ej;exact hf
   ·exact h4 j (by omega) h6
theorem zDq {β:Type} {f:Nat→Option β}:∀ {r n:Nat},firstI f n r=none → ∀ j,n≤j→j<n+r→f j=none
 | 0,n,e,j,h1,h2=>by omega
 | r+1,n,e,j,h1,h2=>by
  unfold firstI at e
  cases hf:f n with
  | some y=>rw [hf] at e;cases e
  | none =>
   rw [hf] at e
   by_cases ej:j=n
   ·subst ej;exact hf
   ·exact zDq e j (by omega) (by omega)
theorem firstI_all {β:Type} {f:Nat→Option β}:∀ {r n:Nat},(∀ j,n≤j→j<n+r→f j=none)→firstI f n r=none
 | 0,n,_=>rfl
 | r+1,n,h=>by
  unfold firstI
  rw [h n (zN _) (by omega)]
  exact firstI_all fun j h1 h2=>h j (by omega) (by omega)
def ringB (s:Survey) (l:List Stp):Bool:=closedB s l && decide (tot (stepB s) l<0)
def ringA (s:Survey):Nat→List Stp→Option (List Stp)
 | 0,now=>if ringB s now=true then some now else none
 | m+1,now=>firstI (fun i=>ringA s m (now ++ [stpAt i])) 0 (2 * s.sights.length)
theorem ringA_none {s:Survey}:∀ {m:Nat} {now:List Stp},(∀ t,t.length=m→StepsIn s t→ringB s (now ++ t)=false)→ringA s m now=none
 | 0,now,h=>by
  unfold ringA
  have:=h [] rfl (fun x hx=>by cases hx)
  rw [yR] at this
  rw [this];rfl
 | m+1,now,h=>by
  unfold ringA
  refine firstI_all fun j _ hj=>ringA_none fun t ht hin => ?_
  have:=h (stpAt j :: t) (by simp [ht]) (fun x hx=>by
   rcases List.mem_cons.1 hx with rfl | hx
   ·exact stpAt_in (by omega)
   ·exact hin x hx)
  rw [show now ++ stpAt j :: t=(now ++ [stpAt j]) ++ t by simp] at this
  exact this
theorem stpAt_inj {i j:Nat} (h:stpAt i=stpAt j):i=j:=by
 unfold stpAt at h
 simp only [Stp.mk.injEq,decide_eq_decide] at h
 omega
def Bf:List Stp→List Stp→Prop
 | x :: a,y :: b=>(∃ i j,i<j∧stpAt i=x∧stpAt j=y)∨(x=y∧Bf a b)
 | _,_=>False
theorem ringA_some {s:Survey}:∀ {m:Nat} {now l:List Stp},ringA s m now=some l → ∃ t,l=now ++ t∧t.length=m∧StepsIn s t∧ringB s l=true ∧ ∀ u,u.length=m→StepsIn s u→ringB s (now ++ u)=true → ¬ Bf u t
 | 0,now,l,h=>by
  unfold ringA at h
  split at h
  ·rename_i hr
   cases h
   exact ⟨[],by simp,rfl,fun x hx=>(by cases hx),hr,fun u _ _ _ hb=>by cases u <;> exact hb⟩
  ·cases h
 | m + 1,now,l,h=>by
  unfold ringA at h
  obtain ⟨i,_,h2,h3,h4⟩:=firstI_some h
  obtain ⟨t,t1,t2,t3,t4,t5⟩:=ringA_some h3
  refine ⟨stpAt i :: t,by rw [t1];simp,by simp [t2],fun x hx => ?_,t4,fun u hu hin hr hb => ?_⟩
  ·rcases List.mem_cons.1 hx with rfl | hx
   ·exact stpAt_in (by omega)
   ·exact t3 x hx
  ·cases u with
   | nil=>cases hu
   | cons y u =>
    have hul:u.length=m:=by simpa using hu
    have e:now ++ y :: u=(now ++ [y]) ++ u:=by simp
    rw [e] at hr
    rcases hb with ⟨j,k,hjk,ej,ek⟩ | ⟨ey,hb⟩
    ·have:k=i:=stpAt_inj ek
     subst this
     subst ej
     have hn:=h4 j (qH _) hjk
     have key:∀ {m:Nat} {now:List Stp},ringA s m now=none → ∀ t,t.length=m→StepsIn s t→ringB s (now ++ t)=true→False:=by
      intro m
      induction m with
      | zero =>
       intro now hn t ht _ hr
       have:t=[]:=List.length_eq_zero_iff.1 ht
       subst this
       rw [yR] at hr
       unfold ringA at hn
       rw [if_pos hr] at hn;cases hn
      | succ m ih =>
       intro now hn t ht hin hr
       cases t with
       | nil=>cases ht
       | cons z t =>
        obtain ⟨q,hq,rfl⟩:=stpAt_all (hin z zP)
        unfold ringA at hn
        have:=zDq hn q (qH _) (by omega)
        rw [show now ++ stpAt q :: t=(now ++ [stpAt q]) ++ t by simp] at hr
        exact ih this t (by simpa using ht) (fun x hx=>hin x (zQ _ hx)) hr
     exact key hn u hul (fun x hx=>hin x (zQ _ hx)) hr
    ·subst ey
     exact t5 u hul (fun x hx=>hin x (zQ _ hx)) hr hb
theorem ring_chain {s:Survey} {l t:List Stp} (h:ringB s (l ++ t)=true):chainB s l=true:=by
 unfold ringB closedB at h
 rw [zT,zT,zT,zBu] at h
 obtain ⟨⟨_,⟨c1,c2⟩,_⟩,_⟩:=h
 rw [zBu]
 refine ⟨?_, ?_⟩
 ·rw [lnk_iff] at c1 ⊢
  intro j hj hl
  have:=c1 j hj (by rw [zX];omega)
  rw [zBv hl,zBv (A:=l) (B:=t) (j:=j - 1) (by omega)] at this
  exact this
 ·rw [qN,List.nodup_append] at c2
  exact c2.1
def ringR (s:Survey):Nat→List Stp→Option (List Stp)
 | 0,now=>if ringB s now=true then some now else none
 | m+1,now=>firstI (fun i=>if chainB s (now ++ [stpAt i])=true then ringR s m (now ++ [stpAt i]) else none) 0 (2 * s.sights.length)
def ringL (s:Survey):Nat→List Stp→Stp→Option (List Stp)
 | 0,w,y=>if enS s y=bgS s ((w ++ [y]).getD 0 stpD)∧tot (stepB s) (w ++ [y])<0 then some (w ++ [y]) else none
 | m+1,w,y=>if enS s y=bgS s ((w ++ [y]).getD 0 stpD)∨enS s y∈w.map (enS s) then none else firstI (fun i=>if bgS s (stpAt i)=enS s y then ringL s m (w ++ [y]) (stpAt i) else none) 0 (2 * s.sights.length)
structure RingI (s:Survey) (w:List Stp) (y:Stp):Prop where
 lnk:Lnk s (w ++ [y])
 once:(w.map (enS s)).Nodup
 start:bgS s ((w ++ [y]).getD 0 stpD) ∉ w.map (enS s)
theorem last_getD (w:List Stp) (y:Stp):(w ++ [y]).getD ((w ++ [y]).length - 1) stpD=y:=by
 rw [zG];simp
theorem nodup_snoc {α:Type} {l:List α} {a:α}:(l ++ [a]).Nodup↔l.Nodup∧a ∉ l:=by
 rw [List.nodup_append]
 simp only [List.nodup_cons,yA,not_false_eq_true,List.nodup_nil,true_and,yJ,yA,or_false,forall_eq]
 exact ⟨fun ⟨h1,h2⟩=>⟨h1,fun hm=>h2 a hm rfl⟩,fun ⟨h1,h2⟩=>⟨h1,fun x hx e=>h2 (e ▸ hx)⟩⟩
theorem lnk_snoc {s:Survey} {w:List Stp} {y x:Stp} (h:Lnk s (w ++ [y])) (hx:bgS s x=enS s y):Lnk s ((w ++ [y]) ++ [x]):=by
 rw [lnk_iff] at h ⊢
 intro j hj hl
 by_cases g:j<(w ++ [y]).length
 ·rw [zBv g,zBv (A:=w ++ [y]) (B:=[x]) (j:=j - 1) (by omega)]
  exact h j hj g
 ·have e:j=(w ++ [y]).length:=by rw [zX] at hl;simp at hl g ⊢;omega
  subst e
  rw [zBv (A:=w ++ [y]) (B:=[x]) (j:=(w ++ [y]).length - 1) (by simp),last_getD]
  have:(w ++ [y] ++ [x]).getD (w ++ [y]).length stpD=x:=by
   rw [zG,zS (zN _),Nat.sub_self];rfl
  rw [this];exact hx
theorem ringL_eq (s:Survey):∀ (m:Nat) (w:List Stp) (y:Stp),RingI s w y→2≤w.length+1+m→ringL s m w y=ringA s m (w ++ [y])
 | 0,w,y,hI,hl=>by
  unfold ringL ringA
  have e:ringB s (w ++ [y])=true↔enS s y=bgS s ((w ++ [y]).getD 0 stpD)∧tot (stepB s) (w ++ [y])<0:=by
   unfold ringB closedB
   rw [zT,zT,zT,zBu,decide_eq_true_iff,decide_eq_true_iff,decide_eq_true_iff,last_getD]
   constructor
   ·rintro ⟨⟨_,_,h1⟩,h2⟩;exact ⟨h1.symm,h2⟩
   ·rintro ⟨h1,h2⟩
    refine ⟨⟨by simp;omega,⟨hI.lnk, ?_⟩,h1.symm⟩,h2⟩
    rw [qN]
    show (w.map (enS s) ++ [enS s y]).Nodup
    rw [nodup_snoc,h1]
    exact ⟨hI.once,hI.start⟩
  by_cases hr:ringB s (w ++ [y])=true
  ·rw [if_pos hr,if_pos (e.1 hr)]
  ·rw [if_neg hr,if_neg fun hh=>hr (e.2 hh)]
 | m + 1,w,y,hI,hl=>by
  unfold ringL
  by_cases c:enS s y=bgS s ((w ++ [y]).getD 0 stpD)∨enS s y∈w.map (enS s)
  ·rw [if_pos c]
   symm
   refine ringA_none fun t ht hin => ?_
   cases hr:ringB s (w ++ [y] ++ t) with
   | false=>rfl
   | true =>
    exfalso
    rcases c with c | c
    ·unfold ringB closedB at hr
     rw [zT,zT,zT,zBu,decide_eq_true_iff,decide_eq_true_iff] at hr
     obtain ⟨⟨_,⟨_,c2⟩,c3⟩,_⟩:=hr
     obtain ⟨t',z,rfl⟩:∃ t' z,t=t' ++ [z]:=by
      rcases List.eq_nil_or_concat t with e | ⟨t',z,e⟩
      ·subst e;cases ht
      ·exact ⟨t',z,by rw [e,List.concat_eq_append]⟩
     have e1:w ++ [y] ++ (t' ++ [z])=(w ++ [y] ++ t') ++ [z]:=by simp
     rw [e1,last_getD,← e1,zBv (by simp)] at c3
     rw [qN,List.nodup_append] at c2
     exact c2.2.2 (enS s y) (by simp) (enS s z) (by simp) (by rw [c,c3])
    ·have:=(zBu.1 (ring_chain hr)).2
     rw [qN] at this
     exact (nodup_snoc.1 this).2 c
  ·rw [if_neg c]
   have c1:enS s y≠bgS s ((w ++ [y]).getD 0 stpD):=fun h=>c (.inl h)
   have c2:enS s y ∉ w.map (enS s):=fun h=>c (.inr h)
   unfold ringA
   refine zDw fun i _ hi => ?_
   by_cases g:bgS s (stpAt i)=enS s y
   ·rw [if_pos g]
    refine ringL_eq s m (w ++ [y]) (stpAt i) ⟨lnk_snoc hI.lnk g, ?_, ?_⟩ (by simp;omega)
    ·rw [qN]
     exact nodup_snoc.2 ⟨hI.once,c2⟩
    ·rw [zBv (by simp),qN]
     intro hm
     rcases List.mem_append.1 hm with hm | hm
     ·exact hI.start hm
     ·simp only [yX,List.map_nil,yJ,yA,or_false] at hm
      exact c1 hm.symm
   ·rw [if_neg g]
    symm
    refine ringA_none fun t _ _ => ?_
    cases hr:ringB s (w ++ [y] ++ [stpAt i] ++ t) with
    | false=>rfl
    | true =>
     exfalso
     have hc:=(zBu.1 (ring_chain hr)).1
     rw [lnk_iff] at hc
     have:=hc (w ++ [y]).length (by simp) (by simp)
     rw [zBv (A:=w ++ [y]) (B:=[stpAt i]) (j:=(w ++ [y]).length - 1) (by simp),last_getD] at this
     have e:(w ++ [y] ++ [stpAt i]).getD (w ++ [y]).length stpD=stpAt i:=by
      rw [zG,zS (zN _),Nat.sub_self];rfl
     rw [e] at this
     exact g this
theorem ring_len {s:Survey} {long:Nat} (h:2≤long):firstI (fun i=>ringL s (long - 1) [] (stpAt i)) 0 (2 * s.sights.length)=ringA s long []:=by
 obtain ⟨m,rfl⟩:∃ m,long=m+1:=⟨long - 1,by omega⟩
 unfold ringA
 refine zDw fun i _ _ => ?_
 rw [Nat.add_sub_cancel]
 exact ringL_eq s m [] (stpAt i) ⟨trivial,List.nodup_nil,fun h=>by cases h⟩ (by simp;omega)
def shortR (s:Survey):Option (List Stp):=firstI (fun long=>ringA s long []) 2 (num s - 1)
def withS (s:Survey) (x:Sight):Survey:={ s with sights:=s.sights ++ [x] }
theorem with_sw {s:Survey} (h:Sw s) {x:Sight} (hx:SightOk s.stations x):Sw (withS s x):=
 ⟨h.st,fun y hy=>by
  rcases List.mem_append.1 hy with hy | hy
  ·exact h.sights y hy
  ·rw [yO] at hy;subst hy;exact hx⟩
theorem with_more {s:Survey} (h:Sw s) {x:Sight} (hx:SightOk s.stations x):More (num s) (surveyB s) (surveyB (withS s x)) x.frm.toNat x.to.toNat (x.rise+x.off) (x.off - x.rise):=by
 have h':=with_sw h hx
 refine ⟨h.num8,h.oks,h'.oks,fun c => ?_,by have:=hx.off;omega⟩
 show c∈(s.sights ++ [x]).flatMap sightB↔_
 rw [List.flatMap_append,List.mem_append]
 refine or_congr Iff.rfl ?_
 unfold sightB
 simp
def sum2 (a b:Int):Int:=if a ≥ far∨b ≥ far then far else a+b
def sum3 (a b c:Int):Int:=if a ≥ far∨b ≥ far∨c ≥ far then far else a+b+c
def withL (V:Mat) (x:Sight) (i j:Nat):Int:=
 min (min (ent V i j) (sum3 (ent V i x.frm.toNat) (x.rise+x.off) (ent V x.to.toNat j))) (sum3 (ent V i x.to.toNat) (x.off - x.rise) (ent V x.frm.toNat j))
def allowsB (V:Mat) (x:Sight):Bool:=!(decide (sum2 (ent V x.to.toNat x.frm.toNat) (x.rise+x.off)<0) || decide (sum2 (ent V x.frm.toNat x.to.toNat) (x.off - x.rise)<0))
theorem withL_eq {n:Int} {x:Sight} (hx:SightOk n x) (V:Mat) (i j:Nat):withL V x i j=withM V x.frm.toNat x.to.toNat (x.rise+x.off) (x.off - x.rise) i j:=by
 have h1:=hx.rise;have h2:=hx.off
 have hf:far=1099511627776:=rfl
 have e:∀ a p b:Int,p<far→sum3 a p b=if a<far∧b<far then a+p+b else far:=fun a p b hp=>by
  unfold sum3
  by_cases g:a<far∧b<far
  ·rw [if_pos g,if_neg (by omega)]
  ·rw [if_neg g,if_pos (by omega)]
 unfold withL withM
 rw [e _ _ _ (by omega),e _ _ _ (by omega)]
theorem allows_iff {n:Int} {x:Sight} (hx:SightOk n x) (V:Mat):allowsB V x=true↔Allows V x.frm.toNat x.to.toNat (x.rise+x.off) (x.off - x.rise):=by
 have h1:=hx.rise;have h2:=hx.off
 have hf:far=1099511627776:=rfl
 have e:∀ a p:Int,p<far→(sum2 a p<0↔a<far∧a+p<0):=fun a p hp=>by
  unfold sum2
  by_cases g:a<far
  ·rw [if_neg (by omega)];exact ⟨fun h=>⟨g,h⟩,fun h=>h.2⟩
  ·rw [if_pos (by omega)];exact ⟨fun h=>by omega,fun h=>absurd h.1 g⟩
 unfold allowsB
 rw [yY,Bool.or_eq_false_iff,decide_eq_false_iff_not,decide_eq_false_iff_not,e _ _ (by omega),e _ _ (by omega)]
 constructor
 ·rintro ⟨a1,a2⟩
  exact ⟨fun hlt=>Int.not_lt.1 fun hh=>a1 ⟨hlt,hh⟩,fun hlt=>Int.not_lt.1 fun hh=>a2 ⟨hlt,hh⟩⟩
 ·rintro ⟨a1,a2⟩
  exact ⟨fun ⟨hlt,hh⟩=>by have:=a1 hlt;omega,fun ⟨hlt,hh⟩=>by have:=a2 hlt;omega⟩
theorem with_known {s:Survey} (h:Sw s) {x:Sight} (hx:SightOk s.stations x) {V:Mat} (hV:knownV s=some V):(knownV (withS s x)).isSome=allowsB V x:=by
 rw [Bool.eq_iff_iff,allows_iff hx]
 exact more_allows (with_more h hx) (zDj h hV)
theorem with_ent {s:Survey} (h:Sw s) {x:Sight} (hx:SightOk s.stations x) {V V':Mat} (hV:knownV s=some V) (hV':knownV (withS s x)=some V') {i j:Nat} (hi:i<num s) (hj:j<num s) (hlt:ent V i j<far):ent V' i j=withL V x i j:=by
 rw [withL_eq hx]
 exact more_ent (with_more h hx) (zDj h hV) (zDj (with_sw h hx) hV') hi hj hlt
structure Try where
 frm:Int
 to:Int
 off:Int
 deriving DecidableEq
structure TryOk (n:Int) (x:Try):Prop where
 frm:0≤x.frm∧x.frm<n
 to:0≤x.to∧x.to<n
 ne:x.frm≠x.to
 off:0≤x.off∧x.off≤50
def tried (x:Try) (rise:Int):Sight:=⟨x.frm,x.to,rise,x.off⟩
theorem tried_ok {n:Int} {x:Try} (h:TryOk n x) {r:Int} (hr:-1000≤r∧r≤1000):SightOk n (tried x r):=⟨h.frm,h.to,h.ne,hr,h.off⟩
def riseAt (k:Nat):Int:=(k:Int) - 1000
def worstAt (V:Mat) (x:Try) (i j:Nat):Nat→Int
 | 0 => -1
 | k+1=>if allowsB V (tried x (riseAt k))=true then max (worstAt V x i j k) (withL V (tried x (riseAt k)) i j+withL V (tried x (riseAt k)) j i) else worstAt V x i j k
def widthAt (s:Survey) (x:Try) (i j:Nat):Nat→Int
 | 0 => -1
 | k+1=>match knownV (withS s (tried x (riseAt k))) with
  | some V'=>max (widthAt s x i j k) (ent V' i j - -ent V' j i)
  | none=>widthAt s x i j k
def worstW (V:Mat) (x:Try) (i j:Nat):Int:=if worstAt V x i j 2001<0 then ent V i j+ent V j i else worstAt V x i j 2001
end Go.Lv
end

/- Part 20 of the proof. -/
import Derived.Test.YtclmbbofpaecaaaGreatDoorVn19
set_option linter.all false
set_option linter.unusedVariables false
set_option linter.unusedSimpArgs false
set_option linter.unusedSectionVars false
open Bool renaming and_self → zJ, and_eq_true → zT, not_true → zV, not_false → qF, false_and → qH, true_and → qY
open Int renaming toNat_natCast → qO
open List renaming getElem?_eq_getElem → zF, set_cons_succ → zH, set_cons_zero → zI, all_cons → zL, all_nil → zO, length_cons → zW, length_append → qC, flatMap_cons → qW, cons_append → qX, not_mem_nil → yA, all_eq_true → yG, mem_cons → yM, range_succ → yN
open Nat renaming reduceLeDiff → zA, reduceEqDiff → zB, reduceAdd → zC, reduceBEq → zD, le_of_ble_eq_true → zE, le_refl → zM, zero_le → qG, not_lt_zero → qU
open Option renaming map_some → zX
section
set_option maxHeartbeats 1000000
namespace Go.Av.Lx
open Go Go.Av Go.Av.Tb Go.Av.Fx Go.Proofs
open Go.Lv (Sight Survey Sw Sv SightOk Leg LegOk RangeOk Tun TunOk Try TryOk Stp)
open Go.Fw (Sq ent Bd Mat)
section
variable {α:Type} {f:α→List AV} {w:Nat}
theorem cat_len (hf:∀ x,(f x).length=w) (l:List α):(l.flatMap f).length=l.length * w:=by
 induction l with
 | nil=>simp
 | cons c l ih=>rw [qW,qC,ih,hf,zW,Nat.add_mul];omega
theorem cat_at (hf:∀ x,(f x).length=w):∀ (l:List α) (k:Nat) (h:k<l.length),((l.flatMap f).drop (k * w)).take w=f l[k]
 | c :: l,0,h=>by
  rw [Nat.zero_mul,List.drop_zero,qW]
  exact List.take_left' (hf c)
 | c :: l,k+1,h=>by
  have:=cat_at hf l k (by simpa using h)
  rw [show (k+1) * w=w+k * w by rw [Nat.add_mul];omega,← List.drop_drop,qW,List.drop_left' (hf c)]
  simpa using this
theorem cat_snoc (l:List α) (x:α):l.flatMap f ++ f x=(l ++ [x]).flatMap f:=by simp
theorem cat_one (h:∀ x,(f x).all AV.one=true) (l:List α):(l.flatMap f).all AV.one=true:=by
 rw [yG]
 intro y hy
 obtain ⟨x,_,hx⟩:=List.mem_flatMap.1 hy
 exact List.all_eq_true.1 (h x) y hx
end
abbrev legC (x:Leg):List AV:=[.int .i64 x.frm,.int .i64 x.to,.int .i64 x.long]
abbrev tunC (x:Tun):List AV:=[.int .i64 x.frm,.int .i64 x.to,.int .i64 x.long,.int .i64 x.fall,.int .i64 x.err]
abbrev tryC (x:Try):List AV:=[.int .i64 x.frm,.int .i64 x.to,.int .i64 x.off]
abbrev stpC (x:Stp):List AV:=[.int .i64 x.sight,.bool x.back]
def legsC (l:List Leg):List AV:=l.flatMap legC
def triesC (l:List Try):List AV:=l.flatMap tryC
def stpsC (l:List Stp):List AV:=l.flatMap stpC
attribute [go_sem] legC tunC tryC stpC
@[simp] theorem legsC_len (l:List Leg):(legsC l).length=l.length * 3:=cat_len (f:=legC) (fun _=>rfl) l
@[simp] theorem triesC_len (l:List Try):(triesC l).length=l.length * 3:=cat_len (f:=tryC) (fun _=>rfl) l
@[simp] theorem zEu (l:List Stp):(stpsC l).length=l.length * 2:=cat_len (f:=stpC) (fun _=>rfl) l
@[simp] theorem legsC_bnd (n k:Nat) (l:List Leg):bndL n k (legsC l)=true:=zBb _ (fun _=>rfl) l
@[simp] theorem triesC_bnd (n k:Nat) (l:List Try):bndL n k (triesC l)=true:=zBb _ (fun _=>rfl) l
@[simp] theorem stpsC_bnd (n k:Nat) (l:List Stp):bndL n k (stpsC l)=true:=zBb _ (fun _=>rfl) l
abbrev legsA (l:List Leg):AV:=.slice (legsC l) l.length .unk
abbrev triesA (l:List Try):AV:=.slice (triesC l) l.length .unk
abbrev stpsA (l:List Stp):AV:=.slice (stpsC l) l.length .unk
def rangeB (lo hi:Int):Bool:=inB lo 0 hi && decide (hi≤20)
theorem range_iff {lo hi:Int}:rangeB lo hi=true↔RangeOk lo hi:=by
 unfold rangeB
 rw [zT,inB_iff,decide_eq_true_iff]
 exact ⟨fun ⟨⟨a,b⟩,c⟩=>⟨a,b,c⟩,fun h=>⟨⟨h.l0,h.mid⟩,h.top⟩⟩
theorem isRange_pc (lo hi:Int):PC Tryz.prog 101 [.int .i64 lo,.int .i64 hi] (.pure (.bool (rangeB lo hi))):=by
 refine PC.of_empty (AC.run (E_ok _) mix Tryz.func101 m101 rfl rfl rfl (zE rfl) ?_) rfl rfl
 simp only [go_sem,zB,zD,zC,reduceIte,reduceCtorEq,zA]
 refine cp n100 (in_pc _ _ _) (SubL.refl _) ?_
 rw [show (decide (lo ≥ 0) && decide (lo≤hi))=inB lo 0 hi from rfl]
 unfold rangeB
 cases inB lo 0 hi
 ·simp only [go_sem,qH,Tryz.f101,zB,zD,zC,reduceIte,reduceCtorEq,zA]
 ·simp only [go_sem,qY,Tryz.f101,zB,zD,zC,reduceIte,reduceCtorEq,zA]
theorem endsL_pc (x:Leg):PC Tryz.prog 240 [.agg (legC x)] (.pure (.tuple [.int .i64 x.frm,.int .i64 x.to])):=by
 refine PC.of_empty (AC.run (E_ok _) mix Tryz.func240 m240 rfl rfl rfl (zE rfl) ?_) (by simp [bndL,AV.bnd]) rfl
 simp only [go_sem,boxA,Tryz.f240,zB,zD,zC,reduceIte,reduceCtorEq,zA]
theorem endsT_pc (x:Tun):PC Tryz.prog 241 [.agg (tunC x)] (.pure (.tuple [.int .i64 x.frm,.int .i64 x.to])):=by
 refine PC.of_empty (AC.run (E_ok _) mix Tryz.func241 m241 rfl rfl rfl (zE rfl) ?_) (by simp [bndL,AV.bnd]) rfl
 simp only [go_sem,boxA,Tryz.f241,zB,zD,zC,reduceIte,reduceCtorEq,zA]
theorem endsY_pc (x:Try):PC Tryz.prog 239 [.agg (tryC x)] (.pure (.tuple [.int .i64 x.frm,.int .i64 x.to])):=by
 refine PC.of_empty (AC.run (E_ok _) mix Tryz.func239 m239 rfl rfl rfl (zE rfl) ?_) (by simp [bndL,AV.bnd]) rfl
 simp only [go_sem,boxA,Tryz.f239,zB,zD,zC,reduceIte,reduceCtorEq,zA]
@[go_sem] theorem bd_leg (a b c:Int):buildA T 198 [(0,.agg [.int .i64 a,.int .i64 b,.int .i64 c])]=some (.agg [.int .i64 a,.int .i64 b,.int .i64 c]):=rfl
@[go_sem] theorem d_leg:descOf T 198=some ti198.desc:=rfl
@[go_sem] theorem i_leg:isIface ti198.desc=false:=rfl
@[go_sem] theorem bd_tun (a b c d e:Int):buildA T 200 [(0,.agg [.int .i64 a,.int .i64 b,.int .i64 c,.int .i64 d,.int .i64 e])]=some (.agg [.int .i64 a,.int .i64 b,.int .i64 c,.int .i64 d,.int .i64 e]):=rfl
@[go_sem] theorem d_tun:descOf T 200=some ti200.desc:=rfl
@[go_sem] theorem i_tun:isIface ti200.desc=false:=rfl
@[go_sem] theorem bd_try (a b c:Int):buildA T 161 [(0,.agg [.int .i64 a,.int .i64 b,.int .i64 c])]=some (.agg [.int .i64 a,.int .i64 b,.int .i64 c]):=rfl
@[go_sem] theorem d_try:descOf T 161=some ti161.desc:=rfl
@[go_sem] theorem i_try:isIface ti161.desc=false:=rfl
def legB (s:Survey) (x:Leg):Bool:=linkB s x.frm x.to && inB x.long 1 100
theorem isLeg_pc (s:Survey) (x:Leg):PC Tryz.prog 104 [surA s,.agg (legC x)] (.pure (.bool (legB s x))):=by
 refine PC.of_empty (AC.run (E_ok _) mix Tryz.func104 m104 rfl rfl rfl (zE rfl) ?_) (by simp [bndL,AV.bnd]) rfl
 have hI:=zEq s (t:=198) (g:=240) rfl n240 (.agg (legC x)) (by simp [AV.bnd,bndL]) _ _ (endsL_pc x)
 unfold legB
 simp only [go_sem,boxA,zB,zD,zC,reduceIte,reduceCtorEq,zA]
 refine cp n115 hI (SubL.refl _) ?_
 cases linkB s x.frm x.to
 ·simp only [go_sem,qH,Tryz.f104,zB,zD,zC,reduceIte,reduceCtorEq,zA]
 simp only [go_sem,qY,zB,zD,zC,reduceIte,reduceCtorEq,zA]
 refine cp n100 (in_pc _ _ _) (SubL.refl _) ?_
 rw [show (decide (x.long ≥ 1) && decide (x.long≤100))=inB x.long 1 100 from rfl]
 simp only [go_sem,Tryz.f104,zB,zD,zC,reduceIte,reduceCtorEq,zA]
theorem link_iff {s:Survey} (h:2≤s.stations∧s.stations≤8) {a b:Int}:linkB s a b=true↔(0≤a∧a<s.stations)∧(0≤b∧b<s.stations)∧a≠b:=by
 unfold linkB
 rw [zT,zT,zBd h,zBd h,decide_eq_true_iff]
theorem leg_iff {s:Survey} (h:2≤s.stations∧s.stations≤8) {x:Leg}:legB s x=true↔LegOk s.stations x:=by
 unfold legB
 rw [zT,link_iff h,inB_iff]
 exact ⟨fun ⟨⟨a,b,c⟩,d⟩=>⟨a,b,c,d⟩,fun h=>⟨⟨h.frm,h.to,h.ne⟩,h.long⟩⟩
def tunB (s:Survey) (x:Tun):Bool:=linkB s x.frm x.to && (inB x.long 1 100 && (inB x.fall 0 20 && inB x.err 0 5))
theorem tun_iff {s:Survey} (h:2≤s.stations∧s.stations≤8) {x:Tun}:tunB s x=true↔TunOk s.stations x:=by
 unfold tunB
 rw [zT,zT,zT,link_iff h,inB_iff,inB_iff,inB_iff]
 exact ⟨fun ⟨⟨a,b,c⟩,d,e,f⟩=>⟨a,b,c,d,e,f⟩,fun h=>⟨⟨h.frm,h.to,h.ne⟩,h.long,h.fall,h.err⟩⟩
theorem isTunnel_pc (s:Survey) (x:Tun):PC Tryz.prog 109 [surA s,.agg (tunC x)] (.pure (.bool (tunB s x))):=by
 refine PC.of_empty (AC.run (E_ok _) mix Tryz.func109 m109 rfl rfl rfl (zE rfl) ?_) (by simp [bndL,AV.bnd]) rfl
 have hI:=zEq s (t:=200) (g:=241) rfl n241 (.agg (tunC x)) (by simp [AV.bnd,bndL]) _ _ (endsT_pc x)
 unfold tunB
 simp only [go_sem,boxA,zB,zD,zC,reduceIte,reduceCtorEq,zA]
 refine cp n115 hI (SubL.refl _) ?_
 cases linkB s x.frm x.to
 ·simp only [go_sem,qH,Tryz.f109,zB,zD,zC,reduceIte,reduceCtorEq,zA]
 simp only [go_sem,qY,zB,zD,zC,reduceIte,reduceCtorEq,zA]
 refine cp n100 (in_pc _ _ _) (SubL.refl _) ?_
 rw [show (decide (x.long ≥ 1) && decide (x.long≤100))=inB x.long 1 100 from rfl]
 cases inB x.long 1 100
 ·simp only [go_sem,qH,Tryz.f109,zB,zD,zC,reduceIte,reduceCtorEq,zA]
 simp only [go_sem,qY,zB,zD,zC,reduceIte,reduceCtorEq,zA]
 refine cp n100 (in_pc _ _ _) (SubL.refl _) ?_
 rw [show (decide (x.fall ≥ 0) && decide (x.fall≤20))=inB x.fall 0 20 from rfl]
 cases inB x.fall 0 20
 ·simp only [go_sem,qH,Tryz.f109,zB,zD,zC,reduceIte,reduceCtorEq,zA]
 simp only [go_sem,qY,zB,zD,zC,reduceIte,reduceCtorEq,zA]
 refine cp n100 (in_pc _ _ _) (SubL.refl _) ?_
 rw [show (decide (x.err ≥ 0) && decide (x.err≤5))=inB x.err 0 5 from rfl]
 simp only [go_sem,Tryz.f109,zB,zD,zC,reduceIte,reduceCtorEq,zA]
theorem rTunnel_pc (s:Survey) (x:Tun):PC Tryz.prog 44 [surA s,.agg (tunC x)] (.pure (.bool (tunB s x))):=by
 refine PC.of_empty (AC.run (E_ok _) mix Tryz.func44 m44 rfl rfl rfl (zE rfl) ?_) (by simp [bndL,AV.bnd]) rfl
 unfold tunB linkB
 simp only [go_sem,boxA,zB,zD,zC,reduceIte,reduceCtorEq,zA]
 refine cp n30 (zDi s x.frm) (SubL.refl _) ?_
 cases staB s x.frm
 ·simp only [go_sem,qH,Tryz.f44,zB,zD,zC,reduceIte,reduceCtorEq,zA]
 simp only [go_sem,qY,zB,zD,zC,reduceIte,reduceCtorEq,zA]
 refine cp n30 (zDi s x.to) (SubL.refl _) ?_
 cases staB s x.to
 ·simp only [go_sem,qH,Tryz.f44,zB,zD,zC,reduceIte,reduceCtorEq,zA]
 simp only [go_sem,qY,zB,zD,zC,reduceIte,reduceCtorEq,zA]
 by_cases hne:x.frm≠x.to
 ·have hd:=decide_eq_true hne
  simp only [go_sem,hd,qY,zB,zD,zC,reduceIte,reduceCtorEq,zA]
  refine cp n88 (rin_pc _ _ _) (SubL.refl _) ?_
  cases inB x.long 1 100
  ·simp only [go_sem,qH,Tryz.f44,zB,zD,zC,reduceIte,reduceCtorEq,zA]
  simp only [go_sem,qY,zB,zD,zC,reduceIte,reduceCtorEq,zA]
  refine cp n88 (rin_pc _ _ _) (SubL.refl _) ?_
  cases inB x.fall 0 20
  ·simp only [go_sem,qH,Tryz.f44,zB,zD,zC,reduceIte,reduceCtorEq,zA]
  simp only [go_sem,qY,zB,zD,zC,reduceIte,reduceCtorEq,zA]
  refine cp n88 (rin_pc _ _ _) (SubL.refl _) ?_
  simp only [go_sem,Tryz.f44,zB,zD,zC,reduceIte,reduceCtorEq,zA]
 ·have hd:=decide_eq_false hne
  simp only [go_sem,hd,qH,Tryz.f44,zB,zD,zC,reduceIte,reduceCtorEq,zA]
def badTry (s:Survey) (x:Try):Bool:=!linkB s x.frm x.to || !inB x.off 0 50
theorem try_iff {s:Survey} (h:2≤s.stations∧s.stations≤8) {x:Try}:badTry s x=false↔TryOk s.stations x:=by
 unfold badTry
 rw [Bool.or_eq_false_iff,Bool.not_eq_false',Bool.not_eq_false',link_iff h,inB_iff]
 exact ⟨fun ⟨⟨a,b,c⟩,d⟩=>⟨a,b,c,d⟩,fun h=>⟨⟨h.frm,h.to,h.ne⟩,h.off⟩⟩
theorem takes1_pc (s:Survey) (x:Try):PC Tryz.prog 114 [.agg (tryC x),.eptr (surC s) 0] (.pure (.bool (badTry s x))):=by
 refine PC.of_empty (AC.run (E_ok _) mix Tryz.func114 m114 rfl rfl rfl (zE rfl) ?_) (by simp [bndL,AV.bnd]) rfl
 have hI:=zEq s (t:=161) (g:=239) rfl n239 (.agg (tryC x)) (by simp [AV.bnd,bndL]) _ _ (endsY_pc x)
 unfold badTry
 simp only [go_sem,boxA,zB,zD,zC,reduceIte,reduceCtorEq,zA]
 refine cp n115 hI (SubL.refl _) ?_
 cases linkB s x.frm x.to
 ·simp only [go_sem,zAg,qF,Bool.true_or,Tryz.f114,zB,zD,zC,reduceIte,reduceCtorEq,zA]
 simp only [go_sem,zAg,zV,Bool.false_or,zB,zD,zC,reduceIte,reduceCtorEq,zA]
 refine cp n100 (in_pc _ _ _) (SubL.refl _) ?_
 rw [show (decide (x.off ≥ 0) && decide (x.off≤50))=inB x.off 0 50 from rfl]
 simp only [go_sem,zAg,Tryz.f114,zB,zD,zC,reduceIte,reduceCtorEq,zA]
end Go.Av.Lx
end
section
set_option maxHeartbeats 1000000
namespace Go.Av.Lx
open Go Go.Av Go.Av.Tb Go.Av.Fx Go.Proofs
open Go.Lv (Sight Survey Sw Sv SightOk Leg LegOk RangeOk Tun TunOk Try TryOk Stp fallW meetL meetH)
open Go.Fw (Sq ent Bd Mat)
structure JoinP (s:Survey) (V:Mat) (i j:Int):Prop where
 sq:Sq (Lv.num s) V
 hi:0≤i∧i<s.stations
 hj:0≤j∧j<s.stations
 e1:-8400≤ent V i.toNat j.toNat∧ent V i.toNat j.toNat≤8400
 e2:-8400≤ent V j.toNat i.toNat∧ent V j.toNat i.toNat≤8400
theorem joinP {s:Survey} (h:Sw s) {V:Mat} (hV:Lv.knownV s=some V) {i j:Int} (hi:0≤i∧i<s.stations) (hj:0≤j∧j<s.stations) (hf:ent V i.toNat j.toNat<far):JoinP s V i j:=by
 have a:i.toNat<Lv.num s:=by show i.toNat<s.stations.toNat;omega
 have b:j.toNat<Lv.num s:=by show j.toNat<s.stations.toNat;omega
 exact ⟨zBk (ds:=[]) hV,hi,hj,Lv.known_bd h hV a b hf,Lv.known_bd h hV b a (Lv.known_sym h hV a b hf)⟩
theorem falls_pc (s:Survey) (V:Mat) (x:Leg) (lo hi:Int) (hx:LegOk s.stations x) (hr:RangeOk lo hi) (hj:JoinP s V x.frm x.to):PC Tryz.prog 106 [kA s V,.agg (legC x),.int .i64 lo,.int .i64 hi] (.pure (.int .i64 (fallW V x lo hi))):=by
 refine PC.of_empty (AC.run (E_ok _) mix Tryz.func106 m106 rfl rfl rfl (zE rfl) ?_) (by simp [bndL,AV.bnd]) rfl
 obtain ⟨f,t,g⟩:=x
 obtain ⟨s1,s2⟩:=Lv.leg_small hx hr
 obtain ⟨sq,hi',hj',e1,e2⟩:=hj
 simp only at s1 s2 hi' hj' e1 e2
 obtain ⟨a,rfl⟩:∃ a:Nat,f=a:=⟨f.toNat,by omega⟩
 obtain ⟨b,rfl⟩:∃ b:Nat,t=b:=⟨t.toNat,by omega⟩
 have ha:a<Lv.num s:=by show a<s.stations.toNat;omega
 have hb:b<Lv.num s:=by show b<s.stations.toNat;omega
 unfold fallW
 simp only [qO] at e1 e2 ⊢
 have w1:IntKind.i64.wrap (g * lo)=g * lo:=wrap64 (by omega)
 have w2:IntKind.i64.wrap (g * hi)=g * hi:=wrap64 (by omega)
 have w3:IntKind.i64.wrap (0 - ent V a b) = -ent V a b:=by rw [wrap64 (by omega)];omega
 simp only [go_sem,boxA,kvC,zB,zD,zC,reduceIte,reduceCtorEq,zA]
 refine cp n85 (span_pc s sq hb ha) (SubL.refl _) ?_
 by_cases h1:-ent V a b ≥ g * lo
 ·by_cases h2:ent V b a≤g * hi
  ·rw [if_pos ⟨h1,h2⟩]
   simp only [go_sem,spanA,w1,w2,w3,h1,h2,decide_true,Tryz.f106,zB,zD,zC,reduceIte,reduceCtorEq,zA]
  ·rw [if_neg (fun hh=>h2 hh.2)]
   by_cases h3:ent V b a<g * lo
   ·rw [if_pos (.inl h3)]
    simp only [go_sem,spanA,w1,w2,w3,h1,h2,h3,decide_true,decide_false,Tryz.f106,zB,zD,zC,reduceIte,reduceCtorEq,zA]
   ·by_cases h4:-ent V a b > g * hi
    ·rw [if_pos (.inr h4)]
     simp only [go_sem,spanA,w1,w2,w3,h1,h2,h3,h4,decide_true,decide_false,Tryz.f106,zB,zD,zC,reduceIte,reduceCtorEq,zA]
    ·rw [if_neg (by omega)]
     simp only [go_sem,spanA,w1,w2,w3,h1,h2,h3,h4,decide_true,decide_false,Tryz.f106,zB,zD,zC,reduceIte,reduceCtorEq,zA]
 ·rw [if_neg (fun hh=>h1 hh.1)]
  by_cases h3:ent V b a<g * lo
  ·rw [if_pos (.inl h3)]
   simp only [go_sem,spanA,w1,w2,w3,h1,h3,decide_true,decide_false,Tryz.f106,zB,zD,zC,reduceIte,reduceCtorEq,zA]
  ·by_cases h4:-ent V a b > g * hi
   ·rw [if_pos (.inr h4)]
    simp only [go_sem,spanA,w1,w2,w3,h1,h3,h4,decide_true,decide_false,Tryz.f106,zB,zD,zC,reduceIte,reduceCtorEq,zA]
   ·rw [if_neg (by omega)]
    simp only [go_sem,spanA,w1,w2,w3,h1,h3,h4,decide_true,decide_false,Tryz.f106,zB,zD,zC,reduceIte,reduceCtorEq,zA]
def betwA (s:Survey) (i j:Int) (fine:Bool) (z:List AV) (r:Mat→List AV):AV:=
 if zAp s && (fine && (staB s i && staB s j)) then (match Lv.knownV s with
  | some V=>if ent V i.toNat j.toNat<far then .tuple (r V ++ [.int .i64 0]) else .tuple (z ++ [.int .i64 5])
  | none=>.tuple (z ++ [.int .i64 7]))
 else .tuple (z ++ [.int .i64 2])
theorem zEv {s:Survey} {i j:Int} {fine:Bool} {z:List AV} {r:Mat→List AV} (hz:bndL 0 0 z=true) (hr:∀ V,bndL 0 0 (r V)=true):(betwA s i j fine z r).bnd 0 0=true:=by
 have e:∀ l k,bndL 0 0 l=true→bndL 0 0 (l ++ [AV.int .i64 k])=true:=fun l k h=>by
  induction l with
  | nil=>rfl
  | cons a l ih =>
   simp only [bndL,zT,qX] at h ⊢
   exact ⟨h.1,ih h.2⟩
 unfold betwA
 split
 ·split
  ·split
   ·exact e _ _ (hr _)
   ·exact e _ _ hz
  ·exact e _ _ hz
 ·exact e _ _ hz
theorem zDd (s:Survey) (i j:Int) (fine:Bool) (z:List AV) (r:Mat→List AV) :
  (∃ k:Int,decide (k≠0)=true∧(k=2∨k=5∨k=7)∧zCp s i j fine=.tuple [zeroK,.int .i64 k]∧betwA s i j fine z r=.tuple (z ++ [.int .i64 k])) ∨
  (∃ V,Sv s∧fine=true∧Lv.knownV s=some V∧JoinP s V i j∧zCp s i j fine=.tuple [kA s V,.int .i64 0]∧betwA s i j fine z r=.tuple (r V ++ [.int .i64 0])):=by
 unfold zCp betwA
 cases hs:zAp s
 ·exact .inl ⟨2,rfl,.inl rfl,rfl,rfl⟩
 cases hf:fine
 ·exact .inl ⟨2,rfl,.inl rfl,rfl,rfl⟩
 cases hi:staB s i
 ·exact .inl ⟨2,rfl,.inl rfl,rfl,rfl⟩
 cases hj:staB s j
 ·exact .inl ⟨2,rfl,.inl rfl,rfl,rfl⟩
 have hv:=zCk.1 hs
 cases hV:Lv.knownV s with
 | none=>exact .inl ⟨7,rfl,.inr (.inr rfl),rfl,rfl⟩
 | some V =>
  simp only [zJ,if_true]
  by_cases hlt:ent V i.toNat j.toNat<far
  ·rw [if_pos hlt,if_pos hlt]
   exact .inr ⟨V,hv,by simp,by simp,joinP hv.toSw hV ((zBd hv.st).1 hi) ((zBd hv.st).1 hj) hlt,rfl,rfl⟩
  ·rw [if_neg hlt,if_neg hlt]
   exact .inl ⟨5,rfl,.inr (.inl rfl),rfl,rfl⟩
def fallsA (s:Survey) (x:Leg) (lo hi:Int):AV:=betwA s x.frm x.to (legB s x && rangeB lo hi) [.int .i64 0] fun V=>[.int .i64 (fallW V x lo hi)]
theorem Falls_pc (s:Survey) (hl:okL s.sights.length) (x:Leg) (lo hi:Int):PC Tryz.prog 39 [surA s,.agg (legC x),.int .i64 lo,.int .i64 hi] (.pure (fallsA s x lo hi)):=by
 refine PC.of_empty (AC.run (E_ok _) mix Tryz.func39 m39 rfl rfl rfl (zE rfl) ?_) (by simp [bndL,AV.bnd]) (zEv rfl fun _=>rfl)
 unfold fallsA
 simp only [go_sem,boxA,zB,zD,zC,reduceIte,reduceCtorEq,zA]
 refine qp n104 (isLeg_pc s x) (SubL.refl _) ?_
 cases hg:legB s x
 ·simp only [go_sem,qH,zB,zD,zC,reduceIte,reduceCtorEq,zA]
  refine qp n84 (zCh s hl x.frm x.to false) (SubL.refl _) ?_
  rcases zDd s x.frm x.to false [.int .i64 0] (fun V=>[.int .i64 (fallW V x lo hi)]) with ⟨k,hk,_,e1,e2⟩ | ⟨V,hv,hf,hV,hj,e1,e2⟩
  ·rw [qH,e1,e2]
   simp only [go_sem,zAc,hk,Tryz.f39,zB,zD,zC,reduceIte,reduceCtorEq,zA]
   all_goals rfl
  ·cases hf
 ·rw [qY]
  simp only [go_sem,qY,zB,zD,zC,reduceIte,reduceCtorEq,zA]
  refine qp n101 (isRange_pc lo hi) (SubL.refl _) ?_
  simp only [go_sem,zB,zD,zC,reduceIte,reduceCtorEq,zA]
  refine qp n84 (zCh s hl x.frm x.to (rangeB lo hi)) (SubL.refl _) ?_
  rcases zDd s x.frm x.to (rangeB lo hi) [.int .i64 0] (fun V=>[.int .i64 (fallW V x lo hi)]) with ⟨k,hk,_,e1,e2⟩ | ⟨V,hv,hf,hV,hj,e1,e2⟩
  ·rw [e1,e2]
   simp only [go_sem,zAc,hk,Tryz.f39,zB,zD,zC,reduceIte,reduceCtorEq,zA]
   all_goals rfl
  ·rw [e1,e2]
   simp only [go_sem,zAc,kvC,zB,zD,zC,reduceIte,reduceCtorEq,zA]
   refine cp n106 (falls_pc s V x lo hi ((leg_iff hv.st).1 hg) (range_iff.1 hf) hj) (SubL.refl _) ?_
   simp only [go_sem,Tryz.f39,zB,zD,zC,reduceIte,reduceCtorEq,zA]
   all_goals rfl
def meetA (V:Mat) (x:Tun):AV:=.agg [.int .i64 (meetL V x),.int .i64 (meetH V x)]
theorem meets_pc (s:Survey) (V:Mat) (x:Tun) (hx:TunOk s.stations x) (hj:JoinP s V x.frm x.to):PC Tryz.prog 110 [kA s V,.agg (tunC x)] (.pure (meetA V x)):=by
 refine PC.of_empty (AC.run (E_ok _) mix Tryz.func110 m110 rfl rfl rfl (zE rfl) ?_) (by simp [bndL,AV.bnd]) rfl
 have h1:=hx.fall'
 have h2:=hx.err'
 obtain ⟨f,t,g,l,e⟩:=x
 obtain ⟨sq,hi',hj',e1,e2⟩:=hj
 simp only at h1 h2 hi' hj' e1 e2
 obtain ⟨a,rfl⟩:∃ a:Nat,f=a:=⟨f.toNat,by omega⟩
 obtain ⟨b,rfl⟩:∃ b:Nat,t=b:=⟨t.toNat,by omega⟩
 have ha:a<Lv.num s:=by show a<s.stations.toNat;omega
 have hb:b<Lv.num s:=by show b<s.stations.toNat;omega
 unfold meetA meetL meetH
 simp only [qO] at e1 e2 ⊢
 have w1:IntKind.i64.wrap (g * l)=g * l:=wrap64 (by omega)
 have w2:IntKind.i64.wrap (g * e)=g * e:=wrap64 (by omega)
 have w3:IntKind.i64.wrap (0 - ent V a b) = -ent V a b:=by rw [wrap64 (by omega)];omega
 have w4:IntKind.i64.wrap (-ent V a b - g * l) = -ent V a b - g * l:=wrap64 (by omega)
 have w5:IntKind.i64.wrap (-ent V a b - g * l - g * e) = -ent V a b - g * l - g * e:=wrap64 (by omega)
 have w6:IntKind.i64.wrap (ent V b a - g * l)=ent V b a - g * l:=wrap64 (by omega)
 have w7:IntKind.i64.wrap (ent V b a - g * l+g * e)=ent V b a - g * l+g * e:=wrap64 (by omega)
 have hbd:∀ p q:Int,buildA T 28 [(0,.int .i64 p),(1,.int .i64 q)]=some (.agg [.int .i64 p,.int .i64 q]):=fun _ _=>rfl
 simp only [go_sem,boxA,kvC,zB,zD,zC,reduceIte,reduceCtorEq,zA]
 refine cp n85 (span_pc s sq hb ha) (SubL.refl _) ?_
 simp only [go_sem,spanA,w1,w2,w3,w4,w5,w6,w7,hbd,Tryz.f110,zB,zD,zC,reduceIte,reduceCtorEq,zA]
 all_goals rfl
def meetsA (s:Survey) (x:Tun):AV:=betwA s x.frm x.to (tunB s x) [.agg [.int .i64 0,.int .i64 0]] fun V=>[meetA V x]
theorem Meets_pc (s:Survey) (hl:okL s.sights.length) (x:Tun):PC Tryz.prog 42 [surA s,.agg (tunC x)] (.pure (meetsA s x)):=by
 refine PC.of_empty (AC.run (E_ok _) mix Tryz.func42 m42 rfl rfl rfl (zE rfl) ?_) (by simp [bndL,AV.bnd]) (zEv rfl fun _=>rfl)
 unfold meetsA
 simp only [go_sem,boxA,zB,zD,zC,reduceIte,reduceCtorEq,zA]
 refine qp n109 (isTunnel_pc s x) (SubL.refl _) ?_
 simp only [go_sem,zB,zD,zC,reduceIte,reduceCtorEq,zA]
 refine qp n84 (zCh s hl x.frm x.to (tunB s x)) (SubL.refl _) ?_
 rcases zDd s x.frm x.to (tunB s x) [.agg [.int .i64 0,.int .i64 0]] (fun V=>[meetA V x]) with ⟨k,hk,_,e1,e2⟩ | ⟨V,hv,hf,hV,hj,e1,e2⟩
 ·rw [e1,e2]
  simp only [go_sem,zAc,hk,Tryz.f42,zB,zD,zC,reduceIte,reduceCtorEq,zA]
  all_goals rfl
 ·rw [e1,e2]
  simp only [go_sem,zAc,kvC,zB,zD,zC,reduceIte,reduceCtorEq,zA]
  refine cp n110 (meets_pc s V x ((tun_iff hv.st).1 hf) hj) (SubL.refl _) ?_
  simp only [go_sem,meetA,Tryz.f42,zB,zD,zC,reduceIte,reduceCtorEq,zA]
  all_goals rfl
end Go.Av.Lx
end
section
namespace Go.Lv
open Go.Fw
structure HiIn (f:Int) (n c:Nat) (F:Int) (W:Mat):Prop where
 sq:Sq n W
 col:∀ i,i<n→ent W i c<f→ent W i c≤F
 row:∀ j,j<n→ent W c j<f→ent W c j≤F
 all:∀ i j,i<n→j<n→ent W i j<f→ent W i j≤2 * F
theorem HiIn.upd {f:Int} {n c a b:Nat} {F:Int} {W:Mat} (h:HiIn f n c F W) (ha:a<n) (hb:b<n) (hc:c<n):HiIn f n c F (upd f c a W b):=by
 unfold Fw.upd
 split
 ·rename_i g
  obtain ⟨g1,g2⟩:=g
  have e:=ent_put h.sq ha hb (min (ent W a b) (ent W a c+ent W c b))
  have k1:=h.col a ha g1
  have k2:=h.row b hb g2
  refine ⟨h.sq.put _ _ _,fun i hi hl => ?_,fun j hj hl => ?_,fun i j hi hj hl => ?_⟩
  ·rw [e] at hl ⊢
   split
   ·rename_i q
    obtain ⟨q1,q2⟩:=q
    subst q2;omega
   ·rename_i q
    rw [if_neg q] at hl;exact h.col i hi hl
  ·rw [e] at hl ⊢
   split
   ·rename_i q
    obtain ⟨q1,q2⟩:=q
    subst q1;omega
   ·rename_i q
    rw [if_neg q] at hl;exact h.row j hj hl
  ·rw [e] at hl ⊢
   split
   ·omega
   ·rename_i q
    rw [if_neg q] at hl;exact h.all i j hi hj hl
 ·exact h
theorem HiIn.upds {f:Int} {n c a:Nat} {F:Int} {W:Mat} (h:HiIn f n c F W) (ha:a<n) (hc:c<n):∀ b,b≤n→HiIn f n c F ((List.range b).foldl (Fw.upd f c a) W)
 | 0,_=>h
 | b+1,hb=>by
  rw [fold_succ]
  exact (HiIn.upds h ha hc b (by omega)).upd ha (by omega) hc
theorem HiIn.rows {f:Int} {n c:Nat} {F:Int} {W:Mat} (h:HiIn f n c F W) (hc:c<n):∀ a,a≤n→HiIn f n c F ((List.range a).foldl (Fw.row f n c) W)
 | 0,_=>h
 | a+1,ha=>by
  rw [fold_succ]
  exact (HiIn.rows h hc a (by omega)).upds (by omega) hc n (zM _)
end Go.Lv
end
section
set_option maxHeartbeats 2000000
namespace Go.Av.Lx
open Go Go.Av Go.Av.Tb Go.Av.Fx Go.Proofs
open Go.Lv (Sight Survey Sw Sv SightOk)
open Go.Fw (Sq ent Bd Mat upd row stage upto)
theorem wc_forE {E:Env} {c:MC} {Q:AQ} {ts:TS} {S:St} (N:Nat) (f:Nat→TS) (g:Nat→St→Prop) (h0:f 0=ts) (h1:g 0 S)
  (h:∀ k,k≤N → ∀ S,g k S → ∀ I:TS→St→Prop,(k<N → ∀ S',g (k+1) S'→I (f (k+1)) S')→WC E c (thenQ I Q) (f k) S):WC E (.loop c) Q ts S:=by
 refine zAu (fun m ts' S' => ∃ k,k≤N∧m=N - k∧ts'=f k∧g k S') N ⟨0,qG _,rfl,h0.symm,h1⟩ ?_
 rintro n ts' S' ⟨k,hk,rfl,rfl,hg⟩
 exact h k hk S' hg _ fun hlt S'' hg'=>zAj (N - (k+1)) (by omega) ⟨k+1,hlt,rfl,rfl,hg'⟩
@[go_sem] theorem bsRB (b o n c:Nat):zAe T 36 1 [(0,.sref b o n c)]=some (.slice [.sref b o n c] 1 .exact):=rfl
@[go_sem] theorem bd_rises:buildA T 38 []=some (.agg [.nilS,.nilS]):=rfl
def offO (off:Int) (x:Sight):Int:=if off<0 then x.off else off
def allB (by' off:Int) (l:List Sight):List Bd:=l.flatMap fun x=>Lv.sightD by' (offO off x) x
structure AllOk (n:Nat) (by' off:Int) (l:List Sight):Prop where
 n8:1≤n∧n≤8
 ok:∀ x∈l,SightOk n x
 bys:1≤by'∧by'≤8
 offs:-1≤off∧off≤8000
theorem rise_by {r b:Int} (hr:-1000≤r∧r≤1000) (hb:1≤b∧b≤8):-8000≤r * b∧r * b≤8000:=by
 have:b=1∨b=2∨b=3∨b=4∨b=5∨b=6∨b=7∨b=8:=by omega
 rcases this with rfl | rfl | rfl | rfl | rfl | rfl | rfl | rfl <;> omega
theorem AllOk.num {n:Nat} {by' off:Int} {l:List Sight} (h:AllOk n by' off l) {x:Sight} (hx:x∈l):(-8000≤x.rise * by'∧x.rise * by'≤8000)∧(0≤offO off x∧offO off x≤8000):=by
 have ho:=h.ok x hx
 have h1:=ho.off;have h2:=h.offs
 refine ⟨rise_by ho.rise h.bys, ?_⟩
 unfold offO
 split <;> omega
theorem AllOk.oks {n:Nat} {by' off:Int} {l:List Sight} (h:AllOk n by' off l):Lv.Oks n (allB by' off l):=fun c hc=>by
 obtain ⟨x,hx,hc⟩:=List.mem_flatMap.1 hc
 obtain ⟨h1,h2⟩:=h.num hx
 have ho:=h.ok x hx
 have a:=ho.frm;have b:=ho.to;have d:=ho.ne
 have hb:Lv.big=20000:=rfl
 unfold Lv.sightD at hc
 simp only [yM,yA,or_false] at hc
 rcases hc with rfl | rfl
 ·exact ⟨by show x.frm.toNat<n;omega,by show x.to.toNat<n;omega,by show x.frm.toNat≠x.to.toNat;omega,by show -Lv.big≤x.rise * by'+offO off x;omega,by show x.rise * by'+offO off x≤Lv.big;omega⟩
 ·exact ⟨by show x.to.toNat<n;omega,by show x.frm.toNat<n;omega,by show x.to.toNat≠x.frm.toNat;omega,by show -Lv.big≤offO off x - x.rise * by';omega,by show offO off x - x.rise * by'≤Lv.big;omega⟩
end Go.Av.Lx
end
section
set_option maxHeartbeats 1000000
namespace Go.Av.Lx
open Go Go.Av Go.Av.Tb Go.Av.Fx Go.Proofs
open Go.Lv (Sight Survey Sw Sv SightOk Leg LegOk RangeOk Tun TunOk Try TryOk Stp fallW meetL meetH bestAt driveF wideI)
open Go.Fw (Sq ent Bd Mat)
abbrev choC (f:Nat→Int) (i:Nat):List AV:=[.int .i64 i,.int .i64 (f i)]
def chos (f:Nat→Int) (n:Nat):List AV:=(List.range n).flatMap (choC f)
theorem chos_len (f:Nat→Int) (n:Nat):(chos f n).length=n * 2:=by
 unfold chos;rw [cat_len (f:=choC f) (w:=2) (fun _=>rfl),List.length_range]
theorem chos_bnd (n k:Nat) (f:Nat→Int) (m:Nat):bndL n k (chos f m)=true:=zBb _ (fun _=>rfl) _
theorem chos_succ (f:Nat→Int) (n:Nat):chos f n ++ [.int .i64 n,.int .i64 (f n)]=chos f (n+1):=by
 unfold chos;rw [yN];simp
theorem chos_at (f:Nat→Int) {n k:Nat} (h:k<n):((chos f n).drop (k * 2)).take 2=choC f k:=by
 have:=cat_at (f:=choC f) (w:=2) (fun _=>rfl) (List.range n) k (by simpa using h)
 rw [List.getElem_range] at this
 exact this
theorem narrower_pc (a b c d:Int):PC Tryz.prog 112 [.agg [.int .i64 a,.int .i64 b],.agg [.int .i64 c,.int .i64 d]] (.pure (.bool (decide (b<d)))):=by
 refine PC.of_empty (AC.run (E_ok _) mix Tryz.func112 m112 rfl rfl rfl (zE rfl) ?_) (by simp [bndL,AV.bnd]) rfl
 simp only [go_sem,boxA,Tryz.f112,zB,zD,zC,reduceIte,reduceCtorEq,zA]
theorem best_pc (f:Nat→Int) (n:Nat) (h0:0<n) (hn:n≤1000):PC Tryz.prog 111 [.slice (chos f n) n .unk,.func (.func 112) [] []] (.pure (.agg [.int .i64 (bestAt f (n - 1):Nat),.int .i64 (f (bestAt f (n - 1)))])):=by
 refine PC.of_empty (AC.run (E_ok _) mix Tryz.func111 m111 rfl rfl rfl (zE rfl) ?_) (by simp [bndL,AV.bnd,chos_bnd]) rfl
 have x0:0≤(0:Int)∧(0:Int)<(n:Nat):=by omega
 have x3:0 * 2+2≤(chos f n).length:=by rw [chos_len];omega
 have x4:=chos_at f (k:=0) h0
 have z0:Int.toNat 0=0:=rfl
 have hfun:∀ {n:Nat} {k:Nat},(AV.func (.func 112) [] []).bnd n k=true:=rfl
 simp only [go_sem,x0,x3,x4,z0,and_self,zAd,AV.cells,AV.one,zL,zO,zJ,splice,zI,zH,zAa,zB,zD,zC,reduceIte,reduceCtorEq,zA]
 refine wc_forE n (fun k=>[(1,.func (.func 112) [] []),(4,.ref 0 0),(5,.ref 1 0),(11,.slice (chos f n) n .unk),(12,.int .i64 n),(13,.int .i64 k)])
  (fun k S => ∃ X,S=⟨[some (.cells [.int .i64 0,.int .i64 0]),some (.cells [.int .i64 (bestAt f (k - 1):Nat),.int .i64 (f (bestAt f (k - 1)))])] ++ X,0,[]⟩) rfl ⟨[],rfl⟩ ?_
 rintro k hk S ⟨X,rfl⟩ I hI
 by_cases hlt:k<n
 ·have h1:(k:Int)<n:=by omega
  have h2:0≤(k:Int)∧(k:Int)<(n:Nat):=by omega
  have h3:k * 2+2≤(chos f n).length:=by rw [chos_len];omega
  have h4:IntKind.i64.wrap ((k:Int)+1)=(k+1:Nat):=wrap64 (by omega)
  have h5:=chos_at f (k:=k) hlt
  have hI:=fun S'=>hI hlt S'
  rw [Nat.add_sub_cancel] at hI
  obtain ⟨L,hL⟩:∃ L,([some (.cells [.int .i64 0,.int .i64 0]),some (.cells [.int .i64 (bestAt f (k - 1):Nat),.int .i64 (f (bestAt f (k - 1)))])] ++ X:List (Option Blk))=L:=⟨_,rfl⟩
  have c1:=zAf L
  have c2:=fun x B=>zAs L x B
  have g1:∀ y,cellsAt (L ++ [y]) 1=some [.int .i64 (bestAt f (k - 1):Nat),.int .i64 (f (bestAt f (k - 1)))]:=fun y=>by rw [← hL];rfl
  have s1:∀ y B,setH (L ++ [y]) 1 B=[some (.cells [.int .i64 0,.int .i64 0]),some B] ++ (X ++ [y]):=fun y B=>by rw [← hL];rfl
  rw [hL]
  simp only [go_sem,l111_0,h1,decide_true,h2,h3,h5,zAi,and_self,c1,c2,g1,zAd,AV.cells,AV.one,zL,zO,zJ,splice,zI,zH,zB,zD,zC,reduceIte,reduceCtorEq,zA]
  refine cp n112 (narrower_pc _ _ _ _) (SubL.refl _) ?_
  by_cases hb:f k<f (bestAt f (k - 1))
  ·have e:bestAt f k=k:=by
    cases k with
    | zero=>rfl
    | succ k =>
     rw [Nat.add_sub_cancel] at hb
     show (if _ then _ else _)=_
     rw [if_pos hb]
   simp only [go_sem,hb,decide_true,c1,g1,s1,zAd,AV.cells,AV.one,zL,zO,zJ,splice,zI,zH,h4,zB,zD,zC,reduceIte,reduceCtorEq,zA]
   exact hI _ ⟨X ++ [some (.cells [.int .i64 k,.int .i64 (f k)])],by rw [e];rfl⟩
  ·have e:bestAt f k=bestAt f (k - 1):=by
    cases k with
    | zero=>rfl
    | succ k =>
     rw [Nat.add_sub_cancel] at hb ⊢
     show (if _ then _ else _)=_
     rw [if_neg hb]
   simp only [go_sem,hb,decide_false,h4,zB,zD,zC,reduceIte,reduceCtorEq,zA]
   exact hI _ ⟨X ++ [some (.cells [.int .i64 k,.int .i64 (f k)])],by rw [e,← hL];simp;try rfl⟩
 ·have h1:¬ (k:Int)<n:=by omega
  have e:k=n:=by omega
  subst e
  simp only [go_sem,l111_0,h1,decide_false,AV.cells,AV.one,zL,zO,zJ,splice,zAd,Tryz.f111,zB,zD,zC,reduceIte,reduceCtorEq,zA]
theorem wide_if (lo hi:Int):(if -hi > if hi > if -lo > lo then -lo else lo then hi else if -lo > lo then -lo else lo then -hi else if hi > if -lo > lo then -lo else lo then hi else if -lo > lo then -lo else lo)=wideI lo hi:=by
 unfold wideI
 repeat' split
 all_goals omega
def drivesA (s:Survey) (x:Tun):AV:=betwA s x.frm x.to (tunB s x) [.int .i64 0,.int .i64 0] fun V=>[.int .i64 (bestAt (driveF V x) 20:Nat),.int .i64 (driveF V x (bestAt (driveF V x) 20))]
theorem Drives_pc (s:Survey) (hl:okL s.sights.length) (x:Tun):PC Tryz.prog 43 [surA s,.agg (tunC x)] (.pure (drivesA s x)):=by
 refine PC.of_empty (AC.run (E_ok _) mix Tryz.func43 m43 rfl rfl rfl (zE rfl) ?_) (by simp [bndL,AV.bnd]) (zEv rfl fun _=>rfl)
 unfold drivesA
 simp only [go_sem,boxA,zB,zD,zC,reduceIte,reduceCtorEq,zA]
 refine qp n109 (isTunnel_pc s x) (SubL.refl _) ?_
 simp only [go_sem,zB,zD,zC,reduceIte,reduceCtorEq,zA]
 refine qp n84 (zCh s hl x.frm x.to (tunB s x)) (SubL.refl _) ?_
 rcases zDd s x.frm x.to (tunB s x) [.int .i64 0,.int .i64 0] (fun V=>[.int .i64 (bestAt (driveF V x) 20:Nat),.int .i64 (driveF V x (bestAt (driveF V x) 20))]) with ⟨k,hk,_,e1,e2⟩ | ⟨V,hv,hf,hV,hj,e1,e2⟩
 ·rw [e1,e2]
  simp only [go_sem,zAc,hk,Tryz.f43,zB,zD,zC,reduceIte,reduceCtorEq,zA]
  all_goals rfl
 rw [e1,e2]
 simp only [go_sem,zAc,kvC,zB,zD,zC,reduceIte,reduceCtorEq,zA]
 have hto:=(tun_iff hv.st).1 hf
 have hstep:∀ k:Nat,k≤20→TunOk s.stations (Lv.withFall x k):=fun k hk=>⟨hto.frm,hto.to,hto.ne,hto.long,by show 0≤(k:Int)∧(k:Int)≤20;omega,hto.err⟩
 have hjk:∀ k:Nat,JoinP s V (Lv.withFall x k).frm (Lv.withFall x k).to:=fun k=>hj
 refine zAu (fun m ts' S' => ∃ k W nt tk X y,k≤21∧m=21 - k∧ts'=[(3,.ref 1 0),(7,.ref 2 0),(9,W),(28,.int .i64 (k:Nat))]∧S'=⟨[some (.cells (surC s)),some (.cells (tunC (Lv.withFall x y))),some (.cells (kvC s (wS V)))] ++ X,nt,tk⟩∧Own (chos (driveF V x) k) k W nt tk) 21 ⟨0,.nilS,0,[],[],x.fall,by omega,rfl,rfl,rfl,Own.nil _ _⟩ ?_
 rintro m ts' S' ⟨k,W,nt,tk,X,y,hk,rfl,rfl,rfl,ho⟩
 by_cases hlt:k<21
 ·have h1:(k:Int)<21:=by omega
  have h4:IntKind.i64.wrap ((k:Int)+1)=(k+1:Nat):=wrap64 (by omega)
  have hp:=meets_pc s V (Lv.withFall x k) (hstep k (by omega)) (hjk k)
  simp only [go_sem,l43_0,h1,decide_true,kvC,zB,zD,zC,reduceIte,reduceCtorEq,zA]
  refine cp n110 hp (SubL.refl _) ?_
  have c1:∀ a b c l,cellsAt (a :: b :: c :: (X ++ [some (.cells l)])) (X.length+1+1+1)=some l:=fun a b c l=>zAf (a :: b :: c :: X) l
  have c2:∀ a b c x B,setH (a :: b :: c :: (X ++ [x])) (X.length+1+1+1) B=a :: b :: c :: (X ++ [some B]):=fun a b c x B=>zAs (a :: b :: c :: X) x B
  have f1:=(hstep k (by omega)).fall'
  have f2:=(hstep k (by omega)).err'
  have e1':=hj.e1
  have e2':=hj.e2
  have w1:IntKind.i64.wrap (0 - meetL V (Lv.withFall x k)) = -meetL V (Lv.withFall x k):=by
   rw [wrap64 (by unfold meetL;simp only [Lv.withFall] at f1 f2 ⊢;omega)];omega
  have w2:IntKind.i64.wrap (0 - meetH V (Lv.withFall x k)) = -meetH V (Lv.withFall x k):=by
   rw [wrap64 (by unfold meetH;simp only [Lv.withFall] at f1 f2 ⊢;omega)];omega
  simp only [go_sem,meetA,c1,c2,w1,w2,zAd,AV.cells,AV.one,zL,zO,zJ,splice,zI,zH,zAa,maxsA,unA,zX,zB,zD,zC,reduceIte,reduceCtorEq,zA]
  rw [wide_if]
  refine zEa (lx:=[.int .i64 k,.int .i64 (driveF V x k)]) rowChoices ho (chos_len _ _) rfl (by decide) rfl (by omega) fun W' tk' g => ?_
  simp only [go_sem,h4,zB,zD,zC,reduceIte,reduceCtorEq,zA]
  refine zAj (21 - (k+1)) (by omega) ⟨k+1,W',nt+1,tk',_,(k:Int),by omega,rfl,rfl,rfl, ?_⟩
  have:=g.own
  rw [chos_succ] at this
  exact this
 ·have h1:¬ (k:Int)<21:=by omega
  have e:k=21:=by omega
  subst e
  have c1:∀ a b c l,cellsAt (a :: b :: c :: (X ++ [some (.cells l)])) (X.length+1+1+1)=some l:=fun a b c l=>zAf (a :: b :: c :: X) l
  have c2:∀ a b c x B,setH (a :: b :: c :: (X ++ [x])) (X.length+1+1+1) B=a :: b :: c :: (X ++ [some B]):=fun a b c x B=>zAs (a :: b :: c :: X) x B
  simp only [go_sem,l43_0,h1,decide_false,zB,zD,zC,reduceIte,reduceCtorEq,zA]
  refine cp n111 (best_pc (driveF V x) 21 (by decide) (by decide)) (SubL.cons ho.sub (SubL.refl _)) ?_
  simp only [go_sem,c1,c2,zAd,AV.cells,AV.one,zL,zO,zJ,splice,zI,zH,Tryz.f43,zB,zD,zC,reduceIte,reduceCtorEq,zA]
  all_goals rfl
set_option maxHeartbeats 1000000
@[go_sem] theorem bd_span (p q:Int):buildA T 28 [(0,.int .i64 p),(1,.int .i64 q)]=some (.agg [.int .i64 p,.int .i64 q]):=rfl
set_option maxHeartbeats 1000000

set_option maxHeartbeats 1000000
abbrev zeroR:AV:=.agg [.nilS,.nilS]
theorem wide_if2 (lo hi:Int):(if (if -hi > hi then -hi else hi) > (if -lo > lo then -lo else lo) then (if -hi > hi then -hi else hi) else (if -lo > lo then -lo else lo))=wideI lo hi:=by
 unfold wideI
 repeat' split
 all_goals omega
theorem Wide_pc (lo hi:Int) (h1:-1000000≤lo∧lo≤1000000) (h2:-1000000≤hi∧hi≤1000000):PC Tryz.prog 70 [.agg [.int .i64 lo,.int .i64 hi]] (.pure (.int .i64 (wideI lo hi))):=by
 refine PC.of_empty (AC.run (E_ok _) mix Tryz.func70 m70 rfl rfl rfl (zE rfl) ?_) (by simp [bndL,AV.bnd]) rfl
 have w1:IntKind.i64.wrap (0 - lo) = -lo:=by rw [wrap64 (by omega)];omega
 have w2:IntKind.i64.wrap (0 - hi) = -hi:=by rw [wrap64 (by omega)];omega
 simp only [go_sem,boxA,unA,w1,w2,zAa,maxsA,zX,Tryz.f70,zB,zD,zC,reduceIte,reduceCtorEq,zA]
 rw [wide_if2]
def leastF (f:Nat→Int) (k:Nat):Int:=if k=0 then -1 else f (bestAt f (k - 1))
set_option maxHeartbeats 1000000
theorem Same_pc (a b:List Int) (ha:okL a.length) (hb:okL b.length):PC Tryz.prog 29 [sl a,sl b] (.pure (.bool (decide (a=b)))):=by
 refine PC.of_empty (AC.run (E_ok _) mix Tryz.func29 m29 rfl rfl rfl (zE rfl) ?_) (by simp [bndL,AV.bnd]) rfl
 by_cases hl:a.length=b.length
 ·have hd:decide ((a.length:Int)≠b.length)=false:=decide_eq_false (by omega)
  simp only [go_sem,zAa,hd,zB,zD,zC,reduceIte,reduceCtorEq,zA]
  refine zBi a.length (fun k => ∀ i (h1:i<k) (h2:i<a.length) (h3:i<b.length),a[i]=b[i]) (fun k=>[(0,sl a),(1,sl b),(5,.int .i64 (k:Nat))]) (fun _=>St.empty) (fun i hi=>absurd hi (qU _)) rfl rfl ?_
  intro k hk hP I hI
  by_cases hlt:k<a.length
  ·have h1:(k:Int)<a.length:=by omega
   have x1:0≤(k:Int)∧(k:Int)<a.length:=by omega
   have x2:0≤(k:Int)∧(k:Int)<b.length:=by omega
   have h4:IntKind.i64.wrap ((k:Int)+1)=(k+1:Nat):=wrap64 (by omega)
   have hkb:k<b.length:=by omega
   have g1:a[k]? = some a[k]:=zF hlt
   have g2:b[k]? = some b[k]:=zF hkb
   by_cases e:a[k]=b[k]
   ·have hd:decide (a[k]≠b[k])=false:=decide_eq_false fun hh=>hh e
    simp only [go_sem,l29_0,zAa,h1,decide_true,x1,x2,ints_get,g1,g2,zAi,and_self,zX,hd,h4,zB,zD,zC,reduceIte,reduceCtorEq,zA]
    refine hI hlt fun i h1 h2 h3 => ?_
    by_cases ei:i=k
    ·subst ei;exact e
    ·exact hP i (by omega) h2 h3
   ·have hd:decide (a[k]≠b[k])=true:=decide_eq_true e
    have hne:decide (a=b)=false:=decide_eq_false fun hh=>by subst hh;exact e rfl
    simp only [go_sem,l29_0,zAa,h1,decide_true,x1,x2,ints_get,g1,g2,zAi,and_self,zX,hd,Tryz.f29,zB,zD,zC,reduceIte,reduceCtorEq,zA]
    rw [hne]
  ·have h1:¬ (k:Int)<a.length:=by omega
   have he:decide (a=b)=true:=decide_eq_true (List.ext_getElem hl fun i h1 h2=>hP i (by omega) h1 h2)
   simp only [go_sem,l29_0,zAa,h1,decide_false,Tryz.f29,zB,zD,zC,reduceIte,reduceCtorEq,zA]
   rw [he]
 ·have hd:decide ((a.length:Int)≠b.length)=true:=decide_eq_true (by omega)
  have hne:decide (a=b)=false:=decide_eq_false fun hh=>hl (by rw [hh])
  simp only [go_sem,zAa,hd,Tryz.f29,zB,zD,zC,reduceIte,reduceCtorEq,zA]
  rw [hne]
theorem neq_stp (x y:Stp):binA T .neq 127 (.agg (stpC x)) (.agg (stpC y))=some (.bool (decide (x≠y))):=by
 obtain ⟨a,p⟩:=x
 obtain ⟨b,q⟩:=y
 have e:binA T .neq 127 (.agg [.int .i64 a,.bool p]) (.agg [.int .i64 b,.bool q])=(if a == b then (if p == q then some true else some false) else some false).map (.bool !·):=rfl
 show binA T .neq 127 (.agg [.int .i64 a,.bool p]) (.agg [.int .i64 b,.bool q])=_
 rw [e]
 by_cases h1:a=b
 ·subst h1
  by_cases h2:p=q
  ·subst h2;simp
  ·simp [h2]
 ·simp [h1]
theorem stps_at (l:List Stp) (k:Nat) (h:k<l.length):((stpsC l).drop (k * 2)).take 2=stpC l[k]:=cat_at (f:=stpC) (w:=2) (fun _=>rfl) l k h
theorem SameSteps_pc (a b:List Stp) (ha:okL a.length) (hb:okL b.length):PC Tryz.prog 76 [stpsA a,stpsA b] (.pure (.bool (decide (a=b)))):=by
 refine PC.of_empty (AC.run (E_ok _) mix Tryz.func76 m76 rfl rfl rfl (zE rfl) ?_) (by simp [bndL,AV.bnd]) rfl
 by_cases hl:a.length=b.length
 ·have hd:decide ((a.length:Int)≠b.length)=false:=decide_eq_false (by omega)
  simp only [go_sem,zAa,hd,zB,zD,zC,reduceIte,reduceCtorEq,zA]
  refine zBi a.length (fun k => ∀ i (h1:i<k) (h2:i<a.length) (h3:i<b.length),a[i]=b[i]) (fun k=>[(0,stpsA a),(1,stpsA b),(5,.int .i64 (k:Nat))]) (fun _=>St.empty) (fun i hi=>absurd hi (qU _)) rfl rfl ?_
  intro k hk hP I hI
  by_cases hlt:k<a.length
  ·have h1:(k:Int)<a.length:=by omega
   have x1:0≤(k:Int)∧(k:Int)<a.length:=by omega
   have x2:0≤(k:Int)∧(k:Int)<b.length:=by omega
   have h4:IntKind.i64.wrap ((k:Int)+1)=(k+1:Nat):=wrap64 (by omega)
   have hkb:k<b.length:=by omega
   have k1:k * 2+2≤(stpsC a).length:=by rw [zEu];omega
   have k2:k * 2+2≤(stpsC b).length:=by rw [zEu];omega
   have g1:=stps_at a k hlt
   have g2:=stps_at b k hkb
   have nq:=neq_stp a[k] b[k]
   by_cases e:a[k]=b[k]
   ·have hd:decide (a[k]≠b[k])=false:=decide_eq_false fun hh=>hh e
    rw [hd] at nq
    simp only [go_sem,l76_0,zAa,h1,decide_true,x1,x2,k1,k2,g1,g2,zAi,and_self,nq,h4,zB,zD,zC,reduceIte,reduceCtorEq,zA]
    refine hI hlt fun i h1 h2 h3 => ?_
    by_cases ei:i=k
    ·subst ei;exact e
    ·exact hP i (by omega) h2 h3
   ·have hd:decide (a[k]≠b[k])=true:=decide_eq_true e
    rw [hd] at nq
    have hne:decide (a=b)=false:=decide_eq_false fun hh=>by subst hh;exact e rfl
    simp only [go_sem,l76_0,zAa,h1,decide_true,x1,x2,k1,k2,g1,g2,zAi,and_self,nq,Tryz.f76,zB,zD,zC,reduceIte,reduceCtorEq,zA]
    rw [hne]
  ·have h1:¬ (k:Int)<a.length:=by omega
   have he:decide (a=b)=true:=decide_eq_true (List.ext_getElem hl fun i h1 h2=>hP i (by omega) h1 h2)
   simp only [go_sem,l76_0,zAa,h1,decide_false,Tryz.f76,zB,zD,zC,reduceIte,reduceCtorEq,zA]
   rw [he]
 ·have hd:decide ((a.length:Int)≠b.length)=true:=decide_eq_true (by omega)
  have hne:decide (a=b)=false:=decide_eq_false fun hh=>hl (by rw [hh])
  simp only [go_sem,zAa,hd,Tryz.f76,zB,zD,zC,reduceIte,reduceCtorEq,zA]
  rw [hne]
end Go.Av.Lx
end

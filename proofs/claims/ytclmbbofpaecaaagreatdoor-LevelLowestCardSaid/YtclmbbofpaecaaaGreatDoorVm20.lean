/- Part 20 of the proof. -/
import Derived.Test.YtclmbbofpaecaaaGreatDoorVm19
set_option linter.all false
set_option linter.unusedVariables false
set_option linter.unusedSimpArgs false
set_option linter.unusedSectionVars false
open Bool renaming and_self → zJ, and_eq_true → zT, not_true → zY, not_false → qE, false_and → qV, true_and → yO
open Int renaming toNat_natCast → qS, mul_assoc → yB, mul_nonneg → yI
open List renaming length_append → zZ, length_cons → qC, cons_append → qP, flatMap_cons → yA, all_eq_true → yG
open Nat renaming reduceLeDiff → zA, reduceEqDiff → zB, reduceAdd → zC, reduceBEq → zD, le_of_ble_eq_true → zE, le_refl → zN
section
namespace Go.Lv
open Go.Fw Go.Wk
structure Leg where
 frm:Int
 to:Int
 long:Int
 deriving DecidableEq
structure LegOk (n:Int) (x:Leg):Prop where
 frm:0≤x.frm∧x.frm<n
 to:0≤x.to∧x.to<n
 ne:x.frm≠x.to
 long:1≤x.long∧x.long≤100
structure RangeOk (lo hi:Int):Prop where
 l0:0≤lo
 mid:lo≤hi
 top:hi≤20
theorem leg_small {n lo hi:Int} {x:Leg} (hx:LegOk n x) (hr:RangeOk lo hi):(0≤x.long * lo∧x.long * lo≤2000)∧(0≤x.long * hi∧x.long * hi≤2000):=by
 have h1:=hx.long;have h2:=hr.l0;have h3:=hr.mid;have h4:=hr.top
 have a:=yI (a:=x.long) (b:=lo) (by omega) h2
 have b:=yI (a:=x.long) (b:=hi) (by omega) (by omega)
 have c:=Int.mul_le_mul (a:=x.long) (b:=lo) (c:=100) (d:=20) (by omega) (by omega) h2 (by omega)
 have d:=Int.mul_le_mul (a:=x.long) (b:=hi) (c:=100) (d:=20) (by omega) (by omega) (by omega) (by omega)
 omega
def fallW (V:Mat) (x:Leg) (lo hi:Int):Int:=
 if -ent V x.frm.toNat x.to.toNat ≥ x.long * lo∧ent V x.to.toNat x.frm.toNat≤x.long * hi then 3
 else if ent V x.to.toNat x.frm.toNat<x.long * lo ∨ -ent V x.frm.toNat x.to.toNat > x.long * hi then 1 else 2
def legP (lo hi:Int) (x:Leg):List Bd:=[⟨x.to.toNat,x.frm.toNat,x.long * hi⟩,⟨x.frm.toNat,x.to.toNat,-(x.long * lo)⟩]
def legsP (lo hi:Int) (l:List Leg):List Bd:=l.flatMap (legP lo hi)
def carryB (s:Survey) (l:List Leg) (lo hi:Int):Bool:=(clo (num s) (legsP lo hi l ++ surveyB s)).isSome
def carryW (s:Survey) (V:Mat) (l:List Leg) (lo hi:Int):Int:=if (l.all fun x=>decide (fallW V x lo hi=3))=true then 3 else if carryB s l lo hi=true then 2 else 1

def bestAt (f:Nat→Int):Nat→Nat
 | 0=>0
 | k+1=>if f (k+1)<f (bestAt f k) then k+1 else bestAt f k
structure Tun where
 frm:Int
 to:Int
 long:Int
 fall:Int
 err:Int
 deriving DecidableEq
structure TunOk (n:Int) (x:Tun):Prop where
 frm:0≤x.frm∧x.frm<n
 to:0≤x.to∧x.to<n
 ne:x.frm≠x.to
 long:1≤x.long∧x.long≤100
 fall:0≤x.fall∧x.fall≤20
 err:0≤x.err∧x.err≤5
theorem mul_small {a b A B:Int} (ha:0≤a∧a≤A) (hb:0≤b∧b≤B):0≤a * b∧a * b≤A * B:=
 ⟨yI ha.1 hb.1,Int.mul_le_mul ha.2 hb.2 hb.1 (by omega)⟩
theorem TunOk.fall' {n:Int} {x:Tun} (h:TunOk n x):0≤x.long * x.fall∧x.long * x.fall≤2000:=by
 have:=mul_small (A:=100) (B:=20) ⟨by have:=h.long;omega,h.long.2⟩ h.fall;omega
theorem TunOk.err' {n:Int} {x:Tun} (h:TunOk n x):0≤x.long * x.err∧x.long * x.err≤500:=by
 have:=mul_small (A:=100) (B:=5) ⟨by have:=h.long;omega,h.long.2⟩ h.err;omega
def meetL (V:Mat) (x:Tun):Int:=-ent V x.frm.toNat x.to.toNat - x.long * x.fall - x.long * x.err
def meetH (V:Mat) (x:Tun):Int:=ent V x.to.toNat x.frm.toNat - x.long * x.fall+x.long * x.err
def wideI (lo hi:Int):Int:=max (max lo (-lo)) (max hi (-hi))
def withFall (x:Tun) (n:Int):Tun:={ x with fall:=n }
def driveF (V:Mat) (x:Tun) (n:Nat):Int:=wideI (meetL V (withFall x n)) (meetH V (withFall x n))
def risAt (n:Nat) (x:List Int) (i:Nat):Bool:=decide (0≤x.getD i 0) && decide (x.getD i 0<n) && (decide (i=0) || decide (x.getD (i - 1) 0<x.getD i 0))
def risB (n:Nat) (x:List Int):Bool:=(List.range x.length).all (risAt n x)
def lexI:List Int→List Int→Bool
 | x :: a,y :: b=>if x=y then lexI a b else decide (x<y)
 | _,_=>false
theorem lexI_drop:∀ (a b:List Int) (k:Nat),a.length=b.length→(∀ i (h1:i<k) (h2:i<a.length) (h3:i<b.length),a[i]=b[i])→lexI a b=lexI (a.drop k) (b.drop k)
 | a,b,0,_,_=>rfl
 | [],[],k+1,_,_=>rfl
 | x :: a,y :: b,k+1,hl,h=>by
  have h0:=h 0 (by omega) (by simp) (by simp)
  simp only [List.getElem_cons_zero] at h0
  subst h0
  simp only [lexI,if_true,List.drop_succ_cons]
  exact lexI_drop a b k (by simpa using hl) fun i h1 h2 h3=>by
   have:=h (i+1) (by omega) (by simpa using h2) (by simpa using h3)
   simpa using this
def stpLt (x y:Stp):Bool:=decide (x.sight<y.sight) || (decide (x.sight=y.sight) && !x.back)
def befS:List Stp→List Stp→Bool
 | x :: a,y :: b=>if x=y then befS a b else stpLt x y
 | _,_=>false
theorem befS_drop:∀ (a b:List Stp) (k:Nat),a.length=b.length→(∀ i (h1:i<k) (h2:i<a.length) (h3:i<b.length),a[i]=b[i])→befS a b=befS (a.drop k) (b.drop k)
 | a,b,0,_,_=>rfl
 | [],[],k+1,_,_=>rfl
 | x :: a,y :: b,k+1,hl,h=>by
  have h0:=h 0 (by omega) (by simp) (by simp)
  simp only [List.getElem_cons_zero] at h0
  subst h0
  simp only [befS,if_true,List.drop_succ_cons]
  exact befS_drop a b k (by simpa using hl) fun i h1 h2 h3=>by
   have:=h (i+1) (by omega) (by simpa using h2) (by simpa using h3)
   simpa using this
end Go.Lv
end
section
set_option maxHeartbeats 1000000
namespace Go.Av.Lx
open Go Go.Av Go.Av.Tb Go.Av.Fx Go.Proofs
open Go.Lv (Sight Survey Sw Sv SightOk Leg LegOk RangeOk Tun TunOk Try TryOk Stp)
open Go.Fw (Sq ent Bd Mat)
section
variable {α:Type} {f:α→List AV} {w:Nat}
theorem cat_len (hf:∀ x,(f x).length=w) (l:List α):(l.flatMap f).length=l.length * w:=by
 induction l with
 | nil=>simp
 | cons c l ih=>rw [yA,zZ,ih,hf,qC,Nat.add_mul];omega
theorem cat_at (hf:∀ x,(f x).length=w):∀ (l:List α) (k:Nat) (h:k<l.length),((l.flatMap f).drop (k * w)).take w=f l[k]
 | c :: l,0,h=>by
  rw [Nat.zero_mul,List.drop_zero,yA]
  exact List.take_left' (hf c)
 | c :: l,k+1,h=>by
  have:=cat_at hf l k (by simpa using h)
  rw [show (k+1) * w=w+k * w by rw [Nat.add_mul];omega,← List.drop_drop,yA,List.drop_left' (hf c)]
  simpa using this
theorem cat_snoc (l:List α) (x:α):l.flatMap f ++ f x=(l ++ [x]).flatMap f:=by simp
theorem cat_one (h:∀ x,(f x).all AV.one=true) (l:List α):(l.flatMap f).all AV.one=true:=by
 rw [yG]
 intro y hy
 obtain ⟨x,_,hx⟩:=List.mem_flatMap.1 hy
 exact List.all_eq_true.1 (h x) y hx
end
abbrev legC (x:Leg):List AV:=[.int .i64 x.frm,.int .i64 x.to,.int .i64 x.long]
abbrev tunC (x:Tun):List AV:=[.int .i64 x.frm,.int .i64 x.to,.int .i64 x.long,.int .i64 x.fall,.int .i64 x.err]
abbrev tryC (x:Try):List AV:=[.int .i64 x.frm,.int .i64 x.to,.int .i64 x.off]
abbrev stpC (x:Stp):List AV:=[.int .i64 x.sight,.bool x.back]
def legsC (l:List Leg):List AV:=l.flatMap legC
def triesC (l:List Try):List AV:=l.flatMap tryC
def stpsC (l:List Stp):List AV:=l.flatMap stpC
attribute [go_sem] legC tunC tryC stpC
@[simp] theorem legsC_len (l:List Leg):(legsC l).length=l.length * 3:=cat_len (f:=legC) (fun _=>rfl) l
@[simp] theorem triesC_len (l:List Try):(triesC l).length=l.length * 3:=cat_len (f:=tryC) (fun _=>rfl) l
@[simp] theorem zEz (l:List Stp):(stpsC l).length=l.length * 2:=cat_len (f:=stpC) (fun _=>rfl) l
@[simp] theorem legsC_bnd (n k:Nat) (l:List Leg):bndL n k (legsC l)=true:=zBb _ (fun _=>rfl) l
@[simp] theorem triesC_bnd (n k:Nat) (l:List Try):bndL n k (triesC l)=true:=zBb _ (fun _=>rfl) l
@[simp] theorem stpsC_bnd (n k:Nat) (l:List Stp):bndL n k (stpsC l)=true:=zBb _ (fun _=>rfl) l
abbrev legsA (l:List Leg):AV:=.slice (legsC l) l.length .unk
abbrev triesA (l:List Try):AV:=.slice (triesC l) l.length .unk
abbrev stpsA (l:List Stp):AV:=.slice (stpsC l) l.length .unk
def rangeB (lo hi:Int):Bool:=inB lo 0 hi && decide (hi≤20)
theorem range_iff {lo hi:Int}:rangeB lo hi=true↔RangeOk lo hi:=by
 unfold rangeB
 rw [zT,inB_iff,decide_eq_true_iff]
 exact ⟨fun ⟨⟨a,b⟩,c⟩=>⟨a,b,c⟩,fun h=>⟨⟨h.l0,h.mid⟩,h.top⟩⟩
theorem isRange_pc (lo hi:Int):PC Tryz.prog 101 [.int .i64 lo,.int .i64 hi] (.pure (.bool (rangeB lo hi))):=by
 refine PC.of_empty (AC.run (E_ok _) mix Tryz.func101 m101 rfl rfl rfl (zE rfl) ?_) rfl rfl
 simp only [go_sem,zB,zD,zC,reduceIte,reduceCtorEq,zA]
 refine cp n100 (in_pc _ _ _) (SubL.refl _) ?_
 rw [show (decide (lo ≥ 0) && decide (lo≤hi))=inB lo 0 hi from rfl]
 unfold rangeB
 cases inB lo 0 hi
 ·simp only [go_sem,qV,Tryz.f101,zB,zD,zC,reduceIte,reduceCtorEq,zA]
 ·simp only [go_sem,yO,Tryz.f101,zB,zD,zC,reduceIte,reduceCtorEq,zA]
theorem endsL_pc (x:Leg):PC Tryz.prog 240 [.agg (legC x)] (.pure (.tuple [.int .i64 x.frm,.int .i64 x.to])):=by
 refine PC.of_empty (AC.run (E_ok _) mix Tryz.func240 m240 rfl rfl rfl (zE rfl) ?_) (by simp [bndL,AV.bnd]) rfl
 simp only [go_sem,boxA,Tryz.f240,zB,zD,zC,reduceIte,reduceCtorEq,zA]
theorem endsT_pc (x:Tun):PC Tryz.prog 241 [.agg (tunC x)] (.pure (.tuple [.int .i64 x.frm,.int .i64 x.to])):=by
 refine PC.of_empty (AC.run (E_ok _) mix Tryz.func241 m241 rfl rfl rfl (zE rfl) ?_) (by simp [bndL,AV.bnd]) rfl
 simp only [go_sem,boxA,Tryz.f241,zB,zD,zC,reduceIte,reduceCtorEq,zA]
theorem endsY_pc (x:Try):PC Tryz.prog 239 [.agg (tryC x)] (.pure (.tuple [.int .i64 x.frm,.int .i64 x.to])):=by
 refine PC.of_empty (AC.run (E_ok _) mix Tryz.func239 m239 rfl rfl rfl (zE rfl) ?_) (by simp [bndL,AV.bnd]) rfl
 simp only [go_sem,boxA,Tryz.f239,zB,zD,zC,reduceIte,reduceCtorEq,zA]
@[go_sem] theorem bd_leg (a b c:Int):buildA T 198 [(0,.agg [.int .i64 a,.int .i64 b,.int .i64 c])]=some (.agg [.int .i64 a,.int .i64 b,.int .i64 c]):=rfl
@[go_sem] theorem d_leg:descOf T 198=some ti198.desc:=rfl
@[go_sem] theorem i_leg:isIface ti198.desc=false:=rfl
@[go_sem] theorem bd_tun (a b c d e:Int):buildA T 200 [(0,.agg [.int .i64 a,.int .i64 b,.int .i64 c,.int .i64 d,.int .i64 e])]=some (.agg [.int .i64 a,.int .i64 b,.int .i64 c,.int .i64 d,.int .i64 e]):=rfl
@[go_sem] theorem d_tun:descOf T 200=some ti200.desc:=rfl
@[go_sem] theorem i_tun:isIface ti200.desc=false:=rfl
@[go_sem] theorem bd_try (a b c:Int):buildA T 161 [(0,.agg [.int .i64 a,.int .i64 b,.int .i64 c])]=some (.agg [.int .i64 a,.int .i64 b,.int .i64 c]):=rfl
@[go_sem] theorem d_try:descOf T 161=some ti161.desc:=rfl
@[go_sem] theorem i_try:isIface ti161.desc=false:=rfl
def legB (s:Survey) (x:Leg):Bool:=linkB s x.frm x.to && inB x.long 1 100
theorem isLeg_pc (s:Survey) (x:Leg):PC Tryz.prog 104 [surA s,.agg (legC x)] (.pure (.bool (legB s x))):=by
 refine PC.of_empty (AC.run (E_ok _) mix Tryz.func104 m104 rfl rfl rfl (zE rfl) ?_) (by simp [bndL,AV.bnd]) rfl
 have hI:=zEt s (t:=198) (g:=240) rfl n240 (.agg (legC x)) (by simp [AV.bnd,bndL]) _ _ (endsL_pc x)
 unfold legB
 simp only [go_sem,boxA,zB,zD,zC,reduceIte,reduceCtorEq,zA]
 refine cp n115 hI (SubL.refl _) ?_
 cases linkB s x.frm x.to
 ·simp only [go_sem,qV,Tryz.f104,zB,zD,zC,reduceIte,reduceCtorEq,zA]
 simp only [go_sem,yO,zB,zD,zC,reduceIte,reduceCtorEq,zA]
 refine cp n100 (in_pc _ _ _) (SubL.refl _) ?_
 rw [show (decide (x.long ≥ 1) && decide (x.long≤100))=inB x.long 1 100 from rfl]
 simp only [go_sem,Tryz.f104,zB,zD,zC,reduceIte,reduceCtorEq,zA]
theorem link_iff {s:Survey} (h:2≤s.stations∧s.stations≤8) {a b:Int}:linkB s a b=true↔(0≤a∧a<s.stations)∧(0≤b∧b<s.stations)∧a≠b:=by
 unfold linkB
 rw [zT,zT,zBs h,zBs h,decide_eq_true_iff]
theorem leg_iff {s:Survey} (h:2≤s.stations∧s.stations≤8) {x:Leg}:legB s x=true↔LegOk s.stations x:=by
 unfold legB
 rw [zT,link_iff h,inB_iff]
 exact ⟨fun ⟨⟨a,b,c⟩,d⟩=>⟨a,b,c,d⟩,fun h=>⟨⟨h.frm,h.to,h.ne⟩,h.long⟩⟩
def tunB (s:Survey) (x:Tun):Bool:=linkB s x.frm x.to && (inB x.long 1 100 && (inB x.fall 0 20 && inB x.err 0 5))
theorem tun_iff {s:Survey} (h:2≤s.stations∧s.stations≤8) {x:Tun}:tunB s x=true↔TunOk s.stations x:=by
 unfold tunB
 rw [zT,zT,zT,link_iff h,inB_iff,inB_iff,inB_iff]
 exact ⟨fun ⟨⟨a,b,c⟩,d,e,f⟩=>⟨a,b,c,d,e,f⟩,fun h=>⟨⟨h.frm,h.to,h.ne⟩,h.long,h.fall,h.err⟩⟩
theorem isTunnel_pc (s:Survey) (x:Tun):PC Tryz.prog 109 [surA s,.agg (tunC x)] (.pure (.bool (tunB s x))):=by
 refine PC.of_empty (AC.run (E_ok _) mix Tryz.func109 m109 rfl rfl rfl (zE rfl) ?_) (by simp [bndL,AV.bnd]) rfl
 have hI:=zEt s (t:=200) (g:=241) rfl n241 (.agg (tunC x)) (by simp [AV.bnd,bndL]) _ _ (endsT_pc x)
 unfold tunB
 simp only [go_sem,boxA,zB,zD,zC,reduceIte,reduceCtorEq,zA]
 refine cp n115 hI (SubL.refl _) ?_
 cases linkB s x.frm x.to
 ·simp only [go_sem,qV,Tryz.f109,zB,zD,zC,reduceIte,reduceCtorEq,zA]
 simp only [go_sem,yO,zB,zD,zC,reduceIte,reduceCtorEq,zA]
 refine cp n100 (in_pc _ _ _) (SubL.refl _) ?_
 rw [show (decide (x.long ≥ 1) && decide (x.long≤100))=inB x.long 1 100 from rfl]
 cases inB x.long 1 100
 ·simp only [go_sem,qV,Tryz.f109,zB,zD,zC,reduceIte,reduceCtorEq,zA]
 simp only [go_sem,yO,zB,zD,zC,reduceIte,reduceCtorEq,zA]
 refine cp n100 (in_pc _ _ _) (SubL.refl _) ?_
 rw [show (decide (x.fall ≥ 0) && decide (x.fall≤20))=inB x.fall 0 20 from rfl]
 cases inB x.fall 0 20
 ·simp only [go_sem,qV,Tryz.f109,zB,zD,zC,reduceIte,reduceCtorEq,zA]
 simp only [go_sem,yO,zB,zD,zC,reduceIte,reduceCtorEq,zA]
 refine cp n100 (in_pc _ _ _) (SubL.refl _) ?_
 rw [show (decide (x.err ≥ 0) && decide (x.err≤5))=inB x.err 0 5 from rfl]
 simp only [go_sem,Tryz.f109,zB,zD,zC,reduceIte,reduceCtorEq,zA]
def badTry (s:Survey) (x:Try):Bool:=!linkB s x.frm x.to || !inB x.off 0 50
theorem try_iff {s:Survey} (h:2≤s.stations∧s.stations≤8) {x:Try}:badTry s x=false↔TryOk s.stations x:=by
 unfold badTry
 rw [Bool.or_eq_false_iff,Bool.not_eq_false',Bool.not_eq_false',link_iff h,inB_iff]
 exact ⟨fun ⟨⟨a,b,c⟩,d⟩=>⟨a,b,c,d⟩,fun h=>⟨⟨h.frm,h.to,h.ne⟩,h.off⟩⟩
theorem takes1_pc (s:Survey) (x:Try):PC Tryz.prog 114 [.agg (tryC x),.eptr (surC s) 0] (.pure (.bool (badTry s x))):=by
 refine PC.of_empty (AC.run (E_ok _) mix Tryz.func114 m114 rfl rfl rfl (zE rfl) ?_) (by simp [bndL,AV.bnd]) rfl
 have hI:=zEt s (t:=161) (g:=239) rfl n239 (.agg (tryC x)) (by simp [AV.bnd,bndL]) _ _ (endsY_pc x)
 unfold badTry
 simp only [go_sem,boxA,zB,zD,zC,reduceIte,reduceCtorEq,zA]
 refine cp n115 hI (SubL.refl _) ?_
 cases linkB s x.frm x.to
 ·simp only [go_sem,zAh,qE,Bool.true_or,Tryz.f114,zB,zD,zC,reduceIte,reduceCtorEq,zA]
 simp only [go_sem,zAh,zY,Bool.false_or,zB,zD,zC,reduceIte,reduceCtorEq,zA]
 refine cp n100 (in_pc _ _ _) (SubL.refl _) ?_
 rw [show (decide (x.off ≥ 0) && decide (x.off≤50))=inB x.off 0 50 from rfl]
 simp only [go_sem,zAh,Tryz.f114,zB,zD,zC,reduceIte,reduceCtorEq,zA]
end Go.Av.Lx
end
section
set_option maxHeartbeats 1000000
namespace Go.Av.Lx
open Go Go.Av Go.Av.Tb Go.Av.Fx Go.Proofs
open Go.Lv (Sight Survey Sw Sv SightOk Leg LegOk RangeOk Tun TunOk Try TryOk Stp fallW meetL meetH)
open Go.Fw (Sq ent Bd Mat)
structure JoinP (s:Survey) (V:Mat) (i j:Int):Prop where
 sq:Sq (Lv.num s) V
 hi:0≤i∧i<s.stations
 hj:0≤j∧j<s.stations
 e1:-8400≤ent V i.toNat j.toNat∧ent V i.toNat j.toNat≤8400
 e2:-8400≤ent V j.toNat i.toNat∧ent V j.toNat i.toNat≤8400
theorem joinP {s:Survey} (h:Sw s) {V:Mat} (hV:Lv.knownV s=some V) {i j:Int} (hi:0≤i∧i<s.stations) (hj:0≤j∧j<s.stations) (hf:ent V i.toNat j.toNat<far):JoinP s V i j:=by
 have a:i.toNat<Lv.num s:=by show i.toNat<s.stations.toNat;omega
 have b:j.toNat<Lv.num s:=by show j.toNat<s.stations.toNat;omega
 exact ⟨zBe (ds:=[]) hV,hi,hj,Lv.known_bd h hV a b hf,Lv.known_bd h hV b a (Lv.known_sym h hV a b hf)⟩
theorem falls_pc (s:Survey) (V:Mat) (x:Leg) (lo hi:Int) (hx:LegOk s.stations x) (hr:RangeOk lo hi) (hj:JoinP s V x.frm x.to):PC Tryz.prog 106 [kA s V,.agg (legC x),.int .i64 lo,.int .i64 hi] (.pure (.int .i64 (fallW V x lo hi))):=by
 refine PC.of_empty (AC.run (E_ok _) mix Tryz.func106 m106 rfl rfl rfl (zE rfl) ?_) (by simp [bndL,AV.bnd]) rfl
 obtain ⟨f,t,g⟩:=x
 obtain ⟨s1,s2⟩:=Lv.leg_small hx hr
 obtain ⟨sq,hi',hj',e1,e2⟩:=hj
 simp only at s1 s2 hi' hj' e1 e2
 obtain ⟨a,rfl⟩:∃ a:Nat,f=a:=⟨f.toNat,by omega⟩
 obtain ⟨b,rfl⟩:∃ b:Nat,t=b:=⟨t.toNat,by omega⟩
 have ha:a<Lv.num s:=by show a<s.stations.toNat;omega
 have hb:b<Lv.num s:=by show b<s.stations.toNat;omega
 unfold fallW
 simp only [qS] at e1 e2 ⊢
 have w1:IntKind.i64.wrap (g * lo)=g * lo:=wrap64 (by omega)
 have w2:IntKind.i64.wrap (g * hi)=g * hi:=wrap64 (by omega)
 have w3:IntKind.i64.wrap (0 - ent V a b) = -ent V a b:=by rw [wrap64 (by omega)];omega
 simp only [go_sem,boxA,kvC,zB,zD,zC,reduceIte,reduceCtorEq,zA]
 refine cp n85 (span_pc s sq hb ha) (SubL.refl _) ?_
 by_cases h1:-ent V a b ≥ g * lo
 ·by_cases h2:ent V b a≤g * hi
  ·rw [if_pos ⟨h1,h2⟩]
   simp only [go_sem,spanA,w1,w2,w3,h1,h2,decide_true,Tryz.f106,zB,zD,zC,reduceIte,reduceCtorEq,zA]
  ·rw [if_neg (fun hh=>h2 hh.2)]
   by_cases h3:ent V b a<g * lo
   ·rw [if_pos (.inl h3)]
    simp only [go_sem,spanA,w1,w2,w3,h1,h2,h3,decide_true,decide_false,Tryz.f106,zB,zD,zC,reduceIte,reduceCtorEq,zA]
   ·by_cases h4:-ent V a b > g * hi
    ·rw [if_pos (.inr h4)]
     simp only [go_sem,spanA,w1,w2,w3,h1,h2,h3,h4,decide_true,decide_false,Tryz.f106,zB,zD,zC,reduceIte,reduceCtorEq,zA]
    ·rw [if_neg (by omega)]
     simp only [go_sem,spanA,w1,w2,w3,h1,h2,h3,h4,decide_true,decide_false,Tryz.f106,zB,zD,zC,reduceIte,reduceCtorEq,zA]
 ·rw [if_neg (fun hh=>h1 hh.1)]
  by_cases h3:ent V b a<g * lo
  ·rw [if_pos (.inl h3)]
   simp only [go_sem,spanA,w1,w2,w3,h1,h3,decide_true,decide_false,Tryz.f106,zB,zD,zC,reduceIte,reduceCtorEq,zA]
  ·by_cases h4:-ent V a b > g * hi
   ·rw [if_pos (.inr h4)]
    simp only [go_sem,spanA,w1,w2,w3,h1,h3,h4,decide_true,decide_false,Tryz.f106,zB,zD,zC,reduceIte,reduceCtorEq,zA]
   ·rw [if_neg (by omega)]
    simp only [go_sem,spanA,w1,w2,w3,h1,h3,h4,decide_true,decide_false,Tryz.f106,zB,zD,zC,reduceIte,reduceCtorEq,zA]
def betwA (s:Survey) (i j:Int) (fine:Bool) (z:List AV) (r:Mat→List AV):AV:=
 if zAp s && (fine && (staB s i && staB s j)) then (match Lv.knownV s with
  | some V=>if ent V i.toNat j.toNat<far then .tuple (r V ++ [.int .i64 0]) else .tuple (z ++ [.int .i64 5])
  | none=>.tuple (z ++ [.int .i64 7]))
 else .tuple (z ++ [.int .i64 2])
theorem zFa {s:Survey} {i j:Int} {fine:Bool} {z:List AV} {r:Mat→List AV} (hz:bndL 0 0 z=true) (hr:∀ V,bndL 0 0 (r V)=true):(betwA s i j fine z r).bnd 0 0=true:=by
 have e:∀ l k,bndL 0 0 l=true→bndL 0 0 (l ++ [AV.int .i64 k])=true:=fun l k h=>by
  induction l with
  | nil=>rfl
  | cons a l ih =>
   simp only [bndL,zT,qP] at h ⊢
   exact ⟨h.1,ih h.2⟩
 unfold betwA
 split
 ·split
  ·split
   ·exact e _ _ (hr _)
   ·exact e _ _ hz
  ·exact e _ _ hz
 ·exact e _ _ hz
theorem zDf (s:Survey) (i j:Int) (fine:Bool) (z:List AV) (r:Mat→List AV) :
  (∃ k:Int,decide (k≠0)=true∧(k=2∨k=5∨k=7)∧zCp s i j fine=.tuple [zeroK,.int .i64 k]∧betwA s i j fine z r=.tuple (z ++ [.int .i64 k])) ∨
  (∃ V,Sv s∧fine=true∧Lv.knownV s=some V∧JoinP s V i j∧zCp s i j fine=.tuple [kA s V,.int .i64 0]∧betwA s i j fine z r=.tuple (r V ++ [.int .i64 0])):=by
 unfold zCp betwA
 cases hs:zAp s
 ·exact .inl ⟨2,rfl,.inl rfl,rfl,rfl⟩
 cases hf:fine
 ·exact .inl ⟨2,rfl,.inl rfl,rfl,rfl⟩
 cases hi:staB s i
 ·exact .inl ⟨2,rfl,.inl rfl,rfl,rfl⟩
 cases hj:staB s j
 ·exact .inl ⟨2,rfl,.inl rfl,rfl,rfl⟩
 have hv:=zDk.1 hs
 cases hV:Lv.knownV s with
 | none=>exact .inl ⟨7,rfl,.inr (.inr rfl),rfl,rfl⟩
 | some V =>
  simp only [zJ,if_true]
  by_cases hlt:ent V i.toNat j.toNat<far
  ·rw [if_pos hlt,if_pos hlt]
   exact .inr ⟨V,hv,by simp,by simp,joinP hv.toSw hV ((zBs hv.st).1 hi) ((zBs hv.st).1 hj) hlt,rfl,rfl⟩
  ·rw [if_neg hlt,if_neg hlt]
   exact .inl ⟨5,rfl,.inr (.inl rfl),rfl,rfl⟩
def fallsA (s:Survey) (x:Leg) (lo hi:Int):AV:=betwA s x.frm x.to (legB s x && rangeB lo hi) [.int .i64 0] fun V=>[.int .i64 (fallW V x lo hi)]
theorem Falls_pc (s:Survey) (hl:okL s.sights.length) (x:Leg) (lo hi:Int):PC Tryz.prog 39 [surA s,.agg (legC x),.int .i64 lo,.int .i64 hi] (.pure (fallsA s x lo hi)):=by
 refine PC.of_empty (AC.run (E_ok _) mix Tryz.func39 m39 rfl rfl rfl (zE rfl) ?_) (by simp [bndL,AV.bnd]) (zFa rfl fun _=>rfl)
 unfold fallsA
 simp only [go_sem,boxA,zB,zD,zC,reduceIte,reduceCtorEq,zA]
 refine qp n104 (isLeg_pc s x) (SubL.refl _) ?_
 cases hg:legB s x
 ·simp only [go_sem,qV,zB,zD,zC,reduceIte,reduceCtorEq,zA]
  refine qp n84 (zCj s hl x.frm x.to false) (SubL.refl _) ?_
  rcases zDf s x.frm x.to false [.int .i64 0] (fun V=>[.int .i64 (fallW V x lo hi)]) with ⟨k,hk,_,e1,e2⟩ | ⟨V,hv,hf,hV,hj,e1,e2⟩
  ·rw [qV,e1,e2]
   simp only [go_sem,zAd,hk,Tryz.f39,zB,zD,zC,reduceIte,reduceCtorEq,zA]
   all_goals rfl
  ·cases hf
 ·rw [yO]
  simp only [go_sem,yO,zB,zD,zC,reduceIte,reduceCtorEq,zA]
  refine qp n101 (isRange_pc lo hi) (SubL.refl _) ?_
  simp only [go_sem,zB,zD,zC,reduceIte,reduceCtorEq,zA]
  refine qp n84 (zCj s hl x.frm x.to (rangeB lo hi)) (SubL.refl _) ?_
  rcases zDf s x.frm x.to (rangeB lo hi) [.int .i64 0] (fun V=>[.int .i64 (fallW V x lo hi)]) with ⟨k,hk,_,e1,e2⟩ | ⟨V,hv,hf,hV,hj,e1,e2⟩
  ·rw [e1,e2]
   simp only [go_sem,zAd,hk,Tryz.f39,zB,zD,zC,reduceIte,reduceCtorEq,zA]
   all_goals rfl
  ·rw [e1,e2]
   simp only [go_sem,zAd,kvC,zB,zD,zC,reduceIte,reduceCtorEq,zA]
   refine cp n106 (falls_pc s V x lo hi ((leg_iff hv.st).1 hg) (range_iff.1 hf) hj) (SubL.refl _) ?_
   simp only [go_sem,Tryz.f39,zB,zD,zC,reduceIte,reduceCtorEq,zA]
   all_goals rfl
def meetA (V:Mat) (x:Tun):AV:=.agg [.int .i64 (meetL V x),.int .i64 (meetH V x)]
theorem meets_pc (s:Survey) (V:Mat) (x:Tun) (hx:TunOk s.stations x) (hj:JoinP s V x.frm x.to):PC Tryz.prog 110 [kA s V,.agg (tunC x)] (.pure (meetA V x)):=by
 refine PC.of_empty (AC.run (E_ok _) mix Tryz.func110 m110 rfl rfl rfl (zE rfl) ?_) (by simp [bndL,AV.bnd]) rfl
 have h1:=hx.fall'
 have h2:=hx.err'
 obtain ⟨f,t,g,l,e⟩:=x
 obtain ⟨sq,hi',hj',e1,e2⟩:=hj
 simp only at h1 h2 hi' hj' e1 e2
 obtain ⟨a,rfl⟩:∃ a:Nat,f=a:=⟨f.toNat,by omega⟩
 obtain ⟨b,rfl⟩:∃ b:Nat,t=b:=⟨t.toNat,by omega⟩
 have ha:a<Lv.num s:=by show a<s.stations.toNat;omega
 have hb:b<Lv.num s:=by show b<s.stations.toNat;omega
 unfold meetA meetL meetH
 simp only [qS] at e1 e2 ⊢
 have w1:IntKind.i64.wrap (g * l)=g * l:=wrap64 (by omega)
 have w2:IntKind.i64.wrap (g * e)=g * e:=wrap64 (by omega)
 have w3:IntKind.i64.wrap (0 - ent V a b) = -ent V a b:=by rw [wrap64 (by omega)];omega
 have w4:IntKind.i64.wrap (-ent V a b - g * l) = -ent V a b - g * l:=wrap64 (by omega)
 have w5:IntKind.i64.wrap (-ent V a b - g * l - g * e) = -ent V a b - g * l - g * e:=wrap64 (by omega)
 have w6:IntKind.i64.wrap (ent V b a - g * l)=ent V b a - g * l:=wrap64 (by omega)
 have w7:IntKind.i64.wrap (ent V b a - g * l+g * e)=ent V b a - g * l+g * e:=wrap64 (by omega)
 have hbd:∀ p q:Int,buildA T 28 [(0,.int .i64 p),(1,.int .i64 q)]=some (.agg [.int .i64 p,.int .i64 q]):=fun _ _=>rfl
 simp only [go_sem,boxA,kvC,zB,zD,zC,reduceIte,reduceCtorEq,zA]
 refine cp n85 (span_pc s sq hb ha) (SubL.refl _) ?_
 simp only [go_sem,spanA,w1,w2,w3,w4,w5,w6,w7,hbd,Tryz.f110,zB,zD,zC,reduceIte,reduceCtorEq,zA]
 all_goals rfl
def meetsA (s:Survey) (x:Tun):AV:=betwA s x.frm x.to (tunB s x) [.agg [.int .i64 0,.int .i64 0]] fun V=>[meetA V x]
theorem Meets_pc (s:Survey) (hl:okL s.sights.length) (x:Tun):PC Tryz.prog 42 [surA s,.agg (tunC x)] (.pure (meetsA s x)):=by
 refine PC.of_empty (AC.run (E_ok _) mix Tryz.func42 m42 rfl rfl rfl (zE rfl) ?_) (by simp [bndL,AV.bnd]) (zFa rfl fun _=>rfl)
 unfold meetsA
 simp only [go_sem,boxA,zB,zD,zC,reduceIte,reduceCtorEq,zA]
 refine qp n109 (isTunnel_pc s x) (SubL.refl _) ?_
 simp only [go_sem,zB,zD,zC,reduceIte,reduceCtorEq,zA]
 refine qp n84 (zCj s hl x.frm x.to (tunB s x)) (SubL.refl _) ?_
 rcases zDf s x.frm x.to (tunB s x) [.agg [.int .i64 0,.int .i64 0]] (fun V=>[meetA V x]) with ⟨k,hk,_,e1,e2⟩ | ⟨V,hv,hf,hV,hj,e1,e2⟩
 ·rw [e1,e2]
  simp only [go_sem,zAd,hk,Tryz.f42,zB,zD,zC,reduceIte,reduceCtorEq,zA]
  all_goals rfl
 ·rw [e1,e2]
  simp only [go_sem,zAd,kvC,zB,zD,zC,reduceIte,reduceCtorEq,zA]
  refine cp n110 (meets_pc s V x ((tun_iff hv.st).1 hf) hj) (SubL.refl _) ?_
  simp only [go_sem,meetA,Tryz.f42,zB,zD,zC,reduceIte,reduceCtorEq,zA]
  all_goals rfl
end Go.Av.Lx
end
section
namespace Go.Lv
open Go.Fw
structure HiIn (f:Int) (n c:Nat) (F:Int) (W:Mat):Prop where
 sq:Sq n W
 col:∀ i,i<n→ent W i c<f→ent W i c≤F
 row:∀ j,j<n→ent W c j<f→ent W c j≤F
 all:∀ i j,i<n→j<n→ent W i j<f→ent W i j≤2 * F
theorem HiIn.upd {f:Int} {n c a b:Nat} {F:Int} {W:Mat} (h:HiIn f n c F W) (ha:a<n) (hb:b<n) (hc:c<n):HiIn f n c F (upd f c a W b):=by
 unfold Fw.upd
 split
 ·rename_i g
  obtain ⟨g1,g2⟩:=g
  have e:=ent_put h.sq ha hb (min (ent W a b) (ent W a c+ent W c b))
  have k1:=h.col a ha g1
  have k2:=h.row b hb g2
  refine ⟨h.sq.put _ _ _,fun i hi hl => ?_,fun j hj hl => ?_,fun i j hi hj hl => ?_⟩
  ·rw [e] at hl ⊢
   split
   ·rename_i q
    obtain ⟨q1,q2⟩:=q
    subst q2;omega
   ·rename_i q
    rw [if_neg q] at hl;exact h.col i hi hl
  ·rw [e] at hl ⊢
   split
   ·rename_i q
    obtain ⟨q1,q2⟩:=q
    subst q1;omega
   ·rename_i q
    rw [if_neg q] at hl;exact h.row j hj hl
  ·rw [e] at hl ⊢
   split
   ·omega
   ·rename_i q
    rw [if_neg q] at hl;exact h.all i j hi hj hl
 ·exact h
theorem HiIn.upds {f:Int} {n c a:Nat} {F:Int} {W:Mat} (h:HiIn f n c F W) (ha:a<n) (hc:c<n):∀ b,b≤n→HiIn f n c F ((List.range b).foldl (Fw.upd f c a) W)
 | 0,_=>h
 | b+1,hb=>by
  rw [fold_succ]
  exact (HiIn.upds h ha hc b (by omega)).upd ha (by omega) hc
theorem HiIn.rows {f:Int} {n c:Nat} {F:Int} {W:Mat} (h:HiIn f n c F W) (hc:c<n):∀ a,a≤n→HiIn f n c F ((List.range a).foldl (Fw.row f n c) W)
 | 0,_=>h
 | a+1,ha=>by
  rw [fold_succ]
  exact (HiIn.rows h hc a (by omega)).upds (by omega) hc n (zN _)
theorem hi_start {f:Int} {n c:Nat} {F:Int} {W:Mat} (hs:Sq n W) (hF:0≤F) (hc:c<n) (h:∀ i j,i<n→j<n→ent W i j<f→ent W i j≤F):HiIn f n c F W:=
 ⟨hs,fun i hi hl=>h i c hi hc hl,fun j hj hl=>h c j hc hj hl,fun i j hi hj hl=>by have:=h i j hi hj hl;omega⟩
theorem hi_upto {f:Int} {n:Nat} {U:Int} {W:Mat} (hs:Sq n W) (hU:0≤U) (h:∀ i j,i<n→j<n→ent W i j<f→ent W i j≤U):∀ k,k≤n → ∀ i j,i<n→j<n→ent (upto f n k W) i j<f→ent (upto f n k W) i j≤2 ^ k * U
 | 0,_,i,j,hi,hj,hl=>by
  have:=h i j hi hj hl
  rw [Int.pow_zero,Int.one_mul];exact this
 | k+1,hk,i,j,hi,hj,hl=>by
  have ih:=hi_upto hs hU h k (by omega)
  have hp:(0:Int)≤2 ^ k * U:=yI (Int.le_of_lt (Int.pow_pos (by decide))) hU
  have e:upto f n (k+1) W=(List.range n).foldl (Fw.row f n k) (upto f n k W):=fold_succ _ _ _
  rw [e] at hl ⊢
  have:=((hi_start (hs.upto f n k) hp (c:=k) (by omega) ih).rows (by omega) n (zN _)).all i j hi hj hl
  rw [Int.pow_succ,Int.mul_comm _ 2,yB]
  exact this
theorem hi_in {f:Int} {n:Nat} {U:Int} {W:Mat} (hs:Sq n W) (hU:0≤U) (h:∀ i j,i<n→j<n→ent W i j<f→ent W i j≤U) {c a b:Nat} (hc:c<n) (ha:a<n) (hb:b≤n) :
  HiIn f n c (2 ^ c * U) ((List.range b).foldl (Fw.upd f c a) ((List.range a).foldl (Fw.row f n c) (upto f n c W))):=by
 have hp:(0:Int)≤2 ^ c * U:=yI (Int.le_of_lt (Int.pow_pos (by decide))) hU
 exact ((hi_start (hs.upto f n c) hp hc (hi_upto hs hU h c (by omega))).rows hc a (by omega)).upds ha hc b hb
theorem two_pow {c:Nat} (h:c<8):(2:Int) ^ c≤128:=by
 have:c=0∨c=1∨c=2∨c=3∨c=4∨c=5∨c=6∨c=7:=by omega
 rcases this with rfl | rfl | rfl | rfl | rfl | rfl | rfl | rfl <;> decide
end Go.Lv
end

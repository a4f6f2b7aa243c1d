/- Part 19 of the proof. -/
import Derived.Test.YtclmbbofpaecaaaGreatDoorVp18
set_option linter.all false
set_option linter.unusedVariables false
set_option linter.unusedSimpArgs false
set_option linter.unusedSectionVars false
open Bool renaming and_self → zJ, and_eq_true → zR, not_true → zV, not_false → qD, false_and → qG, true_and → yA, not_eq_true' → yO, or_eq_true → yR
open Int renaming toNat_natCast → qT, mul_nonneg → yG
open List renaming getElem?_eq_getElem → zF, getD_eq_getElem?_getD → zG, getElem?_eq_none → zM, mem_cons_self → zP, mem_cons_of_mem → zS, getElem_mem → zX, length_cons → qB, length_append → qC, getElem?_map → qK, map_append → qR, getElem?_range → qS, flatMap_cons → qW, all_eq_true → qX, not_mem_nil → qY, cons_append → yE, nil_append → yF, mem_singleton → yH, mem_cons → yK, range_succ → yN
open Nat renaming reduceLeDiff → zA, reduceEqDiff → zB, reduceAdd → zC, reduceBEq → zD, le_of_ble_eq_true → zE, le_refl → zN, zero_le → qH
open Option renaming map_some → zW
section
namespace Go.Lv
open Go.Fw Go.Wk
def sightZ:Sight:=⟨0,0,0,0⟩
def keepS (s:Survey) (w:List Int) (k:Nat):List Sight:=((List.range k).filter fun (i:Nat) => !w.contains (i:Int)).map fun i=>s.sights.getD i sightZ
def zAk (s:Survey) (w:List Int):Survey:={ s with sights:=keepS s w s.sights.length }
theorem keep_len (s:Survey) (w:List Int) (k:Nat):(keepS s w k).length≤k:=by
 unfold keepS;rw [List.length_map];exact Nat.le_trans (List.length_filter_le _ _) (by simp)
theorem keep_succ (s:Survey) (w:List Int) (k:Nat):keepS s w (k+1)=if w.contains (k:Int)=true then keepS s w k else keepS s w k ++ [s.sights.getD k sightZ]:=by
 unfold keepS
 rw [yN,List.filter_append,qR]
 cases h:w.contains (k:Int) with
 | true =>
  have e:[k].filter (fun (i:Nat) => !w.contains (i:Int))=[]:=by rw [List.filter_cons_of_neg (by rw [h];decide)];rfl
  rw [e,if_pos rfl];simp
 | false =>
  have e:[k].filter (fun (i:Nat) => !w.contains (i:Int))=[k]:=by rw [List.filter_cons_of_pos (by rw [h];decide)];rfl
  rw [e,if_neg (by decide)];rfl
theorem keep_mem {s:Survey} {w:List Int} {x:Sight}:x∈keepS s w s.sights.length ↔ ∃ (i:Nat),∃ (h:i<s.sights.length),(i:Int) ∉ w∧s.sights[i]=x:=by
 unfold keepS
 simp only [List.mem_map,List.mem_filter,List.mem_range,yO,List.contains_eq_mem,decide_eq_false_iff_not]
 constructor
 ·rintro ⟨i,⟨hi,hw⟩,rfl⟩
  refine ⟨i,hi,hw, ?_⟩
  rw [zG,zF hi];rfl
 ·rintro ⟨i,hi,hw,rfl⟩
  refine ⟨i,⟨hi,hw⟩, ?_⟩
  rw [zG,zF hi];rfl
theorem without_sub {s:Survey} {w:List Int}:∀ x∈(zAk s w).sights,x∈s.sights:=fun x hx=>by
 obtain ⟨i,hi,_,rfl⟩:=keep_mem.1 hx
 exact zX hi
theorem without_sw {s:Survey} (h:Sw s) (w:List Int):Sw (zAk s w):=⟨h.st,fun x hx=>h.sights x (without_sub x hx)⟩
theorem without_sv {s:Survey} (h:Sv s) (w:List Int):Sv (zAk s w):=⟨without_sw h.toSw w,Nat.le_trans (keep_len s w _) h.many⟩
theorem keep_nil (s:Survey):keepS s [] s.sights.length=s.sights:=by
 refine List.ext_getElem? fun i => ?_
 unfold keepS
 have e:((List.range s.sights.length).filter fun (i:Nat) => !([]:List Int).contains (i:Int))=List.range s.sights.length:=List.filter_eq_self.2 fun a _=>rfl
 rw [e,qK]
 by_cases hi:i<s.sights.length
 ·rw [qS hi,zW,zG,zF hi];rfl
 ·rw [zM (by simpa using hi),zM (by omega)];rfl
theorem without_nil (s:Survey):zAk s []=s:=by
 cases s;unfold zAk;rw [keep_nil]
theorem none_poss {s:Survey} (h:Sw s) (he:s.sights=[]):possS s=true:=(poss_fit h).2 ⟨fun _=>0,fun y hy=>by rw [he] at hy;cases hy⟩
theorem blame_ring {s:Survey} (h:Sw s) {i:Int} (hp:possS (zAk s [i])=true) {l:List Stp} (hl:StepsIn s l) (hr:RingP s l):∃ x∈l,x.sight=i:=by
 refine Classical.byContradiction fun hno => ?_
 have hno:∀ x∈l,x.sight≠i:=fun x hx e=>hno ⟨x,hx,e⟩
 obtain ⟨V,hV⟩:∃ V,knownV (zAk s [i])=some V:=Option.isSome_iff_exists.1 hp
 have hc:=zCk (without_sw h [i]) hV
 have hin:∀ c∈l.map (stepB s),c∈surveyB (zAk s [i]):=fun c hc=>by
  obtain ⟨x,hx,rfl⟩:=List.mem_map.1 hc
  have hb:=hl x hx
  have hm:sightAt s x.sight∈(zAk s [i]).sights:=by
   refine keep_mem.2 ⟨x.sight.toNat,by omega, ?_, ?_⟩
   ·rw [yH]
    have:=hno x hx
    omega
   ·unfold sightAt
    rw [zG,zF (by omega)];rfl
  refine zBf.2 ⟨_,hm, ?_⟩
  unfold stepB stepG
  cases x.back
  ·exact .inl rfl
  ·exact .inr rfl
 have h1:=(simple_map (f:=stepB s)).2 hr.1
 have:=hc.no_neg hin h1.closed
 rw [tot_map] at this
 have:=hr.2
 omega
def dropM (p:List Int→Bool) (below:Nat):Nat→List Int→Nat→Option (List Int)
 | 0,now,_=>if p now=true then some now else none
 | m+1,now,fr=>firstI (fun n=>dropM p below m (now ++ [(n:Int)]) (n+1)) fr (below - fr)
def searchM (p:List Int→Bool) (below:Nat):Nat→List Int→Nat→Option (List Int)
 | 0,now,_=>if p now=true then some now else none
 | m+1,now,fr=>firstI (fun n=>searchM p below m (now ++ [(n:Int)]) (n+1)) fr (below+1 - (fr+(m+1)))
theorem firstI_more {β:Type} {f:Nat→Option β} (s:Nat):∀ (r n:Nat),(∀ i,n+r≤i→i<n+r+s→f i=none)→firstI f n (r+s)=firstI f n r
 | 0,n,h=>by
  rw [Nat.zero_add]
  induction s generalizing n with
  | zero=>rfl
  | succ s ih =>
   unfold firstI
   rw [h n (by omega) (by omega)]
   exact ih (n+1) fun i h1 h2=>h i (by omega) (by omega)
 | r+1,n,h=>by
  rw [show r+1+s=(r+s)+1 by omega]
  unfold firstI
  cases f n with
  | some x=>rfl
  | none=>exact firstI_more s r (n+1) fun i h1 h2=>h i (by omega) (by omega)
theorem search_none {p:List Int→Bool} {below m:Nat} {now:List Int} {fr:Nat} (h:below<fr+m) (hm:0<m):searchM p below m now fr=none:=by
 cases m with
 | zero=>omega
 | succ m =>
  unfold searchM
  rw [show below+1 - (fr+(m+1))=0 by omega];rfl
theorem zDo (p:List Int→Bool) (below:Nat):∀ (m:Nat) (now:List Int) (fr:Nat),dropM p below m now fr=searchM p below m now fr
 | 0,now,fr=>rfl
 | m+1,now,fr=>by
  unfold dropM searchM
  have e:(fun n:Nat=>dropM p below m (now ++ [(n:Int)]) (n+1))=fun n:Nat=>searchM p below m (now ++ [(n:Int)]) (n+1):=by
   funext n;exact zDo p below m _ _
  rw [e]
  obtain ⟨s,hs⟩:∃ s,below - fr=(below+1 - (fr+(m+1)))+s:=⟨below - fr - (below+1 - (fr+(m+1))),by omega⟩
  rw [hs]
  refine firstI_more s _ _ fun i h1 h2 => ?_
  exact search_none (by omega) (by omega)
def LxI:List Int→List Int→Prop
 | a :: s,b :: t=>a<b∨(a=b∧LxI s t)
 | _,_=>False
def Rsn (below:Nat):Nat→List Int→Prop
 | _,[]=>True
 | fr,a :: s => ∃ n:Nat,a=n∧fr≤n∧n<below∧Rsn below (n+1) s
theorem drop_no (p:List Int→Bool) (below:Nat):∀ (m:Nat) (now:List Int) (fr:Nat),dropM p below m now fr=none → ∀ t,t.length=m→Rsn below fr t→p (now ++ t)=true→False
 | 0,now,fr,e,t,ht,hr,hp=>by
  have:t=[]:=List.length_eq_zero_iff.1 ht
  subst this
  rw [List.append_nil] at hp
  unfold dropM at e
  rw [if_pos hp] at e;cases e
 | m+1,now,fr,e,t,ht,hr,hp=>by
  cases t with
  | nil=>cases ht
  | cons a t =>
   obtain ⟨n,rfl,g1,g2,g3⟩:=hr
   have hnt:now ++ (n:Int) :: t=(now ++ [(n:Int)]) ++ t:=by simp
   rw [hnt] at hp
   unfold dropM at e
   exact drop_no p below m _ _ (zDm e n g1 (by omega)) t (by simpa using ht) g3 hp
theorem drop_some (p:List Int→Bool) (below:Nat):∀ (m:Nat) (now:List Int) (fr:Nat) (x:List Int),dropM p below m now fr=some x →
  p x=true ∧ ∃ s,x=now ++ s∧s.length=m∧Rsn below fr s ∧ ∀ t,t.length=m→Rsn below fr t→p (now ++ t)=true → ¬ LxI t s
 | 0,now,fr,x,e=>by
  unfold dropM at e
  split at e
  ·rename_i h
   cases e
   exact ⟨h,[],by simp,rfl,trivial,fun t _ _ _ hx=>by cases t <;> exact hx⟩
  ·cases e
 | m+1,now,fr,x,e=>by
  unfold dropM at e
  obtain ⟨i,h1,h2,h3,h4⟩:=zDl e
  obtain ⟨hp,s,e1,e2,e3,e4⟩:=drop_some p below m _ _ _ h3
  refine ⟨hp,(i:Int) :: s,by rw [e1];simp,by simp [e2],⟨i,rfl,h1,by omega,e3⟩,fun t ht hr hpt hx => ?_⟩
  cases t with
  | nil=>cases ht
  | cons a t =>
   obtain ⟨n,rfl,g1,g2,g3⟩:=hr
   have hnt:now ++ (n:Int) :: t=(now ++ [(n:Int)]) ++ t:=by simp
   rw [hnt] at hpt
   have htl:t.length=m:=by simpa using ht
   rcases hx with hx | ⟨hx,hx2⟩
   ·have hn:=h4 n g1 (by omega)
    exact drop_no p below m _ _ hn t htl g3 hpt
   ·have:n=i:=by omega
    subst this
    exact e4 t htl g3 hpt hx2
theorem rsn_len {below:Nat}:∀ {fr:Nat} {t:List Int},Rsn below fr t→t.length+fr≤below∨t=[]
 | fr,[],_=>.inr rfl
 | fr,a :: t,h=>by
  obtain ⟨n,rfl,g1,g2,g3⟩:=h
  rcases rsn_len g3 with h' | rfl
  ·left;simp;omega
  ·left;simp;omega
theorem rsn_up {below:Nat}:∀ {fr:Nat} {t:List Int},Rsn below fr t↔(∀ x∈t,(fr:Int)≤x∧x<(below:Int))∧t.Pairwise (· < ·)
 | fr,[]=>by simp [Rsn]
 | fr,a :: t=>by
  rw [List.pairwise_cons]
  constructor
  ·rintro ⟨n,rfl,g1,g2,g3⟩
   obtain ⟨h1,h2⟩:=rsn_up.1 g3
   refine ⟨fun x hx => ?_,fun x hx => ?_,h2⟩
   ·rcases List.mem_cons.1 hx with rfl | hx
    ·omega
    ·have:=h1 x hx;omega
   ·have:=h1 x hx;omega
  ·rintro ⟨h1,h2,h3⟩
   have ha:=h1 a zP
   refine ⟨a.toNat,by omega,by omega,by omega,rsn_up.2 ⟨fun x hx => ?_,h3⟩⟩
   have:=h1 x (zS _ hx)
   have:=h2 x hx
   omega
def shortM (p:List Int→Bool) (below:Nat):Option (List Int):=firstI (fun many=>searchM p below many [] 0) 0 (below+1)
theorem short_some {p:List Int→Bool} {below:Nat} {x:List Int} (h:shortM p below=some x):p x=true∧Rsn below 0 x ∧ ∀ t,Rsn below 0 t→p t=true→x.length≤t.length∧(t.length=x.length → ¬ LxI t x):=by
 unfold shortM at h
 obtain ⟨m,_,hm,h1,h2⟩:=zDl h
 rw [← zDo] at h1
 obtain ⟨hp,s,e,hs,hr,hall⟩:=drop_some p below m _ _ _ h1
 rw [yF] at e
 subst e
 refine ⟨hp,hr,fun t ht hpt=>⟨Nat.le_of_not_lt fun hlt => ?_,fun e=>hall t (by omega) ht hpt⟩⟩
 have:=h2 t.length (qH _) (by omega)
 rw [← zDo] at this
 exact drop_no p below _ _ _ this t rfl ht hpt
theorem short_none {p:List Int→Bool} {below:Nat} (h:shortM p below=none):∀ t,Rsn below 0 t→p t=true→False:=by
 intro t ht hpt
 unfold shortM at h
 have hl:t.length<0+(below+1):=by
  rcases rsn_len ht with h' | rfl
  ·omega
  ·simp
 have:=zDm h t.length (qH _) hl
 rw [← zDo] at this
 exact drop_no p below _ _ _ this t rfl ht hpt
theorem rsn_all (below:Nat):Rsn below 0 ((List.range below).map fun (i:Nat)=>(i:Int)):=by
 refine rsn_up.2 ⟨fun x hx => ?_, ?_⟩
 ·obtain ⟨i,hi,rfl⟩:=List.mem_map.1 hx
  have:=List.mem_range.1 hi
  omega
 ·rw [List.pairwise_map]
  exact List.pairwise_lt_range.imp fun h=>by omega
def dropsS (s:Survey):List Int:=(shortM (fun w=>possS (zAk s w)) s.sights.length).getD []
theorem drops_is {s:Survey} (h:Sw s):shortM (fun w=>possS (zAk s w)) s.sights.length=some (dropsS s):=by
 cases hs:shortM (fun w=>possS (zAk s w)) s.sights.length with
 | some x=>unfold dropsS;rw [hs];rfl
 | none =>
  exfalso
  refine short_none hs _ (rsn_all _) (none_poss (without_sw h _) ?_)
  show keepS s _ _=[]
  refine List.eq_nil_iff_forall_not_mem.2 fun x hx => ?_
  obtain ⟨i,hi,hw,_⟩:=keep_mem.1 hx
  exact hw (List.mem_map.2 ⟨i,List.mem_range.2 hi,rfl⟩)
structure DropP (s:Survey) (l:List Int):Prop where
 own:possS (zAk s l)=true
 up:Rsn s.sights.length 0 l
 least:∀ t,Rsn s.sights.length 0 t→possS (zAk s t)=true→l.length≤t.length∧(t.length=l.length → ¬ LxI t l)
theorem drops_ok {s:Survey} (h:Sw s):DropP s (dropsS s):=by
 obtain ⟨h1,h2,h3⟩:=short_some (drops_is h)
 exact ⟨h1,h2,h3⟩
theorem DropP.len {s:Survey} {l:List Int} (h:DropP s l):l.length≤s.sights.length:=by
 rcases rsn_len h.up with g | rfl
 ·omega
 ·simp
theorem DropP.nil {s:Survey} {l:List Int} (h:DropP s l):possS s=true↔l=[]:=by
 constructor
 ·intro hp
  have:=(h.least [] trivial (by rw [without_nil];exact hp)).1
  exact List.length_eq_zero_iff.1 (by simpa using this)
 ·rintro rfl
  have:=h.own
  rwa [without_nil] at this
def blamesS (s:Survey):List Int:=((List.range s.sights.length).filter fun (i:Nat)=>possS (zAk s [(i:Int)])).map fun (i:Nat)=>(i:Int)
theorem blame_iff {s:Survey} {x:Int}:x∈blamesS s↔(0≤x∧x<s.sights.length)∧possS (zAk s [x])=true:=by
 unfold blamesS
 simp only [List.mem_map,List.mem_filter,List.mem_range]
 constructor
 ·rintro ⟨i,⟨h1,h2⟩,rfl⟩
  exact ⟨by omega,h2⟩
 ·rintro ⟨h1,h2⟩
  refine ⟨x.toNat,⟨by omega, ?_⟩,by omega⟩
  rw [show ((x.toNat:Nat):Int)=x by omega];exact h2
theorem blames_up (s:Survey):Rsn s.sights.length 0 (blamesS s):=by
 refine rsn_up.2 ⟨fun x hx => ?_, ?_⟩
 ·have:=(blame_iff.1 hx).1
  omega
 ·unfold blamesS
  rw [List.pairwise_map]
  refine ((List.pairwise_lt_range (n:=s.sights.length)).filter _).imp fun h=>by omega
theorem DropP.one {s:Survey} {l:List Int} (h:DropP s l) (hl:l.length=1):blamesS s≠[]:=by
 match l,hl with
 | [x],_ =>
  have hx:=(rsn_up.1 h.up).1 x zP
  exact List.ne_nil_of_mem (blame_iff.2 ⟨by omega,h.own⟩)
theorem DropP.more {s:Survey} {l:List Int} (h:DropP s l) (hl:1<l.length):blamesS s=[]:=by
 refine List.eq_nil_iff_forall_not_mem.2 fun x hx => ?_
 obtain ⟨h1,h2⟩:=blame_iff.1 hx
 have:=(h.least [x] ⟨x.toNat,by omega,qH _,by omega,trivial⟩ h2).1
 simp at this
 omega
structure Leg where
 frm:Int
 to:Int
 long:Int
 deriving DecidableEq
structure LegOk (n:Int) (x:Leg):Prop where
 frm:0≤x.frm∧x.frm<n
 to:0≤x.to∧x.to<n
 ne:x.frm≠x.to
 long:1≤x.long∧x.long≤100
structure RangeOk (lo hi:Int):Prop where
 l0:0≤lo
 mid:lo≤hi
 top:hi≤20
theorem leg_small {n lo hi:Int} {x:Leg} (hx:LegOk n x) (hr:RangeOk lo hi):(0≤x.long * lo∧x.long * lo≤2000)∧(0≤x.long * hi∧x.long * hi≤2000):=by
 have h1:=hx.long;have h2:=hr.l0;have h3:=hr.mid;have h4:=hr.top
 have a:=yG (a:=x.long) (b:=lo) (by omega) h2
 have b:=yG (a:=x.long) (b:=hi) (by omega) (by omega)
 have c:=Int.mul_le_mul (a:=x.long) (b:=lo) (c:=100) (d:=20) (by omega) (by omega) h2 (by omega)
 have d:=Int.mul_le_mul (a:=x.long) (b:=hi) (c:=100) (d:=20) (by omega) (by omega) (by omega) (by omega)
 omega
def fallW (V:Mat) (x:Leg) (lo hi:Int):Int:=
 if -ent V x.frm.toNat x.to.toNat ≥ x.long * lo∧ent V x.to.toNat x.frm.toNat≤x.long * hi then 3
 else if ent V x.to.toNat x.frm.toNat<x.long * lo ∨ -ent V x.frm.toNat x.to.toNat > x.long * hi then 1 else 2
def legP (lo hi:Int) (x:Leg):List Bd:=[⟨x.to.toNat,x.frm.toNat,x.long * hi⟩,⟨x.frm.toNat,x.to.toNat,-(x.long * lo)⟩]
def legsP (lo hi:Int) (l:List Leg):List Bd:=l.flatMap (legP lo hi)
def carryB (s:Survey) (l:List Leg) (lo hi:Int):Bool:=(clo (num s) (legsP lo hi l ++ surveyB s)).isSome
def carryW (s:Survey) (V:Mat) (l:List Leg) (lo hi:Int):Int:=if (l.all fun x=>decide (fallW V x lo hi=3))=true then 3 else if carryB s l lo hi=true then 2 else 1

def bestAt (f:Nat→Int):Nat→Nat
 | 0=>0
 | k+1=>if f (k+1)<f (bestAt f k) then k+1 else bestAt f k
structure Tun where
 frm:Int
 to:Int
 long:Int
 fall:Int
 err:Int
 deriving DecidableEq
structure TunOk (n:Int) (x:Tun):Prop where
 frm:0≤x.frm∧x.frm<n
 to:0≤x.to∧x.to<n
 ne:x.frm≠x.to
 long:1≤x.long∧x.long≤100
 fall:0≤x.fall∧x.fall≤20
 err:0≤x.err∧x.err≤5
theorem mul_small {a b A B:Int} (ha:0≤a∧a≤A) (hb:0≤b∧b≤B):0≤a * b∧a * b≤A * B:=
 ⟨yG ha.1 hb.1,Int.mul_le_mul ha.2 hb.2 hb.1 (by omega)⟩
theorem TunOk.fall' {n:Int} {x:Tun} (h:TunOk n x):0≤x.long * x.fall∧x.long * x.fall≤2000:=by
 have:=mul_small (A:=100) (B:=20) ⟨by have:=h.long;omega,h.long.2⟩ h.fall;omega
theorem TunOk.err' {n:Int} {x:Tun} (h:TunOk n x):0≤x.long * x.err∧x.long * x.err≤500:=by
 have:=mul_small (A:=100) (B:=5) ⟨by have:=h.long;omega,h.long.2⟩ h.err;omega
def meetL (V:Mat) (x:Tun):Int:=-ent V x.frm.toNat x.to.toNat - x.long * x.fall - x.long * x.err
def meetH (V:Mat) (x:Tun):Int:=ent V x.to.toNat x.frm.toNat - x.long * x.fall+x.long * x.err
def wideI (lo hi:Int):Int:=max (max lo (-lo)) (max hi (-hi))
def withFall (x:Tun) (n:Int):Tun:={ x with fall:=n }
def driveF (V:Mat) (x:Tun) (n:Nat):Int:=wideI (meetL V (withFall x n)) (meetH V (withFall x n))
theorem getD_ix {α:Type} {l:List α} {i:Nat} (z:α) (h:i<l.length):l.getD i z=l[i]:=by
 rw [zG,zF h];rfl
def risAt (n:Nat) (x:List Int) (i:Nat):Bool:=decide (0≤x.getD i 0) && decide (x.getD i 0<n) && (decide (i=0) || decide (x.getD (i - 1) 0<x.getD i 0))
def risB (n:Nat) (x:List Int):Bool:=(List.range x.length).all (risAt n x)
theorem ris_iff {n:Nat} {x:List Int}:risB n x=true↔Rsn n 0 x:=by
 rw [rsn_up]
 unfold risB
 rw [qX]
 constructor
 ·intro h
  have h':∀ i (hi:i<x.length),(0≤x[i]∧x[i]<n)∧(i=0∨x.getD (i - 1) 0<x[i]):=fun i hi=>by
   have:=h i (List.mem_range.2 hi)
   unfold risAt at this
   rw [zR,zR,yR,decide_eq_true_iff,decide_eq_true_iff,decide_eq_true_iff,decide_eq_true_iff,getD_ix 0 hi] at this
   exact this
  refine ⟨fun y hy => ?_, ?_⟩
  ·obtain ⟨i,hi,rfl⟩:=List.mem_iff_getElem.1 hy
   have:=(h' i hi).1
   omega
  ·rw [List.pairwise_iff_getElem]
   intro i j hi hj hij
   induction j with
   | zero=>omega
   | succ j ih =>
    have h1:=(h' (j+1) hj).2
    have h2:x.getD (j+1 - 1) 0=x[j]'(by omega):=by rw [Nat.add_sub_cancel];exact getD_ix 0 (by omega)
    rw [h2] at h1
    by_cases e:i=j
    ·subst e;omega
    ·have:=ih (by omega) (by omega);omega
 ·rintro ⟨h1,h2⟩ i hi
  have hi:=List.mem_range.1 hi
  have hb:=h1 _ (zX hi)
  unfold risAt
  rw [zR,zR,yR,decide_eq_true_iff,decide_eq_true_iff,decide_eq_true_iff,decide_eq_true_iff,getD_ix 0 hi]
  refine ⟨by omega, ?_⟩
  by_cases e:i=0
  ·exact .inl e
  ·right
   rw [getD_ix 0 (by omega)]
   exact List.pairwise_iff_getElem.1 h2 (i - 1) i (by omega) hi (by omega)
def lexI:List Int→List Int→Bool
 | x :: a,y :: b=>if x=y then lexI a b else decide (x<y)
 | _,_=>false
theorem lexI_lx:∀ {a b:List Int},lexI a b=true→LxI a b
 | x :: a,y :: b,h=>by
  unfold lexI at h
  split at h
  ·rename_i e;exact .inr ⟨e,lexI_lx h⟩
  ·exact .inl (of_decide_eq_true h)
 | [],b,h=>by unfold lexI at h;cases h
 | x :: a,[],h=>by unfold lexI at h;cases h
theorem lexI_drop:∀ (a b:List Int) (k:Nat),a.length=b.length→(∀ i (h1:i<k) (h2:i<a.length) (h3:i<b.length),a[i]=b[i])→lexI a b=lexI (a.drop k) (b.drop k)
 | a,b,0,_,_=>rfl
 | [],[],k+1,_,_=>rfl
 | x :: a,y :: b,k+1,hl,h=>by
  have h0:=h 0 (by omega) (by simp) (by simp)
  simp only [List.getElem_cons_zero] at h0
  subst h0
  simp only [lexI,if_true,List.drop_succ_cons]
  exact lexI_drop a b k (by simpa using hl) fun i h1 h2 h3=>by
   have:=h (i+1) (by omega) (by simpa using h2) (by simpa using h3)
   simpa using this
def stpLt (x y:Stp):Bool:=decide (x.sight<y.sight) || (decide (x.sight=y.sight) && !x.back)
def befS:List Stp→List Stp→Bool
 | x :: a,y :: b=>if x=y then befS a b else stpLt x y
 | _,_=>false
theorem befS_drop:∀ (a b:List Stp) (k:Nat),a.length=b.length→(∀ i (h1:i<k) (h2:i<a.length) (h3:i<b.length),a[i]=b[i])→befS a b=befS (a.drop k) (b.drop k)
 | a,b,0,_,_=>rfl
 | [],[],k+1,_,_=>rfl
 | x :: a,y :: b,k+1,hl,h=>by
  have h0:=h 0 (by omega) (by simp) (by simp)
  simp only [List.getElem_cons_zero] at h0
  subst h0
  simp only [befS,if_true,List.drop_succ_cons]
  exact befS_drop a b k (by simpa using hl) fun i h1 h2 h3=>by
   have:=h (i+1) (by omega) (by simpa using h2) (by simpa using h3)
   simpa using this
end Go.Lv
end
section
set_option maxHeartbeats 1000000
namespace Go.Av.Lx
open Go Go.Av Go.Av.Tb Go.Av.Fx Go.Proofs
open Go.Lv (Sight Survey Sw Sv SightOk Leg LegOk RangeOk Tun TunOk Try TryOk Stp)
open Go.Fw (Sq ent Bd Mat)
section
variable {α:Type} {f:α→List AV} {w:Nat}
theorem cat_len (hf:∀ x,(f x).length=w) (l:List α):(l.flatMap f).length=l.length * w:=by
 induction l with
 | nil=>simp
 | cons c l ih=>rw [qW,qC,ih,hf,qB,Nat.add_mul];omega
theorem cat_at (hf:∀ x,(f x).length=w):∀ (l:List α) (k:Nat) (h:k<l.length),((l.flatMap f).drop (k * w)).take w=f l[k]
 | c :: l,0,h=>by
  rw [Nat.zero_mul,List.drop_zero,qW]
  exact List.take_left' (hf c)
 | c :: l,k+1,h=>by
  have:=cat_at hf l k (by simpa using h)
  rw [show (k+1) * w=w+k * w by rw [Nat.add_mul];omega,← List.drop_drop,qW,List.drop_left' (hf c)]
  simpa using this
theorem cat_snoc (l:List α) (x:α):l.flatMap f ++ f x=(l ++ [x]).flatMap f:=by simp
theorem cat_one (h:∀ x,(f x).all AV.one=true) (l:List α):(l.flatMap f).all AV.one=true:=by
 rw [qX]
 intro y hy
 obtain ⟨x,_,hx⟩:=List.mem_flatMap.1 hy
 exact List.all_eq_true.1 (h x) y hx
end
abbrev legC (x:Leg):List AV:=[.int .i64 x.frm,.int .i64 x.to,.int .i64 x.long]
abbrev tunC (x:Tun):List AV:=[.int .i64 x.frm,.int .i64 x.to,.int .i64 x.long,.int .i64 x.fall,.int .i64 x.err]
abbrev tryC (x:Try):List AV:=[.int .i64 x.frm,.int .i64 x.to,.int .i64 x.off]
abbrev stpC (x:Stp):List AV:=[.int .i64 x.sight,.bool x.back]
def legsC (l:List Leg):List AV:=l.flatMap legC
def triesC (l:List Try):List AV:=l.flatMap tryC
def stpsC (l:List Stp):List AV:=l.flatMap stpC
attribute [go_sem] legC tunC tryC stpC
@[simp] theorem legsC_len (l:List Leg):(legsC l).length=l.length * 3:=cat_len (f:=legC) (fun _=>rfl) l
@[simp] theorem triesC_len (l:List Try):(triesC l).length=l.length * 3:=cat_len (f:=tryC) (fun _=>rfl) l
@[simp] theorem zCo (l:List Stp):(stpsC l).length=l.length * 2:=cat_len (f:=stpC) (fun _=>rfl) l
@[simp] theorem legsC_bnd (n k:Nat) (l:List Leg):bndL n k (legsC l)=true:=zBb _ (fun _=>rfl) l
@[simp] theorem triesC_bnd (n k:Nat) (l:List Try):bndL n k (triesC l)=true:=zBb _ (fun _=>rfl) l
@[simp] theorem stpsC_bnd (n k:Nat) (l:List Stp):bndL n k (stpsC l)=true:=zBb _ (fun _=>rfl) l
abbrev legsA (l:List Leg):AV:=.slice (legsC l) l.length .unk
abbrev triesA (l:List Try):AV:=.slice (triesC l) l.length .unk
abbrev stpsA (l:List Stp):AV:=.slice (stpsC l) l.length .unk
def rangeB (lo hi:Int):Bool:=inB lo 0 hi && decide (hi≤20)
theorem range_iff {lo hi:Int}:rangeB lo hi=true↔RangeOk lo hi:=by
 unfold rangeB
 rw [zR,inB_iff,decide_eq_true_iff]
 exact ⟨fun ⟨⟨a,b⟩,c⟩=>⟨a,b,c⟩,fun h=>⟨⟨h.l0,h.mid⟩,h.top⟩⟩
theorem isRange_pc (lo hi:Int):PC Tryz.prog 101 [.int .i64 lo,.int .i64 hi] (.pure (.bool (rangeB lo hi))):=by
 refine PC.of_empty (AC.run (E_ok _) mix Tryz.func101 m101 rfl rfl rfl (zE rfl) ?_) rfl rfl
 simp only [go_sem,zB,zD,zC,reduceIte,reduceCtorEq,zA]
 refine cp n100 (in_pc _ _ _) (SubL.refl _) ?_
 rw [show (decide (lo ≥ 0) && decide (lo≤hi))=inB lo 0 hi from rfl]
 unfold rangeB
 cases inB lo 0 hi
 ·simp only [go_sem,qG,Tryz.f101,zB,zD,zC,reduceIte,reduceCtorEq,zA]
 ·simp only [go_sem,yA,Tryz.f101,zB,zD,zC,reduceIte,reduceCtorEq,zA]
theorem endsL_pc (x:Leg):PC Tryz.prog 240 [.agg (legC x)] (.pure (.tuple [.int .i64 x.frm,.int .i64 x.to])):=by
 refine PC.of_empty (AC.run (E_ok _) mix Tryz.func240 m240 rfl rfl rfl (zE rfl) ?_) (by simp [bndL,AV.bnd]) rfl
 simp only [go_sem,boxA,Tryz.f240,zB,zD,zC,reduceIte,reduceCtorEq,zA]
theorem endsT_pc (x:Tun):PC Tryz.prog 241 [.agg (tunC x)] (.pure (.tuple [.int .i64 x.frm,.int .i64 x.to])):=by
 refine PC.of_empty (AC.run (E_ok _) mix Tryz.func241 m241 rfl rfl rfl (zE rfl) ?_) (by simp [bndL,AV.bnd]) rfl
 simp only [go_sem,boxA,Tryz.f241,zB,zD,zC,reduceIte,reduceCtorEq,zA]
theorem endsY_pc (x:Try):PC Tryz.prog 239 [.agg (tryC x)] (.pure (.tuple [.int .i64 x.frm,.int .i64 x.to])):=by
 refine PC.of_empty (AC.run (E_ok _) mix Tryz.func239 m239 rfl rfl rfl (zE rfl) ?_) (by simp [bndL,AV.bnd]) rfl
 simp only [go_sem,boxA,Tryz.f239,zB,zD,zC,reduceIte,reduceCtorEq,zA]
@[go_sem] theorem bd_leg (a b c:Int):buildA T 198 [(0,.agg [.int .i64 a,.int .i64 b,.int .i64 c])]=some (.agg [.int .i64 a,.int .i64 b,.int .i64 c]):=rfl
@[go_sem] theorem d_leg:descOf T 198=some ti198.desc:=rfl
@[go_sem] theorem i_leg:isIface ti198.desc=false:=rfl
@[go_sem] theorem bd_tun (a b c d e:Int):buildA T 200 [(0,.agg [.int .i64 a,.int .i64 b,.int .i64 c,.int .i64 d,.int .i64 e])]=some (.agg [.int .i64 a,.int .i64 b,.int .i64 c,.int .i64 d,.int .i64 e]):=rfl
@[go_sem] theorem d_tun:descOf T 200=some ti200.desc:=rfl
@[go_sem] theorem i_tun:isIface ti200.desc=false:=rfl
@[go_sem] theorem bd_try (a b c:Int):buildA T 161 [(0,.agg [.int .i64 a,.int .i64 b,.int .i64 c])]=some (.agg [.int .i64 a,.int .i64 b,.int .i64 c]):=rfl
@[go_sem] theorem d_try:descOf T 161=some ti161.desc:=rfl
@[go_sem] theorem i_try:isIface ti161.desc=false:=rfl
def legB (s:Survey) (x:Leg):Bool:=linkB s x.frm x.to && inB x.long 1 100
theorem isLeg_pc (s:Survey) (x:Leg):PC Tryz.prog 104 [surA s,.agg (legC x)] (.pure (.bool (legB s x))):=by
 refine PC.of_empty (AC.run (E_ok _) mix Tryz.func104 m104 rfl rfl rfl (zE rfl) ?_) (by simp [bndL,AV.bnd]) rfl
 have hI:=zEy s (t:=198) (g:=240) rfl n240 (.agg (legC x)) (by simp [AV.bnd,bndL]) _ _ (endsL_pc x)
 unfold legB
 simp only [go_sem,boxA,zB,zD,zC,reduceIte,reduceCtorEq,zA]
 refine cp n115 hI (SubL.refl _) ?_
 cases linkB s x.frm x.to
 ·simp only [go_sem,qG,Tryz.f104,zB,zD,zC,reduceIte,reduceCtorEq,zA]
 simp only [go_sem,yA,zB,zD,zC,reduceIte,reduceCtorEq,zA]
 refine cp n100 (in_pc _ _ _) (SubL.refl _) ?_
 rw [show (decide (x.long ≥ 1) && decide (x.long≤100))=inB x.long 1 100 from rfl]
 simp only [go_sem,Tryz.f104,zB,zD,zC,reduceIte,reduceCtorEq,zA]
theorem link_iff {s:Survey} (h:2≤s.stations∧s.stations≤8) {a b:Int}:linkB s a b=true↔(0≤a∧a<s.stations)∧(0≤b∧b<s.stations)∧a≠b:=by
 unfold linkB
 rw [zR,zR,zBq h,zBq h,decide_eq_true_iff]
theorem leg_iff {s:Survey} (h:2≤s.stations∧s.stations≤8) {x:Leg}:legB s x=true↔LegOk s.stations x:=by
 unfold legB
 rw [zR,link_iff h,inB_iff]
 exact ⟨fun ⟨⟨a,b,c⟩,d⟩=>⟨a,b,c,d⟩,fun h=>⟨⟨h.frm,h.to,h.ne⟩,h.long⟩⟩
def tunB (s:Survey) (x:Tun):Bool:=linkB s x.frm x.to && (inB x.long 1 100 && (inB x.fall 0 20 && inB x.err 0 5))
theorem tun_iff {s:Survey} (h:2≤s.stations∧s.stations≤8) {x:Tun}:tunB s x=true↔TunOk s.stations x:=by
 unfold tunB
 rw [zR,zR,zR,link_iff h,inB_iff,inB_iff,inB_iff]
 exact ⟨fun ⟨⟨a,b,c⟩,d,e,f⟩=>⟨a,b,c,d,e,f⟩,fun h=>⟨⟨h.frm,h.to,h.ne⟩,h.long,h.fall,h.err⟩⟩
theorem isTunnel_pc (s:Survey) (x:Tun):PC Tryz.prog 109 [surA s,.agg (tunC x)] (.pure (.bool (tunB s x))):=by
 refine PC.of_empty (AC.run (E_ok _) mix Tryz.func109 m109 rfl rfl rfl (zE rfl) ?_) (by simp [bndL,AV.bnd]) rfl
 have hI:=zEy s (t:=200) (g:=241) rfl n241 (.agg (tunC x)) (by simp [AV.bnd,bndL]) _ _ (endsT_pc x)
 unfold tunB
 simp only [go_sem,boxA,zB,zD,zC,reduceIte,reduceCtorEq,zA]
 refine cp n115 hI (SubL.refl _) ?_
 cases linkB s x.frm x.to
 ·simp only [go_sem,qG,Tryz.f109,zB,zD,zC,reduceIte,reduceCtorEq,zA]
 simp only [go_sem,yA,zB,zD,zC,reduceIte,reduceCtorEq,zA]
 refine cp n100 (in_pc _ _ _) (SubL.refl _) ?_
 rw [show (decide (x.long ≥ 1) && decide (x.long≤100))=inB x.long 1 100 from rfl]
 cases inB x.long 1 100
 ·simp only [go_sem,qG,Tryz.f109,zB,zD,zC,reduceIte,reduceCtorEq,zA]
 simp only [go_sem,yA,zB,zD,zC,reduceIte,reduceCtorEq,zA]
 refine cp n100 (in_pc _ _ _) (SubL.refl _) ?_
 rw [show (decide (x.fall ≥ 0) && decide (x.fall≤20))=inB x.fall 0 20 from rfl]
 cases inB x.fall 0 20
 ·simp only [go_sem,qG,Tryz.f109,zB,zD,zC,reduceIte,reduceCtorEq,zA]
 simp only [go_sem,yA,zB,zD,zC,reduceIte,reduceCtorEq,zA]
 refine cp n100 (in_pc _ _ _) (SubL.refl _) ?_
 rw [show (decide (x.err ≥ 0) && decide (x.err≤5))=inB x.err 0 5 from rfl]
 simp only [go_sem,Tryz.f109,zB,zD,zC,reduceIte,reduceCtorEq,zA]
def badTry (s:Survey) (x:Try):Bool:=!linkB s x.frm x.to || !inB x.off 0 50
theorem try_iff {s:Survey} (h:2≤s.stations∧s.stations≤8) {x:Try}:badTry s x=false↔TryOk s.stations x:=by
 unfold badTry
 rw [Bool.or_eq_false_iff,Bool.not_eq_false',Bool.not_eq_false',link_iff h,inB_iff]
 exact ⟨fun ⟨⟨a,b,c⟩,d⟩=>⟨a,b,c,d⟩,fun h=>⟨⟨h.frm,h.to,h.ne⟩,h.off⟩⟩
theorem takes1_pc (s:Survey) (x:Try):PC Tryz.prog 114 [.agg (tryC x),.eptr (surC s) 0] (.pure (.bool (badTry s x))):=by
 refine PC.of_empty (AC.run (E_ok _) mix Tryz.func114 m114 rfl rfl rfl (zE rfl) ?_) (by simp [bndL,AV.bnd]) rfl
 have hI:=zEy s (t:=161) (g:=239) rfl n239 (.agg (tryC x)) (by simp [AV.bnd,bndL]) _ _ (endsY_pc x)
 unfold badTry
 simp only [go_sem,boxA,zB,zD,zC,reduceIte,reduceCtorEq,zA]
 refine cp n115 hI (SubL.refl _) ?_
 cases linkB s x.frm x.to
 ·simp only [go_sem,zAh,qD,Bool.true_or,Tryz.f114,zB,zD,zC,reduceIte,reduceCtorEq,zA]
 simp only [go_sem,zAh,zV,Bool.false_or,zB,zD,zC,reduceIte,reduceCtorEq,zA]
 refine cp n100 (in_pc _ _ _) (SubL.refl _) ?_
 rw [show (decide (x.off ≥ 0) && decide (x.off≤50))=inB x.off 0 50 from rfl]
 simp only [go_sem,zAh,Tryz.f114,zB,zD,zC,reduceIte,reduceCtorEq,zA]
end Go.Av.Lx
end
section
set_option maxHeartbeats 1000000
namespace Go.Av.Lx
open Go Go.Av Go.Av.Tb Go.Av.Fx Go.Proofs
open Go.Lv (Sight Survey Sw Sv SightOk Leg LegOk RangeOk Tun TunOk Try TryOk Stp fallW meetL meetH)
open Go.Fw (Sq ent Bd Mat)
structure JoinP (s:Survey) (V:Mat) (i j:Int):Prop where
 sq:Sq (Lv.num s) V
 hi:0≤i∧i<s.stations
 hj:0≤j∧j<s.stations
 e1:-8400≤ent V i.toNat j.toNat∧ent V i.toNat j.toNat≤8400
 e2:-8400≤ent V j.toNat i.toNat∧ent V j.toNat i.toNat≤8400
theorem joinP {s:Survey} (h:Sw s) {V:Mat} (hV:Lv.knownV s=some V) {i j:Int} (hi:0≤i∧i<s.stations) (hj:0≤j∧j<s.stations) (hf:ent V i.toNat j.toNat<far):JoinP s V i j:=by
 have a:i.toNat<Lv.num s:=by show i.toNat<s.stations.toNat;omega
 have b:j.toNat<Lv.num s:=by show j.toNat<s.stations.toNat;omega
 exact ⟨zBk (ds:=[]) hV,hi,hj,Lv.known_bd h hV a b hf,Lv.known_bd h hV b a (Lv.known_sym h hV a b hf)⟩
theorem falls_pc (s:Survey) (V:Mat) (x:Leg) (lo hi:Int) (hx:LegOk s.stations x) (hr:RangeOk lo hi) (hj:JoinP s V x.frm x.to):PC Tryz.prog 106 [kA s V,.agg (legC x),.int .i64 lo,.int .i64 hi] (.pure (.int .i64 (fallW V x lo hi))):=by
 refine PC.of_empty (AC.run (E_ok _) mix Tryz.func106 m106 rfl rfl rfl (zE rfl) ?_) (by simp [bndL,AV.bnd]) rfl
 obtain ⟨f,t,g⟩:=x
 obtain ⟨s1,s2⟩:=Lv.leg_small hx hr
 obtain ⟨sq,hi',hj',e1,e2⟩:=hj
 simp only at s1 s2 hi' hj' e1 e2
 obtain ⟨a,rfl⟩:∃ a:Nat,f=a:=⟨f.toNat,by omega⟩
 obtain ⟨b,rfl⟩:∃ b:Nat,t=b:=⟨t.toNat,by omega⟩
 have ha:a<Lv.num s:=by show a<s.stations.toNat;omega
 have hb:b<Lv.num s:=by show b<s.stations.toNat;omega
 unfold fallW
 simp only [qT] at e1 e2 ⊢
 have w1:IntKind.i64.wrap (g * lo)=g * lo:=wrap64 (by omega)
 have w2:IntKind.i64.wrap (g * hi)=g * hi:=wrap64 (by omega)
 have w3:IntKind.i64.wrap (0 - ent V a b) = -ent V a b:=by rw [wrap64 (by omega)];omega
 simp only [go_sem,boxA,kvC,zB,zD,zC,reduceIte,reduceCtorEq,zA]
 refine cp n85 (span_pc s sq hb ha) (SubL.refl _) ?_
 by_cases h1:-ent V a b ≥ g * lo
 ·by_cases h2:ent V b a≤g * hi
  ·rw [if_pos ⟨h1,h2⟩]
   simp only [go_sem,spanA,w1,w2,w3,h1,h2,decide_true,Tryz.f106,zB,zD,zC,reduceIte,reduceCtorEq,zA]
  ·rw [if_neg (fun hh=>h2 hh.2)]
   by_cases h3:ent V b a<g * lo
   ·rw [if_pos (.inl h3)]
    simp only [go_sem,spanA,w1,w2,w3,h1,h2,h3,decide_true,decide_false,Tryz.f106,zB,zD,zC,reduceIte,reduceCtorEq,zA]
   ·by_cases h4:-ent V a b > g * hi
    ·rw [if_pos (.inr h4)]
     simp only [go_sem,spanA,w1,w2,w3,h1,h2,h3,h4,decide_true,decide_false,Tryz.f106,zB,zD,zC,reduceIte,reduceCtorEq,zA]
    ·rw [if_neg (by omega)]
     simp only [go_sem,spanA,w1,w2,w3,h1,h2,h3,h4,decide_true,decide_false,Tryz.f106,zB,zD,zC,reduceIte,reduceCtorEq,zA]
 ·rw [if_neg (fun hh=>h1 hh.1)]
  by_cases h3:ent V b a<g * lo
  ·rw [if_pos (.inl h3)]
   simp only [go_sem,spanA,w1,w2,w3,h1,h3,decide_true,decide_false,Tryz.f106,zB,zD,zC,reduceIte,reduceCtorEq,zA]
  ·by_cases h4:-ent V a b > g * hi
   ·rw [if_pos (.inr h4)]
    simp only [go_sem,spanA,w1,w2,w3,h1,h3,h4,decide_true,decide_false,Tryz.f106,zB,zD,zC,reduceIte,reduceCtorEq,zA]
   ·rw [if_neg (by omega)]
    simp only [go_sem,spanA,w1,w2,w3,h1,h3,h4,decide_true,decide_false,Tryz.f106,zB,zD,zC,reduceIte,reduceCtorEq,zA]
def betwA (s:Survey) (i j:Int) (fine:Bool) (z:List AV) (r:Mat→List AV):AV:=
 if zAo s && (fine && (staB s i && staB s j)) then (match Lv.knownV s with
  | some V=>if ent V i.toNat j.toNat<far then .tuple (r V ++ [.int .i64 0]) else .tuple (z ++ [.int .i64 5])
  | none=>.tuple (z ++ [.int .i64 7]))
 else .tuple (z ++ [.int .i64 2])
theorem zFb {s:Survey} {i j:Int} {fine:Bool} {z:List AV} {r:Mat→List AV} (hz:bndL 0 0 z=true) (hr:∀ V,bndL 0 0 (r V)=true):(betwA s i j fine z r).bnd 0 0=true:=by
 have e:∀ l k,bndL 0 0 l=true→bndL 0 0 (l ++ [AV.int .i64 k])=true:=fun l k h=>by
  induction l with
  | nil=>rfl
  | cons a l ih =>
   simp only [bndL,zR,yE] at h ⊢
   exact ⟨h.1,ih h.2⟩
 unfold betwA
 split
 ·split
  ·split
   ·exact e _ _ (hr _)
   ·exact e _ _ hz
  ·exact e _ _ hz
 ·exact e _ _ hz
theorem zDh (s:Survey) (i j:Int) (fine:Bool) (z:List AV) (r:Mat→List AV) :
  (∃ k:Int,decide (k≠0)=true∧(k=2∨k=5∨k=7)∧zCu s i j fine=.tuple [zeroK,.int .i64 k]∧betwA s i j fine z r=.tuple (z ++ [.int .i64 k])) ∨
  (∃ V,Sv s∧fine=true∧Lv.knownV s=some V∧JoinP s V i j∧zCu s i j fine=.tuple [kA s V,.int .i64 0]∧betwA s i j fine z r=.tuple (r V ++ [.int .i64 0])):=by
 unfold zCu betwA
 cases hs:zAo s
 ·exact .inl ⟨2,rfl,.inl rfl,rfl,rfl⟩
 cases hf:fine
 ·exact .inl ⟨2,rfl,.inl rfl,rfl,rfl⟩
 cases hi:staB s i
 ·exact .inl ⟨2,rfl,.inl rfl,rfl,rfl⟩
 cases hj:staB s j
 ·exact .inl ⟨2,rfl,.inl rfl,rfl,rfl⟩
 have hv:=zBr.1 hs
 cases hV:Lv.knownV s with
 | none=>exact .inl ⟨7,rfl,.inr (.inr rfl),rfl,rfl⟩
 | some V =>
  simp only [zJ,if_true]
  by_cases hlt:ent V i.toNat j.toNat<far
  ·rw [if_pos hlt,if_pos hlt]
   exact .inr ⟨V,hv,by simp,by simp,joinP hv.toSw hV ((zBq hv.st).1 hi) ((zBq hv.st).1 hj) hlt,rfl,rfl⟩
  ·rw [if_neg hlt,if_neg hlt]
   exact .inl ⟨5,rfl,.inr (.inl rfl),rfl,rfl⟩
def fallsA (s:Survey) (x:Leg) (lo hi:Int):AV:=betwA s x.frm x.to (legB s x && rangeB lo hi) [.int .i64 0] fun V=>[.int .i64 (fallW V x lo hi)]
theorem Falls_pc (s:Survey) (hl:okL s.sights.length) (x:Leg) (lo hi:Int):PC Tryz.prog 39 [surA s,.agg (legC x),.int .i64 lo,.int .i64 hi] (.pure (fallsA s x lo hi)):=by
 refine PC.of_empty (AC.run (E_ok _) mix Tryz.func39 m39 rfl rfl rfl (zE rfl) ?_) (by simp [bndL,AV.bnd]) (zFb rfl fun _=>rfl)
 unfold fallsA
 simp only [go_sem,boxA,zB,zD,zC,reduceIte,reduceCtorEq,zA]
 refine qp n104 (isLeg_pc s x) (SubL.refl _) ?_
 cases hg:legB s x
 ·simp only [go_sem,qG,zB,zD,zC,reduceIte,reduceCtorEq,zA]
  refine qp n84 (zCl s hl x.frm x.to false) (SubL.refl _) ?_
  rcases zDh s x.frm x.to false [.int .i64 0] (fun V=>[.int .i64 (fallW V x lo hi)]) with ⟨k,hk,_,e1,e2⟩ | ⟨V,hv,hf,hV,hj,e1,e2⟩
  ·rw [qG,e1,e2]
   simp only [go_sem,zAc,hk,Tryz.f39,zB,zD,zC,reduceIte,reduceCtorEq,zA]
   all_goals rfl
  ·cases hf
 ·rw [yA]
  simp only [go_sem,yA,zB,zD,zC,reduceIte,reduceCtorEq,zA]
  refine qp n101 (isRange_pc lo hi) (SubL.refl _) ?_
  simp only [go_sem,zB,zD,zC,reduceIte,reduceCtorEq,zA]
  refine qp n84 (zCl s hl x.frm x.to (rangeB lo hi)) (SubL.refl _) ?_
  rcases zDh s x.frm x.to (rangeB lo hi) [.int .i64 0] (fun V=>[.int .i64 (fallW V x lo hi)]) with ⟨k,hk,_,e1,e2⟩ | ⟨V,hv,hf,hV,hj,e1,e2⟩
  ·rw [e1,e2]
   simp only [go_sem,zAc,hk,Tryz.f39,zB,zD,zC,reduceIte,reduceCtorEq,zA]
   all_goals rfl
  ·rw [e1,e2]
   simp only [go_sem,zAc,kvC,zB,zD,zC,reduceIte,reduceCtorEq,zA]
   refine cp n106 (falls_pc s V x lo hi ((leg_iff hv.st).1 hg) (range_iff.1 hf) hj) (SubL.refl _) ?_
   simp only [go_sem,Tryz.f39,zB,zD,zC,reduceIte,reduceCtorEq,zA]
   all_goals rfl
def meetA (V:Mat) (x:Tun):AV:=.agg [.int .i64 (meetL V x),.int .i64 (meetH V x)]
theorem meets_pc (s:Survey) (V:Mat) (x:Tun) (hx:TunOk s.stations x) (hj:JoinP s V x.frm x.to):PC Tryz.prog 110 [kA s V,.agg (tunC x)] (.pure (meetA V x)):=by
 refine PC.of_empty (AC.run (E_ok _) mix Tryz.func110 m110 rfl rfl rfl (zE rfl) ?_) (by simp [bndL,AV.bnd]) rfl
 have h1:=hx.fall'
 have h2:=hx.err'
 obtain ⟨f,t,g,l,e⟩:=x
 obtain ⟨sq,hi',hj',e1,e2⟩:=hj
 simp only at h1 h2 hi' hj' e1 e2
 obtain ⟨a,rfl⟩:∃ a:Nat,f=a:=⟨f.toNat,by omega⟩
 obtain ⟨b,rfl⟩:∃ b:Nat,t=b:=⟨t.toNat,by omega⟩
 have ha:a<Lv.num s:=by show a<s.stations.toNat;omega
 have hb:b<Lv.num s:=by show b<s.stations.toNat;omega
 unfold meetA meetL meetH
 simp only [qT] at e1 e2 ⊢
 have w1:IntKind.i64.wrap (g * l)=g * l:=wrap64 (by omega)
 have w2:IntKind.i64.wrap (g * e)=g * e:=wrap64 (by omega)
 have w3:IntKind.i64.wrap (0 - ent V a b) = -ent V a b:=by rw [wrap64 (by omega)];omega
 have w4:IntKind.i64.wrap (-ent V a b - g * l) = -ent V a b - g * l:=wrap64 (by omega)
 have w5:IntKind.i64.wrap (-ent V a b - g * l - g * e) = -ent V a b - g * l - g * e:=wrap64 (by omega)
 have w6:IntKind.i64.wrap (ent V b a - g * l)=ent V b a - g * l:=wrap64 (by omega)
 have w7:IntKind.i64.wrap (ent V b a - g * l+g * e)=ent V b a - g * l+g * e:=wrap64 (by omega)
 have hbd:∀ p q:Int,buildA T 28 [(0,.int .i64 p),(1,.int .i64 q)]=some (.agg [.int .i64 p,.int .i64 q]):=fun _ _=>rfl
 simp only [go_sem,boxA,kvC,zB,zD,zC,reduceIte,reduceCtorEq,zA]
 refine cp n85 (span_pc s sq hb ha) (SubL.refl _) ?_
 simp only [go_sem,spanA,w1,w2,w3,w4,w5,w6,w7,hbd,Tryz.f110,zB,zD,zC,reduceIte,reduceCtorEq,zA]
 all_goals rfl
def meetsA (s:Survey) (x:Tun):AV:=betwA s x.frm x.to (tunB s x) [.agg [.int .i64 0,.int .i64 0]] fun V=>[meetA V x]
theorem Meets_pc (s:Survey) (hl:okL s.sights.length) (x:Tun):PC Tryz.prog 42 [surA s,.agg (tunC x)] (.pure (meetsA s x)):=by
 refine PC.of_empty (AC.run (E_ok _) mix Tryz.func42 m42 rfl rfl rfl (zE rfl) ?_) (by simp [bndL,AV.bnd]) (zFb rfl fun _=>rfl)
 unfold meetsA
 simp only [go_sem,boxA,zB,zD,zC,reduceIte,reduceCtorEq,zA]
 refine qp n109 (isTunnel_pc s x) (SubL.refl _) ?_
 simp only [go_sem,zB,zD,zC,reduceIte,reduceCtorEq,zA]
 refine qp n84 (zCl s hl x.frm x.to (tunB s x)) (SubL.refl _) ?_
 rcases zDh s x.frm x.to (tunB s x) [.agg [.int .i64 0,.int .i64 0]] (fun V=>[meetA V x]) with ⟨k,hk,_,e1,e2⟩ | ⟨V,hv,hf,hV,hj,e1,e2⟩
 ·rw [e1,e2]
  simp only [go_sem,zAc,hk,Tryz.f42,zB,zD,zC,reduceIte,reduceCtorEq,zA]
  all_goals rfl
 ·rw [e1,e2]
  simp only [go_sem,zAc,kvC,zB,zD,zC,reduceIte,reduceCtorEq,zA]
  refine cp n110 (meets_pc s V x ((tun_iff hv.st).1 hf) hj) (SubL.refl _) ?_
  simp only [go_sem,meetA,Tryz.f42,zB,zD,zC,reduceIte,reduceCtorEq,zA]
  all_goals rfl
end Go.Av.Lx
end
section
namespace Go.Lv
open Go.Fw
structure HiIn (f:Int) (n c:Nat) (F:Int) (W:Mat):Prop where
 sq:Sq n W
 col:∀ i,i<n→ent W i c<f→ent W i c≤F
 row:∀ j,j<n→ent W c j<f→ent W c j≤F
 all:∀ i j,i<n→j<n→ent W i j<f→ent W i j≤2 * F
theorem HiIn.upd {f:Int} {n c a b:Nat} {F:Int} {W:Mat} (h:HiIn f n c F W) (ha:a<n) (hb:b<n) (hc:c<n):HiIn f n c F (upd f c a W b):=by
 unfold Fw.upd
 split
 ·rename_i g
  obtain ⟨g1,g2⟩:=g
  have e:=ent_put h.sq ha hb (min (ent W a b) (ent W a c+ent W c b))
  have k1:=h.col a ha g1
  have k2:=h.row b hb g2
  refine ⟨h.sq.put _ _ _,fun i hi hl => ?_,fun j hj hl => ?_,fun i j hi hj hl => ?_⟩
  ·rw [e] at hl ⊢
   split
   ·rename_i q
    obtain ⟨q1,q2⟩:=q
    subst q2;omega
   ·rename_i q
    rw [if_neg q] at hl;exact h.col i hi hl
  ·rw [e] at hl ⊢
   split
   ·rename_i q
    obtain ⟨q1,q2⟩:=q
    subst q1;omega
   ·rename_i q
    rw [if_neg q] at hl;exact h.row j hj hl
  ·rw [e] at hl ⊢
   split
   ·omega
   ·rename_i q
    rw [if_neg q] at hl;exact h.all i j hi hj hl
 ·exact h
theorem HiIn.upds {f:Int} {n c a:Nat} {F:Int} {W:Mat} (h:HiIn f n c F W) (ha:a<n) (hc:c<n):∀ b,b≤n→HiIn f n c F ((List.range b).foldl (Fw.upd f c a) W)
 | 0,_=>h
 | b+1,hb=>by
  rw [fold_succ]
  exact (HiIn.upds h ha hc b (by omega)).upd ha (by omega) hc
theorem HiIn.rows {f:Int} {n c:Nat} {F:Int} {W:Mat} (h:HiIn f n c F W) (hc:c<n):∀ a,a≤n→HiIn f n c F ((List.range a).foldl (Fw.row f n c) W)
 | 0,_=>h
 | a+1,ha=>by
  rw [fold_succ]
  exact (HiIn.rows h hc a (by omega)).upds (by omega) hc n (zN _)
end Go.Lv
end
section
set_option maxHeartbeats 2000000
namespace Go.Av.Lx
open Go Go.Av Go.Av.Tb Go.Av.Fx Go.Proofs
open Go.Lv (Sight Survey Sw Sv SightOk)
open Go.Fw (Sq ent Bd Mat upd row stage upto)
theorem wc_forE {E:Env} {c:MC} {Q:AQ} {ts:TS} {S:St} (N:Nat) (f:Nat→TS) (g:Nat→St→Prop) (h0:f 0=ts) (h1:g 0 S)
  (h:∀ k,k≤N → ∀ S,g k S → ∀ I:TS→St→Prop,(k<N → ∀ S',g (k+1) S'→I (f (k+1)) S')→WC E c (thenQ I Q) (f k) S):WC E (.loop c) Q ts S:=by
 refine zAt (fun m ts' S' => ∃ k,k≤N∧m=N - k∧ts'=f k∧g k S') N ⟨0,qH _,rfl,h0.symm,h1⟩ ?_
 rintro n ts' S' ⟨k,hk,rfl,rfl,hg⟩
 exact h k hk S' hg _ fun hlt S'' hg'=>zAi (N - (k+1)) (by omega) ⟨k+1,hlt,rfl,rfl,hg'⟩
@[go_sem] theorem bsRB (b o n c:Nat):zAe T 36 1 [(0,.sref b o n c)]=some (.slice [.sref b o n c] 1 .exact):=rfl
@[go_sem] theorem bd_rises:buildA T 38 []=some (.agg [.nilS,.nilS]):=rfl
def offO (off:Int) (x:Sight):Int:=if off<0 then x.off else off
def allB (by' off:Int) (l:List Sight):List Bd:=l.flatMap fun x=>Lv.sightD by' (offO off x) x
structure AllOk (n:Nat) (by' off:Int) (l:List Sight):Prop where
 n8:1≤n∧n≤8
 ok:∀ x∈l,SightOk n x
 bys:1≤by'∧by'≤8
 offs:-1≤off∧off≤8000
theorem rise_by {r b:Int} (hr:-1000≤r∧r≤1000) (hb:1≤b∧b≤8):-8000≤r * b∧r * b≤8000:=by
 have:b=1∨b=2∨b=3∨b=4∨b=5∨b=6∨b=7∨b=8:=by omega
 rcases this with rfl | rfl | rfl | rfl | rfl | rfl | rfl | rfl <;> omega
theorem AllOk.num {n:Nat} {by' off:Int} {l:List Sight} (h:AllOk n by' off l) {x:Sight} (hx:x∈l):(-8000≤x.rise * by'∧x.rise * by'≤8000)∧(0≤offO off x∧offO off x≤8000):=by
 have ho:=h.ok x hx
 have h1:=ho.off;have h2:=h.offs
 refine ⟨rise_by ho.rise h.bys, ?_⟩
 unfold offO
 split <;> omega
theorem AllOk.oks {n:Nat} {by' off:Int} {l:List Sight} (h:AllOk n by' off l):Lv.Oks n (allB by' off l):=fun c hc=>by
 obtain ⟨x,hx,hc⟩:=List.mem_flatMap.1 hc
 obtain ⟨h1,h2⟩:=h.num hx
 have ho:=h.ok x hx
 have a:=ho.frm;have b:=ho.to;have d:=ho.ne
 have hb:Lv.big=20000:=rfl
 unfold Lv.sightD at hc
 simp only [yK,qY,or_false] at hc
 rcases hc with rfl | rfl
 ·exact ⟨by show x.frm.toNat<n;omega,by show x.to.toNat<n;omega,by show x.frm.toNat≠x.to.toNat;omega,by show -Lv.big≤x.rise * by'+offO off x;omega,by show x.rise * by'+offO off x≤Lv.big;omega⟩
 ·exact ⟨by show x.to.toNat<n;omega,by show x.frm.toNat<n;omega,by show x.to.toNat≠x.frm.toNat;omega,by show -Lv.big≤offO off x - x.rise * by';omega,by show offO off x - x.rise * by'≤Lv.big;omega⟩
end Go.Av.Lx
end

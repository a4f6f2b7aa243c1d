/- Part 25 of the proof. -/
import Derived.Test.YtclmbbofpaecaaaGreatDoorVn24
import Derived.Test.YtclmbbofpaecaaaGreatDoorVn14
set_option linter.all false
set_option linter.unusedVariables false
set_option linter.unusedSimpArgs false
set_option linter.unusedSectionVars false
open Bool renaming and_self → zJ, and_eq_true → zT, not_true → zV, not_false → qF, false_and → qH, true_and → qY
open ByteArray renaming size_append → qI
open Int renaming le_refl → qZ, mul_nonneg → yI, tdiv_eq_ediv_of_nonneg → yJ, tmod_eq_emod_of_nonneg → yK
open List renaming getElem?_eq_getElem → zF, getD_eq_getElem?_getD → zG, set_cons_succ → zH, set_cons_zero → zI, all_cons → zL, all_nil → zO, mem_cons_of_mem → zR, getElem_mem → qB, take_succ_eq_append_getElem → qM, map_append → qS, not_mem_nil → yA, all_eq_true → yG, mem_cons → yM, range_succ → yN, take_length → yO, mem_singleton → yP
open Nat renaming reduceLeDiff → zA, reduceEqDiff → zB, reduceAdd → zC, reduceBEq → zD, le_of_ble_eq_true → zE, le_refl → zM, zero_le → qG
open Option renaming map_some → zX, bind_some → qT
section
set_option maxHeartbeats 4000000
namespace Go.Av.Lx
open Go Go.Av Go.Av.Tb Go.Av.Fx Go.Proofs
open Go.Lv (Sight Survey Sw Sv SightOk)
@[go_sem] theorem bs93_b (n:Int):zAe T 106 1 [(0,.int .u8 n)]=some (.slice [.int .u8 n] 1 .exact):=rfl
theorem bstr (S:St) (n:Int) (t:Tail):zCc T S 106 9 (.slice [.int .u8 n] 1 t)=some (.pure (.str (strOfNums [n]))):=rfl
theorem itoa_dig {d:Nat} (h:d<10):strOfNums [48+(d:Int)]=⟨#[UInt8.ofNat (48+d)]⟩:=by
 have:∀ d:Nat,d<10→strOfNums [48+(d:Int)]=⟨#[UInt8.ofNat (48+d)]⟩:=by
  intro d hd
  match d,hd with
  | 0,_=>rfl
  | 1,_=>rfl
  | 2,_=>rfl
  | 3,_=>rfl
  | 4,_=>rfl
  | 5,_=>rfl
  | 6,_=>rfl
  | 7,_=>rfl
  | 8,_=>rfl
  | 9,_=>rfl
 exact this d h
theorem itoaB_small {n:Int} (h0:0≤n) (h:n<10):itoaB n=⟨#[UInt8.ofNat (48+n.toNat)]⟩:=by
 unfold itoaB Lib.itoa
 rw [if_neg (by omega),Lib.decDigits_one (by omega)]
theorem itoaB_negsmall {n:Int} (h0:-10<n) (h:n<0):itoaB n=⟨#[45]⟩ ++ ⟨#[UInt8.ofNat (48+(-n).toNat)]⟩:=by
 apply ba_ext
 rw [zCq]
 unfold itoaB Lib.itoa
 rw [if_pos h,Lib.decDigits_one (by omega),show n.natAbs=(-n).toNat by omega];rfl
theorem itoaB_big {n:Int} (h:10≤n):itoaB n=itoaB (n.tdiv 10) ++ ⟨#[UInt8.ofNat (48+(n.tmod 10).toNat)]⟩:=by
 have d2:n.tdiv 10=n / 10:=yJ (by omega)
 have d4:n.tmod 10=n % 10:=yK (by omega)
 apply ba_ext
 rw [zCq,d2,d4]
 unfold itoaB Lib.itoa
 rw [if_neg (by omega),if_neg (by omega),Lib.decDigits,dif_neg (by omega),show (n / 10).toNat=n.toNat / 10 by omega,show (n % 10).toNat=n.toNat % 10 by omega]
theorem itoaB_negbig {n:Int} (h:n ≤ -10):itoaB n=itoaB (n.tdiv 10) ++ ⟨#[UInt8.ofNat (48+(-(n.tmod 10)).toNat)]⟩:=by
 have e1:n.tdiv 10 = -((-n) / 10):=by
  have:=Int.neg_tdiv (-n) 10
  rw [Int.neg_neg] at this
  rw [this,yJ (by omega)]
 have e2:n.tmod 10 = -((-n) % 10):=by
  have:=Int.neg_tmod (-n) 10
  rw [Int.neg_neg] at this
  rw [this,yK (by omega)]
 apply ba_ext
 rw [zCq,e1,e2,Int.neg_neg]
 unfold itoaB Lib.itoa
 rw [if_pos (by omega),if_pos (by omega),Lib.decDigits,dif_neg (by omega),show (-(-n / 10)).natAbs=n.natAbs / 10 by omega,show (-n % 10).toNat=n.natAbs % 10 by omega]
 simp
@[go_sem] theorem conv35 (n:Int):convA T 3 5 (.int .i64 n)=some (.int .u8 (IntKind.u8.wrap n)):=rfl
@[go_sem] theorem conv939 (l:List AV) (n:Nat) (t:Tail):convA T 106 9 (.slice l n t)=none:=rfl
theorem u8w {n:Int} (h:0≤n∧n≤255):IntKind.u8.wrap n=n:=by rw [IntKind.wrap_u8];omega
theorem zDv:∀ (k:Nat) (n:Int),n.natAbs≤k→i64 n→PC Tryz.prog 167 [.int .i64 n] (.pure (.str (itoaB n))):=by
 intro k
 induction k with
 | zero =>
  intro n hk h
  have e:n=0:=by omega
  subst e
  refine PC.of_empty (AC.run (E_ok _) mix Tryz.func167 m167 rfl rfl rfl (zE rfl) ?_) rfl rfl
  have g1:((0:Int) > -10):=by decide
  have g2:¬ ((0:Int)<0):=by decide
  have g3:((0:Int)<10):=by decide
  have w1:IntKind.i64.wrap 48=48:=by decide
  have w2:IntKind.u8.wrap 48=48:=by decide
  have hs:strOfNums [48]=itoaB 0:=by
   rw [itoaB_small (by decide) (by decide)];rfl
  simp only [go_sem,g1,g2,g3,decide_true,decide_false,w1,w2,bstr,hs,Tryz.f167,zB,zD,zC,reduceIte,reduceCtorEq,zA]
 | succ k ih =>
  intro n hk h
  refine PC.of_empty (AC.run (E_ok _) mix Tryz.func167 m167 rfl rfl rfl (zE rfl) ?_) rfl rfl
  unfold i64 at h
  by_cases hn:n<0
  ·by_cases g1:n > -10
   ·obtain ⟨d,hd⟩:∃ d:Nat,n = -(d:Int):=⟨(-n).toNat,by omega⟩
    have w1:IntKind.i64.wrap (48 - n)=48+(d:Int):=by rw [wrap64 (by omega)];omega
    have w2:IntKind.u8.wrap (48+(d:Int))=48+(d:Int):=u8w (by omega)
    have hs:binA T .add 9 (.str ⟨#[45]⟩) (.str (strOfNums [48+(d:Int)]))=some (.str (itoaB n)):=by
     rw [itoaB_negsmall g1 hn,itoa_dig (by omega),show (-n).toNat=d by omega]
     exact addS (by show 1+1≤_;omega)
    simp only [go_sem,g1,hn,decide_true,w1,w2,bstr,hs,Tryz.f167,zB,zD,zC,reduceIte,reduceCtorEq,zA]
   ·have hb:=itoaB_negbig (n:=n) (by omega)
    have e1:n.tdiv 10 = -((-n) / 10):=by
     have:=Int.neg_tdiv (-n) 10
     rw [Int.neg_neg] at this
     rw [this,yJ (by omega)]
    have e2:n.tmod 10 = -((-n) % 10):=by
     have:=Int.neg_tmod (-n) 10
     rw [Int.neg_neg] at this
     rw [this,yK (by omega)]
    obtain ⟨d,hd⟩:∃ d:Nat,-(n.tmod 10)=(d:Int):=⟨(-(n.tmod 10)).toNat,by omega⟩
    have hd10:d<10:=by omega
    have q1:intOp .quo .i64 n 10=some (.int .i64 (n.tdiv 10)):=by
     show some (AV.int .i64 (IntKind.i64.wrap (n.tdiv 10)))=_
     rw [wrap64 (by omega)]
    have q2:intOp .rem .i64 n 10=some (.int .i64 (n.tmod 10)):=rfl
    have w1:IntKind.i64.wrap (48 - n.tmod 10)=48+(d:Int):=by rw [wrap64 (by omega)];omega
    have w2:IntKind.u8.wrap (48+(d:Int))=48+(d:Int):=u8w (by omega)
    have hI:i64 (n.tdiv 10):=⟨by omega,by omega⟩
    have hsz:=zBa hI
    have hs:binA T .add 9 (.str (itoaB (n.tdiv 10))) (.str (strOfNums [48+(d:Int)]))=some (.str (itoaB n)):=by
     rw [hb,itoa_dig hd10,show (-(n.tmod 10)).toNat=d by omega]
     exact addS (by show _+1≤_;omega)
    have hrec:=ih (n.tdiv 10) (by omega) hI
    simp only [go_sem,g1,hn,decide_true,decide_false,q1,q2,zB,zD,zC,reduceIte,reduceCtorEq,zA]
    refine qp n167 hrec (SubL.refl _) ?_
    simp only [go_sem,q1,q2,w1,w2,bstr,hs,Tryz.f167,zB,zD,zC,reduceIte,reduceCtorEq,zA]
  ·have g1:n > -10:=by omega
   by_cases g3:n<10
   ·obtain ⟨d,hd⟩:∃ d:Nat,n=(d:Int):=⟨n.toNat,by omega⟩
    have w1:IntKind.i64.wrap (48+n)=48+(d:Int):=by rw [wrap64 (by omega)];omega
    have w2:IntKind.u8.wrap (48+(d:Int))=48+(d:Int):=u8w (by omega)
    have hs:strOfNums [48+(d:Int)]=itoaB n:=by
     rw [itoaB_small (by omega) g3,itoa_dig (by omega),show n.toNat=d by omega]
    simp only [go_sem,g1,hn,g3,decide_true,decide_false,w1,w2,bstr,hs,Tryz.f167,zB,zD,zC,reduceIte,reduceCtorEq,zA]
   ·have hb:=itoaB_big (n:=n) (by omega)
    have e1:n.tdiv 10=n / 10:=yJ (by omega)
    have e2:n.tmod 10=n % 10:=yK (by omega)
    obtain ⟨d,hd⟩:∃ d:Nat,n.tmod 10=(d:Int):=⟨(n.tmod 10).toNat,by omega⟩
    have hd10:d<10:=by omega
    have q1:intOp .quo .i64 n 10=some (.int .i64 (n.tdiv 10)):=by
     show some (AV.int .i64 (IntKind.i64.wrap (n.tdiv 10)))=_
     rw [wrap64 (by omega)]
    have q2:intOp .rem .i64 n 10=some (.int .i64 (n.tmod 10)):=rfl
    have w1:IntKind.i64.wrap (48+n.tmod 10)=48+(d:Int):=by rw [wrap64 (by omega)];omega
    have w2:IntKind.u8.wrap (48+(d:Int))=48+(d:Int):=u8w (by omega)
    have hI:i64 (n.tdiv 10):=⟨by omega,by omega⟩
    have hsz:=zBa hI
    have hs:binA T .add 9 (.str (itoaB (n.tdiv 10))) (.str (strOfNums [48+(d:Int)]))=some (.str (itoaB n)):=by
     rw [hb,itoa_dig hd10,show (n.tmod 10).toNat=d by omega]
     exact addS (by show _+1≤_;omega)
    have hrec:=ih (n.tdiv 10) (by omega) hI
    simp only [go_sem,g1,hn,g3,decide_true,decide_false,q1,q2,zB,zD,zC,reduceIte,reduceCtorEq,zA]
    refine qp n167 hrec (SubL.refl _) ?_
    simp only [go_sem,q1,q2,w1,w2,bstr,hs,Tryz.f167,zB,zD,zC,reduceIte,reduceCtorEq,zA]
theorem rRow_pc (w:ByteArray) (hw:w.size≤1000) (ns:List Int) (hn:ns.length≤10) (h:∀ n∈ns,i64 n):PC Tryz.prog 125 [.str w,sl ns] (.pure (.str (rowN w ns))):=by
 refine PC.of_empty (AC.run (E_ok _) mix Tryz.func125 m125 rfl rfl rfl (zE rfl) ?_) (by simp [bndL,AV.bnd]) rfl
 simp only [go_sem,zB,zD,zC,reduceIte,reduceCtorEq,zA]
 refine zDy ns.length (fun k=>[(0,.str (rowN w (ns.take k))),(1,sl ns),(5,.int .i64 k)]) (fun _=>St.empty) rfl rfl ?_
 intro k hk I hI
 by_cases h':k<ns.length
 ·have h1:(k:Int)<ns.length:=by omega
  have h2:0≤(k:Int)∧(k:Int)<ns.length:=by omega
  have h3:ns[k]? = some ns[k]:=zF h'
  have h4:IntKind.i64.wrap ((k:Int)+1)=(k+1:Nat):=wrap64 (by omega)
  have hm:=h _ (qB h')
  have h5:=zBa hm
  have h6:=zEz (ns.take k) w fun m hm=>h m (List.mem_of_mem_take hm)
  have h8:(ns.take k).length≤10:=by simp;omega
  have a1:binA T .add 9 (.str (rowN w (ns.take k))) (.str ⟨#[32]⟩)=some (.str (rowN w (ns.take k) ++ sp)):=addS (by show _+1≤_;omega)
  have a2:binA T .add 9 (.str (rowN w (ns.take k) ++ sp)) (.str (itoaB ns[k]))=some (.str (rowN w (ns.take k) ++ sp ++ itoaB ns[k])):=addS (by rw [qI];show _+1+_≤_;omega)
  simp only [go_sem,l125_0,zAa,h1,decide_true,h2,ints_get,h3,a1,zB,zD,zC,reduceIte,reduceCtorEq,zA]
  refine cp n167 (zDv _ _ (zM _) hm) (SubL.refl _) ?_
  simp only [go_sem,a2,h4,zB,zD,zC,reduceIte,reduceCtorEq,zA]
  have:=hI h'
  rw [rowN_take _ _ _ h',← ByteArray.append_assoc] at this
  exact this
 ·have h1:¬ (k:Int)<ns.length:=by omega
  have e:k=ns.length:=by omega
  subst e
  simp only [go_sem,l125_0,zAa,h1,decide_false,yO,Tryz.f125,zB,zD,zC,reduceIte,reduceCtorEq,zA]
theorem catB_size {R:List ByteArray} (h:∀ r∈R,r.size≤100):∀ i,(catB R i).size≤101 * i
 | 0=>zM _
 | i+1=>by
  have ih:=catB_size h i
  have hs:(R.getD i ByteArray.empty).size≤100:=by
   rw [zG]
   cases e:R[i]? with
   | none=>exact qG _
   | some r=>exact h r (List.mem_of_getElem? e)
  show (catB R i ++ _ ++ lf).size≤_
  rw [qI,qI]
  show _+_+1≤_;omega
def sealB (R:List ByteArray) (m:Int):ByteArray:=catB R R.length ++ endB ((ck R R.length).tmod m) ++ lf
theorem rSealed_pc (R:List ByteArray) (m:Int) (hm:0<m∧m≤1000) (hR:∀ r∈R,r.size≤100) (hN:R.length≤2500) (t:Tail):PC Tryz.prog 126 [.slice (strs R) R.length t,.int .i64 m] (.pure (.str (sealB R m))):=by
 have key:PC Tryz.prog 126 [.slice (strs R) R.length .unk,.int .i64 m] (.pure (.str (sealB R m))):=by
  refine PC.of_empty (AC.run (E_ok _) mix Tryz.func126 m126 rfl rfl rfl (zE rfl) ?_) (by simp [bndL,AV.bnd]) rfl
  simp only [go_sem,zB,zD,zC,reduceIte,reduceCtorEq,zA]
  refine zDy R.length (fun i=>[(0,.slice (strs R) R.length .unk),(1,.int .i64 m),(5,.str (catB R i)),(6,.int .i64 (ck R i)),(7,.int .i64 i)]) (fun _=>St.empty) rfl rfl ?_
  intro i hi I hI
  by_cases h':i<R.length
  ·have h1:(i:Int)<R.length:=by omega
   have h2:0≤(i:Int)∧(i:Int)<R.length:=by omega
   have h3:R[i]? = some R[i]:=zF h'
   have h4:IntKind.i64.wrap ((i:Int)+1)=(i+1:Nat):=wrap64 (by omega)
   have hr:=hR _ (qB h')
   simp only [go_sem,l126_0,zAa,h1,decide_true,zB,zD,zC,reduceIte,reduceCtorEq,zA]
   have hck:ck R (i+1)=ck R i+rs R[i] R[i].size * (i+1:Nat):=by
    show ck R i+rs (R.getD i _) (R.getD i _).size * _=_
    rw [zG,h3];rfl
   have hcat:catB R (i+1)=catB R i ++ R[i] ++ lf:=by
    show catB R i ++ R.getD i _ ++ lf=_
    rw [zG,h3];rfl
   have hb:=ck_bd hR i (by omega)
   have hcs:=catB_size hR i
   have hI':=hI h'
   rw [hck,hcat] at hI'
   generalize R[i]=r at *
   refine zDy r.size (fun k=>[(0,.slice (strs R) R.length .unk),(1,.int .i64 m),(5,.str (catB R i)),(6,.int .i64 (ck R i+rs r k * (i+1:Nat))),(7,.int .i64 i),(8,.int .i64 k)]) (fun _=>St.empty) (by simp only [rs,Int.zero_mul,Int.add_zero];rfl) rfl ?_
   intro k hk I2 hI2
   by_cases h'':k<r.size
   ·have g1:(k:Int)<r.size:=by omega
    have g4:IntKind.i64.wrap ((k:Int)+1)=(k+1:Nat):=wrap64 (by omega)
    have hbt:r[k]? = some r[k]:=by simp [h'']
    have hB:r[k].toNat≤255:=Nat.le_of_lt_succ (UInt8.toNat_lt _)
    have hrs:rs r (k+1)=rs r k+(r[k].toNat:Int) * (k+1:Nat):=by
     show rs r k+(((r[k]?).getD 0).toNat:Int) * _=_
     rw [hbt];rfl
    have hb2:=rs_bd100 r (k:=k) (by omega)
    have p1:0≤(r[k].toNat:Int) * (k+1:Nat):=yI (by omega) (by omega)
    have p2:(r[k].toNat:Int) * (k+1:Nat)≤255 * (100:Int):=Int.mul_le_mul (by omega) (by omega) (by omega) (by omega)
    have p3:0≤(r[k].toNat:Int) * (k+1:Nat) * (i+1:Nat):=yI p1 (by omega)
    have p4:(r[k].toNat:Int) * (k+1:Nat) * (i+1:Nat)≤25500 * (3000:Int):=Int.mul_le_mul (by omega) (by omega) (by omega) (by omega)
    have p5:0≤rs r k * (i+1:Nat):=yI hb2.1 (by omega)
    have p6:rs r k * (i+1:Nat)≤2550000 * (3000:Int):=Int.mul_le_mul hb2.2 (by omega) (by omega) (by omega)
    have w1:IntKind.i64.wrap (r[k].toNat:Int)=r[k].toNat:=wrap64 (by omega)
    have w2:IntKind.i64.wrap ((r[k].toNat:Int) * (k+1:Nat))=(r[k].toNat:Int) * (k+1:Nat):=wrap64 (by omega)
    have w3:IntKind.i64.wrap ((r[k].toNat:Int) * (k+1:Nat) * (i+1:Nat))=(r[k].toNat:Int) * (k+1:Nat) * (i+1:Nat):=wrap64 (by omega)
    have w4:IntKind.i64.wrap (ck R i+rs r k * (i+1:Nat)+(r[k].toNat:Int) * (k+1:Nat) * (i+1:Nat))=ck R i+rs r k * (i+1:Nat)+(r[k].toNat:Int) * (k+1:Nat) * (i+1:Nat):=wrap64 (by omega)
    have hz:0≤(k:Int):=by omega
    simp only [go_sem,l126_1,zAa,h2,zCr,h3,zX,g1,decide_true,hz,hbt,convA,w1,w2,w3,w4,g4,h4,zB,zD,zC,reduceIte,reduceCtorEq,zA]
    have:=hI2 h''
    rw [hrs,Int.add_mul,← Int.add_assoc] at this
    exact this
   have g1:¬ (k:Int)<r.size:=by omega
   have e:k=r.size:=by omega
   subst e
   clear hI2 hk h''
   have a1:binA T .add 9 (.str (catB R i)) (.str r)=some (.str (catB R i ++ r)):=addS (by omega)
   have a2:binA T .add 9 (.str (catB R i ++ r)) (.str ⟨#[10]⟩)=some (.str (catB R i ++ r ++ lf)):=addS (by rw [qI];show _+_+1≤_;omega)
   simp only [go_sem,l126_1,zAa,h2,zCr,h3,zX,g1,decide_false,a1,a2,h4,zB,zD,zC,reduceIte,reduceCtorEq,zA]
   exact hI'
  have h1:¬ (i:Int)<R.length:=by omega
  have e:i=R.length:=by omega
  subst e
  clear hI hi h'
  have hb:=ck_bd hR R.length (by omega)
  have hcs:=catB_size hR R.length
  have hfin:sealB R m=catB R R.length ++ endB ((ck R R.length).tmod m) ++ lf:=rfl
  rw [hfin]
  generalize ck R R.length=C at *
  generalize catB R R.length=Z at *
  have e1:intOp .rem .i64 C m=some (.int .i64 (C.tmod m)):=by
   show (if m=0 then none else some (AV.int .i64 (C.tmod m)))=_
   rw [if_neg (by omega)]
  have hc0:0≤C.tmod m:=Int.tmod_nonneg _ hb.1
  have hc1:C.tmod m<m:=Int.tmod_lt_of_pos _ hm.1
  simp only [go_sem,l126_0,zAa,h1,decide_false,e1,zB,zD,zC,reduceIte,reduceCtorEq,zA]
  generalize C.tmod m=c at *
  have d1:c.tdiv 100=c / 100:=yJ hc0
  have d2:c.tdiv 10=c / 10:=yJ hc0
  have d3:(c.tdiv 10).tmod 10=c / 10 % 10:=by rw [d2];exact yK (by omega)
  have d4:c.tmod 10=c % 10:=yK hc0
  have e2:intOp .quo .i64 c 100=some (.int .i64 (c.tdiv 100)):=by
   show some (AV.int .i64 (IntKind.i64.wrap (c.tdiv 100)))=_
   rw [wrap64 (by omega)]
  have e3:intOp .quo .i64 c 10=some (.int .i64 (c.tdiv 10)):=by
   show some (AV.int .i64 (IntKind.i64.wrap (c.tdiv 10)))=_
   rw [wrap64 (by omega)]
  have e4:intOp .rem .i64 (c.tdiv 10) 10=some (.int .i64 ((c.tdiv 10).tmod 10)):=rfl
  have e5:intOp .rem .i64 c 10=some (.int .i64 (c.tmod 10)):=rfl
  have i1:i64 (c.tdiv 100):=⟨by omega,by omega⟩
  have i2:i64 ((c.tdiv 10).tmod 10):=⟨by omega,by omega⟩
  have i3:i64 (c.tmod 10):=⟨by omega,by omega⟩
  have z1:=zBa i1
  have z2:=zBa i2
  have z3:=zBa i3
  have a1:binA T .add 9 (.str Z) (.str ⟨#[101,110,100,32]⟩)=some (.str (Z ++ endW)):=addS (by show _+4≤_;omega)
  have s1:(Z ++ endW).size≤101 * R.length+4:=by rw [qI];show _+4≤_;omega
  have a2:binA T .add 9 (.str (Z ++ endW)) (.str (itoaB (c.tdiv 100)))=some (.str (Z ++ endW ++ itoaB (c.tdiv 100))):=addS (by omega)
  have s2:(Z ++ endW ++ itoaB (c.tdiv 100)).size≤101 * R.length+25:=by rw [qI];omega
  have a3:=addS (a:=Z ++ endW ++ itoaB (c.tdiv 100)) (b:=itoaB ((c.tdiv 10).tmod 10)) (by omega)
  have s3:(Z ++ endW ++ itoaB (c.tdiv 100) ++ itoaB ((c.tdiv 10).tmod 10)).size≤101 * R.length+46:=by rw [qI];omega
  have a4:=addS (a:=Z ++ endW ++ itoaB (c.tdiv 100) ++ itoaB ((c.tdiv 10).tmod 10)) (b:=itoaB (c.tmod 10)) (by omega)
  have s4:(Z ++ endW ++ itoaB (c.tdiv 100) ++ itoaB ((c.tdiv 10).tmod 10) ++ itoaB (c.tmod 10)).size≤101 * R.length+67:=by rw [qI];omega
  have a5:binA T .add 9 (.str (Z ++ endW ++ itoaB (c.tdiv 100) ++ itoaB ((c.tdiv 10).tmod 10) ++ itoaB (c.tmod 10))) (.str ⟨#[10]⟩)=some (.str (Z ++ endB c ++ lf)):=by
   have:Z ++ endB c ++ lf=Z ++ endW ++ itoaB (c.tdiv 100) ++ itoaB ((c.tdiv 10).tmod 10) ++ itoaB (c.tmod 10) ++ lf:=by
    unfold endB
    simp only [ByteArray.append_assoc]
   rw [this]
   exact addS (by show _+1≤_;omega)
  simp only [go_sem,a1,e2,zB,zD,zC,reduceIte,reduceCtorEq,zA]
  refine cp n167 (zDv _ _ (zM _) i1) (SubL.refl _) ?_
  simp only [go_sem,a2,e3,e4,zB,zD,zC,reduceIte,reduceCtorEq,zA]
  refine cp n167 (zDv _ _ (zM _) i2) (SubL.refl _) ?_
  simp only [go_sem,a3,e5,zB,zD,zC,reduceIte,reduceCtorEq,zA]
  refine cp n167 (zDv _ _ (zM _) i3) (SubL.refl _) ?_
  simp only [go_sem,a4,a5,Tryz.f126,zB,zD,zC,reduceIte,reduceCtorEq,zA]
 exact fun c S w vs h1 h2=>key c S w vs h1 (SubL.cons (Sub.unk _ _ _) (SubL.refl _) c vs h2)
set_option maxHeartbeats 4000000
theorem seal_text (s:Survey):sealB (rowsL s) 149=textB s:=by
 unfold sealB textB
 have:=join_cat (rowsL s) (endB ((ck (rowsL s) (rowsL s).length).tmod 149))
 exact this.symm
theorem rPrint_pc (s:Survey) (h:PlainS s):PC Tryz.prog 61 [surA s] (.pure (.str (textB s))):=by
 have hm:=h.many
 rw [← seal_text]
 refine PC.of_empty (AC.run (E_ok _) mix Tryz.func61 m61 rfl rfl rfl (zE rfl) ?_) (by simp [bndL,AV.bnd]) rfl
 simp only [go_sem,boxA,zB,zD,zC,reduceIte,reduceCtorEq,zA]
 refine cp n125 (rRow_pc (wordB 0) (by decide) [s.stations] (zE rfl) (fun m hm=>by rw [yP] at hm;subst hm;exact h.head)) (SubL.cons (Sub.refl _) (SubL.cons (Sub.unk _ _ _) (SubL.refl _))) ?_
 simp only [go_sem,zAa,zB,zD,zC,reduceIte,reduceCtorEq,zA]
 refine wc_forE s.sights.length (fun k=>[(1,.ref 0 0),(3,.slice (strs (headR s :: sgR s k)) (k+1) (tailN k)),(4,.int .i64 (k:Nat))]) (fun k S => ∃ X,S=⟨[some (.cells (surC s))] ++ X,k,toksN k⟩) rfl ⟨[],rfl⟩ ?_
 rintro k hk S ⟨X,rfl⟩ I hI
 have c1:=fun q=>zAf X q
 have c2:=fun x B=>zAs X x B
 by_cases hkl:k<s.sights.length
 ·have k1:(k:Int)<s.sights.length:=by omega
  have k2:0≤(k:Int)∧(k:Int)<s.sights.length:=by omega
  have k3:k * 4+4≤(sgts s.sights).length:=by rw [zBf];omega
  have k4:IntKind.i64.wrap ((k:Int)+1)=(k+1:Nat):=wrap64 (by omega)
  have k5:=zCj s.sights k hkl
  have hp:=rRow_pc (wordB 1) (by decide) (nsS s.sights[k]) (zE rfl) (h.each _ (qB hkl))
  have hI:=hI hkl
  rw [sgR_succ s k hkl] at hI
  have hl:=sgR_len s k hk
  generalize s.sights[k]=x at *
  simp only [go_sem,l61_0,zAa,k1,decide_true,k2,k3,k5,zAi,and_self,c1,c2,zAd,AV.cells,AV.one,zL,zO,zJ,splice,zI,zH,zB,zD,zC,reduceIte,reduceCtorEq,zA]
  refine cp n125 hp (SubL.cons (Sub.refl _) (SubL.cons (Sub.unk _ _ _) (SubL.refl _))) ?_
  simp only [go_sem,zAa,zB,zD,zC,reduceIte,reduceCtorEq,zA]
  refine sr_str (l:=headR s :: sgR s k) _ (by simp [hl]) (by omega) ?_
  simp only [go_sem,k4,zB,zD,zC,reduceIte,reduceCtorEq,zA]
  exact hI _ ⟨X ++ [some (.cells (sgtC x))],rfl⟩
 have k1:¬ (k:Int)<s.sights.length:=by omega
 have ek:k=s.sights.length:=by omega
 subst ek
 have hRl:(rowsL s).length=s.sights.length+1:=by simp [rowsL]
 rw [← rowsL_eq,← hRl]
 simp only [go_sem,l61_0,zAa,k1,decide_false,zB,zD,zC,reduceIte,reduceCtorEq,zA]
 refine cp n126 (rSealed_pc (rowsL s) 149 (by decide) h.rows (by omega) _) (SubL.refl _) ?_
 simp only [go_sem,Tryz.f61,zB,zD,zC,reduceIte,reduceCtorEq,zA]
set_option maxHeartbeats 4000000
theorem ba_eq (a b:ByteArray):(a.toList == b.toList)=decide (a=b):=by
 rw [Lib.toList_data,Lib.toList_data]
 by_cases h:a=b
 ·subst h;simp
 ·rw [decide_eq_false h]
  apply beq_eq_false_iff_ne.2
  intro e
  apply h
  cases a;cases b
  simp only [ByteArray.mk.injEq]
  exact Array.toList_inj.1 e
theorem eqS (a b:ByteArray):binA T .eql 9 (.str a) (.str b)=some (.bool (decide (a=b))):=by
 show some (AV.bool (a.toList == b.toList))=_
 rw [ba_eq]
theorem neS (a b:ByteArray):binA T .neq 9 (.str a) (.str b)=some (.bool (decide (a≠b))):=by
 show some (AV.bool !(a.toList == b.toList))=_
 rw [ba_eq,decide_not]
def dash:ByteArray:=⟨#[45]⟩
theorem neg_iff (w:ByteArray):negW w=(decide (1≤w.size) && decide (w.extract 0 1=dash)):=by
 unfold negW
 by_cases h:0<w.size
 ·rw [decide_eq_true h,decide_eq_true (show 1≤w.size from h),qY,qY]
  have e:w.extract 0 1=⟨#[w.get! 0]⟩:=by
   obtain ⟨a⟩:=w
   have h':0<a.size:=h
   apply ByteArray.ext
   apply Array.ext
   ·simp [ByteArray.size] at *;omega
   ·intro i h1 h2
    simp at h2
    subst h2
    simp [ByteArray.get!,Array.getElem!_eq_getD,h']
  rw [e]
  refine decide_eq_decide.2 ⟨fun hh => ?_,fun hh => ?_⟩
  ·have:w.get! 0=45:=UInt8.toNat_inj.1 hh
   rw [this];rfl
  ·have:(⟨#[w.get! 0]⟩:ByteArray).data=dash.data:=by rw [hh]
   have:w.get! 0=45:=by simpa [dash] using this
   rw [this];rfl
 ·rw [decide_eq_false h,decide_eq_false (show ¬ 1≤w.size from h),qH,qH]
theorem slHasPrefix_pc (w:ByteArray) (hw:w.size≤1000000):PC Tryz.prog 218 [.str w,.str dash] (.pure (.bool (negW w))):=by
 refine PC.of_empty (AC.run (E_ok _) mix Tryz.func218 m218 rfl rfl rfl (zE rfl) ?_) rfl rfl
 rw [neg_iff]
 have hs:dash.size=1:=rfl
 by_cases h:1≤w.size
 ·have h1:(w.size:Int) ≥ (1:Nat):=by omega
  have hsl:sliceA T 9 (.str w) none (some (.int .i64 ((1:Nat):Int))) none=some (.str (w.extract 0 1)):=by
   show (bnd (some (.int .i64 ((1:Nat):Int))) w.size w.size).bind _=_
   unfold bnd
   simp
   rw [if_pos (by omega)];rfl
  rw [decide_eq_true h,qY]
  simp only [go_sem,zAa,hs,h1,decide_true,hsl,eqS,Tryz.f218,zB,zD,zC,reduceIte,reduceCtorEq,zA]
 ·have h1:¬ (w.size:Int) ≥ (1:Nat):=by omega
  rw [decide_eq_false h,qH]
  simp only [go_sem,zAa,hs,h1,decide_false,Tryz.f218,zB,zD,zC,reduceIte,reduceCtorEq,zA]
theorem slTrim_pc (w:ByteArray) (hw:w.size≤1000000):PC Tryz.prog 207 [.str w,.str dash] (.pure (.str (bodyW w))):=by
 refine PC.of_empty (AC.run (E_ok _) mix Tryz.func207 m207 rfl rfl rfl (zE rfl) ?_) rfl rfl
 have hs:dash.size=1:=rfl
 simp only [go_sem,zB,zD,zC,reduceIte,reduceCtorEq,zA]
 refine cp n218 (slHasPrefix_pc w hw) (SubL.refl _) ?_
 unfold bodyW
 cases h:negW w
 ·simp only [go_sem,Tryz.f207,zB,zD,zC,reduceIte,reduceCtorEq,zA]
  all_goals rfl
 ·have h0:0<w.size:=by
   unfold negW at h
   rw [zT,decide_eq_true_iff] at h
   exact h.1
  have hsl:sliceA T 9 (.str w) (some (.int .i64 ((1:Nat):Int))) none none=some (.str (w.extract 1 w.size)):=by
   have hd:descOf T 9=some .string:=rfl
   have hb:bnd (some (.int .i64 ((1:Nat):Int))) 0 w.size=some 1:=by simp [bnd];omega
   have hb2:bnd none w.size w.size=some w.size:=by simp [bnd]
   simp only [sliceA,hd,hb,hb2,qT,zX]
  rw [if_pos rfl]
  simp only [go_sem,zAa,hs,hsl,Tryz.f207,zB,zD,zC,reduceIte,reduceCtorEq,zA]
  all_goals rfl
theorem Trim_pc (w:ByteArray) (hw:w.size≤1000000):PC Tryz.prog 196 [.str w,.str dash] (.pure (.str (bodyW w))):=by
 refine PC.of_empty (AC.run (E_ok _) mix Tryz.func196 m196 rfl rfl rfl (zE rfl) ?_) rfl rfl
 simp only [go_sem,zB,zD,zC,reduceIte,reduceCtorEq,zA]
 refine cp n207 (slTrim_pc w hw) (SubL.refl _) ?_
 simp only [go_sem,Tryz.f196,zB,zD,zC,reduceIte,reduceCtorEq,zA]
set_option maxHeartbeats 4000000
theorem dec_lt {s:ByteArray} {i:Nat} (h:(s.get! i).toNat<128):Utf8.decode s i=((s.get! i).toNat,1):=by
 unfold Utf8.decode
 simp only [Nat.add_zero,if_pos h]
theorem dec_ge {s:ByteArray} {i:Nat} (h:¬ (s.get! i).toNat<128):128≤(Utf8.decode s i).1:=by
 unfold Utf8.decode
 simp only [Nat.add_zero,if_neg h]
 repeat' split
 all_goals first | (show 128≤65533;decide) | (rename_i hh;simp only [zT,decide_eq_true_eq,ge_iff_le] at hh;show 128≤_;omega)
def giveUp (why:ByteArray):AV:=.iface 193 (.agg [.str why])
def Gives (v:AV):Prop:=∃ why,v=giveUp why
theorem Gives.bnd {v:AV} (h:Gives v):v.bnd 0 0=true:=by obtain ⟨why,rfl⟩:=h;rfl
@[go_sem] theorem d_none:descOf T 193=some ti193.desc:=rfl
@[go_sem] theorem i_none:isIface ti193.desc=false:=rfl
@[go_sem] theorem bd_none (a:ByteArray):buildA T 193 [(0,.str a)]=some (.agg [.str a]):=rfl
theorem sure_ok (why:ByteArray):PC Tryz.prog 165 [.bool true,.str why] (.pure (.tuple [])):=by
 refine PC.of_empty (AC.run (E_ok _) mix Tryz.func165 m165 rfl rfl rfl (zE rfl) ?_) rfl rfl
 simp only [go_sem,zAg,zV,Tryz.f165,zB,zD,zC,reduceIte,reduceCtorEq,zA]
 all_goals rfl
theorem sure_no (why:ByteArray) (S:St):AC Tryz.prog 165 [.bool false,.str why] S fun e S'=>((∃ v,e=.ret v∧False)∨(∃ v,e=.panic v∧Gives v))∧S'=S:=by
 refine AC.of_iso (AC.run (E_ok _) mix Tryz.func165 m165 rfl rfl rfl (zE rfl) ?_) rfl (fun _ h=>h.elim) (fun _ h=>h.bnd) S
 simp only [go_sem,zAg,qF,Tryz.f165,zB,zD,zC,reduceIte,reduceCtorEq,zA]
 exact .inr ⟨_,rfl,why,rfl⟩
theorem sn {n:Nat} {S:St} {K Kp:AV→St→Prop} {h1:Hold K} {h2:Hold Kp} (why:ByteArray) (kp:∀ v,Gives v→Kp v S):sc (E n) K Kp h1 h2 (some (165,[.bool false,.str why])) S:=by
 refine cac n165 (sure_no why _) (fun v S' h => ?_) (fun v S' h => ?_)
 ·obtain ⟨⟨v',_,h⟩ | ⟨v',e,_⟩,_⟩:=h
  ·exact h.elim
  ·cases e
 ·obtain ⟨⟨v',e,_⟩ | ⟨v',e,hg⟩,rfl⟩:=h
  ·cases e
  ·cases e;exact kp _ hg
theorem n_gs:Callable Tryz.prog 184:=⟨⟨_,Tryz.func184,by kernel_rfl,rfl⟩⟩
theorem if_congr2 {α:Type} {p q:Prop} [Decidable p] [Decidable q] {a b:α} (h:p↔q):(if p then a else b)=if q then a else b:=by
 by_cases hp:p
 ·rw [if_pos hp,if_pos (h.1 hp)]
 ·rw [if_neg hp,if_neg (fun hq=>hp (h.2 hq))]
theorem Split_pc (s:ByteArray) (b:UInt8) (hs:s.size<4294967281):PC Tryz.prog 164 [.str s,.str ⟨#[b]⟩] (.pure (.slice (strs (splitL s b)) (splitL s b).length .exact)):=by
 refine PC.of_empty (AC.run (E_ok _) mix Tryz.func164 m164 rfl rfl rfl (zE rfl) ?_) rfl (by simp [AV.bnd])
 simp only [go_sem,zB,zD,zC,reduceIte,reduceCtorEq,zA]
 refine cp n_gs (genSplit_pc s b hs) (SubL.refl _) ?_
 simp only [go_sem,Tryz.f164,zB,zD,zC,reduceIte,reduceCtorEq,zA]
 all_goals rfl
set_option maxHeartbeats 4000000
theorem short_pc (s:Survey):PC Tryz.prog 23 [surA s] (.pure (.bool (decide (s.sights.length≤17)))):=by
 refine PC.of_empty (AC.run (E_ok _) mix Tryz.func23 m23 rfl rfl rfl (zE rfl) ?_) (by simp [bndL,AV.bnd]) rfl
 have hd:decide ((s.sights.length:Int)≤17)=decide (s.sights.length≤17):=decide_eq_decide.2 (by omega)
 simp only [go_sem,boxA,zAa,hd,Tryz.f23,zB,zD,zC,reduceIte,reduceCtorEq,zA]
def surS:Survey:=⟨4,[⟨0,1,10,1⟩,⟨1,2,-4,2⟩,⟨2,3,7,1⟩,⟨0,3,15,2⟩]⟩
theorem S_pc:PC Tryz.prog 81 [] (.pure (surA surS)):=by
 refine PC.of_frz (AC.run (E_ok _) mix Tryz.func81 m81 rfl rfl rfl (zE rfl) ?_) rfl (by simp [bndL,AV.bnd])
 have e1:zAe T 22 4 [(0,.agg [.int .i64 0,.int .i64 1,.int .i64 10,.int .i64 1]),(1,.agg [.int .i64 1,.int .i64 2,.int .i64 (-4),.int .i64 2]),(2,.agg [.int .i64 2,.int .i64 3,.int .i64 7,.int .i64 1]),(3,.agg [.int .i64 0,.int .i64 3,.int .i64 15,.int .i64 2])]=some (.slice (sgts surS.sights) 4 .exact):=rfl
 have e3:buildA T 24 [(0,.int .i64 4),(1,.slice (sgts surS.sights) 4 .exact)]=some (.agg [.int .i64 4,.slice (sgts surS.sights) 4 .exact]):=rfl
 simp only [go_sem,e1,e3,zAd,AV.cells,AV.one,zL,zO,zJ,splice,zI,zH,and_self,Tryz.f81,zB,zD,zC,reduceIte,reduceCtorEq,zA]
 exact ⟨_,rfl,zEy (.same _) (.unk _ _ _)⟩
end Go.Av.Lx
end
section
set_option maxHeartbeats 4000000
namespace Go.Av.Lx
open Go Go.Av Go.Av.Tb Go.Av.Fx Go.Proofs
open Go.Lv (Sight Survey Sw Sv SightOk lexI lexI_drop)

end Go.Av.Lx
end
section
set_option maxHeartbeats 4000000
namespace Go.Av.Lx
open Go Go.Av Go.Av.Tb Go.Av.Fx Go.Proofs
open Go.Lv (Sight Survey Sw Sv SightOk Stp befS befS_drop stpLt)

end Go.Av.Lx
end
section
set_option maxHeartbeats 4000000
namespace Go.Av.Lx
open Go Go.Av Go.Av.Tb Go.Av.Fx Go.Proofs
open Go.Lv (Sight Survey Sw Sv SightOk risB risAt)

end Go.Av.Lx
end
section
namespace Go.Av.Lx
open Go Go.Av Go.Av.Tb Go.Av.Fx Go.Proofs
open Go.Lv (Survey)

end Go.Av.Lx
end
section
set_option maxHeartbeats 4000000
namespace Go.Av.Lx
open Go Go.Av Go.Av.Tb Go.Av.Fx Go.Proofs

end Go.Av.Lx
end
section
set_option maxHeartbeats 8000000
namespace Go.Av.Lx
open Go Go.Av Go.Av.Tb Go.Av.Fx Go.Proofs
open Go.Lv (Sight Survey Sw Sv SightOk)
theorem next_in {x:ByteArray} {j k:Nat} {tk:List Nat} (h:j<x.size):Go.Av.nextA ⟨[some (.siter x j)],k,tk⟩ (.ref 0 0)=some (.write 0 (.siter x (j+(Utf8.decode x j).2)) (.tuple [.bool true,.int .i64 j,.int .i32 (Utf8.decode x j).1])):=by
 show (if j<x.size then _ else _)=_
 rw [if_pos h]
theorem next_out {x:ByteArray} {j k:Nat} {tk:List Nat} (h:¬ j<x.size):Go.Av.nextA ⟨[some (.siter x j)],k,tk⟩ (.ref 0 0)=some (.pure (.tuple [.bool false])):=by
 show (if j<x.size then _ else _)=_
 rw [if_neg h]
theorem wrap32 {x:Int} (h:-2147483648≤x∧x≤2147483647):IntKind.i32.wrap x=x:=by
 rw [IntKind.wrap_i32];omega
theorem body_lt (w:ByteArray):decide (((bodyW w).size:Int)<w.size)=negW w:=by
 cases h:negW w
 ·have e:bodyW w=w:=by unfold bodyW;rw [if_neg (by rw [h];decide)]
  rw [e,decide_eq_false (by omega)]
 ·have h0:0<w.size:=by
   unfold negW at h
   rw [zT,decide_eq_true_iff] at h
   exact h.1
  have e:bodyW w=w.extract 1 w.size:=by unfold bodyW;rw [if_pos h]
  rw [e,ByteArray.size_extract,decide_eq_true (by omega)]
theorem bodyW_size (w:ByteArray):(bodyW w).size≤w.size:=by
 unfold bodyW
 split
 ·rw [ByteArray.size_extract];omega
 ·exact zM _
theorem number_ac (w:ByteArray) (hw:w.size≤1000000) (S:St):AC Tryz.prog 185 [.str w] S fun e S'=>((∃ v,e=.ret v∧okW w=true∧v=.int .i64 (valW w))∨(∃ v,e=.panic v∧okW w=false∧Gives v))∧S'=S:=by
 refine AC.of_iso (AC.run (E_ok 51) mix Tryz.func185 m185 rfl rfl rfl (zE rfl) ?_) rfl (fun v ⟨_,h⟩=>by subst h;rfl) (fun v h=>h.2.bnd) S
 simp only [go_sem,zB,zD,zC,reduceIte,reduceCtorEq,zA]
 refine cp n196 (Trim_pc w hw) (SubL.refl _) ?_
 have hlt:=body_lt w
 have hxw:=bodyW_size w
 obtain ⟨x,hx⟩:∃ x,bodyW w=x:=⟨_,rfl⟩
 rw [hx] at hlt hxw ⊢
 have hV:valW w=if negW w=true then -decP x x.size else decP x x.size:=by unfold valW;rw [hx]
 simp only [go_sem,rangeA,zB,zD,zC,reduceIte,reduceCtorEq,zA]
 refine zBi x.size (fun j=>digs x j=true∧(j≠0→x.size≤4)) (fun j=>[(0,.str w),(3,.str x),(4,.int .i64 (decP x j)),(10,.ref 0 0)]) (fun j=>⟨[some (.siter x j)],0,[]⟩) ⟨rfl,fun h=>absurd rfl h⟩ rfl rfl ?_
 rintro j hj ⟨hD,hS⟩ I2 hI2
 by_cases h'':j<x.size
 ·by_cases hd:isD (x.get! j)=true
  ·have hd2:48≤(x.get! j).toNat∧(x.get! j).toNat≤57:=by simpa [isD] using hd
   have g1:=dec_lt (s:=x) (i:=j) (by omega)
   have g2:((x.get! j).toNat:Int) ≥ 48:=by omega
   have g3:((x.get! j).toNat:Int)≤57:=by omega
   have hn:=next_in (k:=0) (tk:=[]) h''
   rw [g1] at hn
   by_cases hs4:x.size≤4
   ·have g4:(x.size:Int)≤4:=by omega
    have hdb:=decP_bd hD (by omega)
    have hnext:digs x (j+1)=true:=by unfold digs at hD ⊢;rw [yN,List.all_append,hD];simp [hd]
    have w5:IntKind.i64.wrap (10 * decP x j)=10 * decP x j:=wrap64 (by omega)
    have w6:IntKind.i32.wrap (((x.get! j).toNat:Int) - 48)=((x.get! j).toNat:Int) - 48:=wrap32 (by omega)
    have w7:IntKind.i64.wrap (((x.get! j).toNat:Int) - 48)=((x.get! j).toNat:Int) - 48:=wrap64 (by omega)
    have w8:IntKind.i64.wrap (10 * decP x j+(((x.get! j).toNat:Int) - 48))=10 * decP x j+(((x.get! j).toNat:Int) - 48):=wrap64 (by omega)
    simp only [go_sem,l185_0,hn,zAc,zAd,zAa,g2,g3,g4,decide_true,zB,zD,zC,reduceIte,reduceCtorEq,zA]
    refine cp n165 (sure_ok w) (SubL.refl _) ?_
    simp only [go_sem,convA,w5,w6,w7,w8,zB,zD,zC,reduceIte,reduceCtorEq,zA]
    exact hI2 h'' ⟨hnext,fun _=>hs4⟩
   ·have g4:¬ (x.size:Int)≤4:=by omega
    have hf:okW w=false:=by unfold okW;rw [hx,decide_eq_false hs4];simp
    simp only [go_sem,l185_0,hn,zAc,zAd,zAa,g2,g3,g4,decide_true,decide_false,zB,zD,zC,reduceIte,reduceCtorEq,zA]
    exact sn w fun v h=>.inr ⟨v,rfl,hf,h⟩
  ·have hd2:¬ (48≤(x.get! j).toNat∧(x.get! j).toNat≤57):=by simpa [isD] using hd
   have hf:okW w=false:=by
    have:digs x x.size=false:=by
     unfold digs
     rw [List.all_eq_false]
     exact ⟨j,List.mem_range.2 h'',hd⟩
    unfold okW;rw [hx,this];simp
   have hr:¬ (48≤(Utf8.decode x j).1∧(Utf8.decode x j).1≤57):=by
    by_cases hb:(x.get! j).toNat<128
    ·rw [dec_lt hb];exact hd2
    ·have:=dec_ge hb;omega
   have hn:=next_in (k:=0) (tk:=[]) h''
   generalize Utf8.decode x j=D at *
   by_cases c1:(D.1:Int) ≥ 48
   ·have c2:¬ (D.1:Int)≤57:=by omega
    simp only [go_sem,l185_0,hn,zAc,zAd,zAa,c1,c2,decide_true,decide_false,zB,zD,zC,reduceIte,reduceCtorEq,zA]
    exact sn w fun v h=>.inr ⟨v,rfl,hf,h⟩
   ·simp only [go_sem,l185_0,hn,zAc,zAd,zAa,c1,decide_true,decide_false,zB,zD,zC,reduceIte,reduceCtorEq,zA]
    exact sn w fun v h=>.inr ⟨v,rfl,hf,h⟩
 have e:j=x.size:=by omega
 subst e
 clear hI2 hj
 have hn:=next_out (k:=0) (tk:=[]) h''
 have hne:=neS x ⟨#[]⟩
 by_cases h0:x.size=0
 ·have hx0:¬ x≠⟨#[]⟩:=fun hn=>hn (by
   cases x with
   | mk d=>simp only [ByteArray.mk.injEq];exact Array.eq_empty_of_size_eq_zero h0)
  have hf:okW w=false:=by unfold okW;rw [hx,decide_eq_false (p:=x.size≠0) (fun hn=>hn h0)];simp
  rw [decide_eq_false hx0] at hne
  cases hneg:negW w
  ·rw [hneg] at hlt
   simp only [go_sem,l185_0,hn,zAc,zAd,zAa,hlt,zB,zD,zC,reduceIte,reduceCtorEq,zA]
   simp only [go_sem,hne,zB,zD,zC,reduceIte,reduceCtorEq,zA]
   exact sn w fun v h=>.inr ⟨v,rfl,hf,h⟩
  ·rw [hneg] at hlt
   simp only [go_sem,l185_0,hn,zAc,zAd,zAa,hlt,un_neg,zB,zD,zC,reduceIte,reduceCtorEq,zA]
   simp only [go_sem,hne,zB,zD,zC,reduceIte,reduceCtorEq,zA]
   exact sn w fun v h=>.inr ⟨v,rfl,hf,h⟩
 have hx1:x≠⟨#[]⟩:=fun hn=>h0 (by rw [hn];rfl)
 rw [decide_eq_true hx1] at hne
 have hs4:=hS h0
 have hdb:=decP_bd hD hs4
 cases hneg:negW w
 ·rw [hneg] at hlt hV
  rw [if_neg (by decide)] at hV
  simp only [go_sem,l185_0,hn,zAc,zAd,zAa,hlt,zB,zD,zC,reduceIte,reduceCtorEq,zA]
  rw [← hV]
  rw [← hV] at hdb
  simp only [go_sem,hne,zB,zD,zC,reduceIte,reduceCtorEq,zA]
  refine cp n162 (Itoa_pc _ (by omega) (by omega)) (SubL.refl _) ?_
  simp only [go_sem,eqS,zB,zD,zC,reduceIte,reduceCtorEq,zA]
  by_cases hi:itoaB (valW w)=w
  ·have hok:okW w=true:=by unfold okW;rw [hx,decide_eq_true hs4,hD,decide_eq_true h0,decide_eq_true hi];rfl
   rw [decide_eq_true hi]
   refine cp n165 (sure_ok w) (SubL.refl _) ?_
   simp only [go_sem,Tryz.f185,zB,zD,zC,reduceIte,reduceCtorEq,zA]
   exact .inl ⟨_,rfl,hok,rfl⟩
  ·have hf:okW w=false:=by unfold okW;rw [decide_eq_false hi];simp
   rw [decide_eq_false hi]
   exact sn w fun v h=>.inr ⟨v,rfl,hf,h⟩
 ·rw [hneg] at hlt hV
  rw [if_pos rfl] at hV
  have wn:IntKind.i64.wrap (0 - decP x x.size)=valW w:=by rw [hV,Int.zero_sub];exact wrap64 (by omega)
  have hdb2:-9999≤valW w∧valW w≤0:=by omega
  simp only [go_sem,l185_0,hn,zAc,zAd,zAa,hlt,un_neg,wn,zB,zD,zC,reduceIte,reduceCtorEq,zA]
  simp only [go_sem,hne,zB,zD,zC,reduceIte,reduceCtorEq,zA]
  refine cp n162 (Itoa_pc _ (by omega) (by omega)) (SubL.refl _) ?_
  simp only [go_sem,eqS,zB,zD,zC,reduceIte,reduceCtorEq,zA]
  by_cases hi:itoaB (valW w)=w
  ·have hok:okW w=true:=by unfold okW;rw [hx,decide_eq_true hs4,hD,decide_eq_true h0,decide_eq_true hi];rfl
   rw [decide_eq_true hi]
   refine cp n165 (sure_ok w) (SubL.refl _) ?_
   simp only [go_sem,Tryz.f185,zB,zD,zC,reduceIte,reduceCtorEq,zA]
   exact .inl ⟨_,rfl,hok,rfl⟩
  ·have hf:okW w=false:=by unfold okW;rw [decide_eq_false hi];simp
   rw [decide_eq_false hi]
   exact sn w fun v h=>.inr ⟨v,rfl,hf,h⟩
set_option maxHeartbeats 8000000
theorem splitB_size (sep:ByteArray):∀ (k:Nat) (s r:ByteArray),r∈Lib.splitB sep 0 k s→r.size≤s.size
 | 0,s,r,h=>by simp [Lib.splitB] at h;subst h;exact zM _
 | k+1,s,r,h=>by
  unfold Lib.splitB at h
  split at h
  ·simp at h;subst h;exact zM _
  ·rcases List.mem_cons.1 h with h | h
   ·subst h;rw [ByteArray.size_extract];omega
   ·have:=splitB_size sep k _ r h
    rw [ByteArray.size_extract] at this;omega
theorem splitL_size {s r:ByteArray} {b:UInt8} (h:r∈splitL s b):r.size≤s.size:=splitB_size _ _ _ _ h
theorem splitL_len (s:ByteArray) (b:UInt8):(splitL s b).length≤s.size+2:=by
 have hlen:=Lib.splitB_all ⟨#[b]⟩ (zM 1) 0 _ s rfl
 have hle:=Lib.countB_le ⟨#[b]⟩ (zM 1) s.size s (zM _)
 show (Lib.splitB ⟨#[b]⟩ 0 (Lib.countB s ⟨#[b]⟩) s).length≤_
 omega
theorem slS1 (a:ByteArray) (W:List ByteArray) (t:Tail):sliceA T 171 (.slice (strs (a :: W)) (W.length+1) t) (some (.int .i64 1)) none none=some (.slice (strs W) W.length .unk):=by
 have hd:descOf T 171=some (.slice 9):=rfl
 have hb:bnd (some (.int .i64 1)) 0 (W.length+1)=some 1:=by simp [bnd];omega
 have h9:T 9=some ti9:=rfl
 simp only [sliceA,hd,h9]
 rw [if_pos (by simp [ti9]),hb]
 rfl
theorem gro_subL (ns:List Int):Sub (gro (ints ns)) (sl ns):=by
 cases ns with
 | nil=>exact Sub.nil
 | cons a l =>
  show Sub (.slice (ints (a :: l)) ((ints l).length+1) (.tok (ints l).length)) (.slice (ints (a :: l)) (l.length+1) .unk)
  rw [zCm];exact Sub.unk _ _ _
theorem told_sub {P:Program} {f:FuncId} {args:List AV} {S:St} {R R':AEnd→St→Prop} (h:AC P f args S R) (hr:∀ v S',R (.ret v) S' → ∃ v',Sub v v'∧R' (.ret v') S') (hp:∀ v S',R (.panic v) S'→R' (.panic v) S'):AC P f args S R':=by
 intro c w vs hs hl
 refine (h c w vs hs hl).mono fun e w' ⟨ae,S',c',h1,h2,h3,h4⟩ => ?_
 cases ae with
 | ret v =>
  obtain ⟨v',s1,s2⟩:=hr v S' h2
  cases e with
  | returned x=>exact ⟨.ret v',S',c',h1,s2,s1 c' x h3,h4⟩
  | panicked ch=>exact h3.elim
  | outgrown=>exact h3.elim
 | panic v=>exact ⟨.panic v,S',c',h1,hp v S' h2,h3,h4⟩
theorem told_ac (row:ByteArray) (kind many:Nat) (hk:kind<2) (hm:many≤4) (hs:row.size≤1000000) (S:St):AC Tryz.prog 166 [.str row,.int .i64 kind,.int .i64 many] S fun e S' =>
  ((∃ v,e=.ret v ∧ ∃ ns,toldB row kind many=some ns∧v=sl ns)∨(∃ v,e=.panic v∧toldB row kind many=none∧Gives v))∧S'=S:=by
 refine AC.of_iso ?_ rfl (fun v ⟨ns,_,h⟩=>by subst h;simp [AV.bnd]) (fun v h=>h.2.bnd) S
 refine told_sub (R:=fun e _=>(∃ v,e=.ret v ∧ ∃ ns,toldB row kind many=some ns∧v=gro (ints ns))∨(∃ v,e=.panic v∧toldB row kind many=none∧Gives v)) ?_ ?_ ?_
 ·refine AC.run (E_ok 45) mix Tryz.func166 m166 rfl rfl rfl (zE rfl) ?_
  simp only [go_sem,zB,zD,zC,reduceIte,reduceCtorEq,zA]
  refine cp n164 (Split_pc row 32 (by omega)) (SubL.refl _) ?_
  have w1:IntKind.i64.wrap ((many:Int)+1)=(many+1:Nat):=wrap64 (by omega)
  have hW:toldB row kind many=if (splitL row 32).length=many+1∧(splitL row 32).head? = some (wordB kind)∧(splitL row 32).tail.all okW=true then some ((splitL row 32).tail.map valW) else none:=rfl
  have hsz:∀ r∈splitL row 32,r.size≤1000000:=fun r hr=>Nat.le_trans (splitL_size hr) hs
  rw [hW]
  clear hW
  generalize splitL row 32=W at *
  by_cases hl:¬ W.length=many+1
  ·have hd:¬ ((W.length:Int)=(many+1:Nat)):=by omega
   simp only [go_sem,zAa,w1,hd,decide_false,zB,zD,zC,reduceIte,reduceCtorEq,zA]
   rw [if_neg (fun h=>hl h.1)]
   exact sn row fun v h=>.inr ⟨v,rfl,rfl,h⟩
  have hl:W.length=many+1:=Decidable.not_not.1 hl
  have hd:((W.length:Int)=(many+1:Nat)):=by omega
  cases W with
  | nil=>simp at hl
  | cons a W =>
   have hl':W.length=many:=by simpa using hl
   have hW2:(if (a :: W).length=many+1∧(a :: W).head? = some (wordB kind)∧(a :: W).tail.all okW=true then some ((a :: W).tail.map valW) else none)=if a=wordB kind∧W.all okW=true then some (W.map valW) else none:=by
    simp [hl']
   rw [hW2]
   clear hW2
   have hd:decide (((W.length+1:Nat):Int)=(many+1:Nat))=true:=decide_eq_true (by omega)
   have z:(0:Int)<((W.length+1:Nat):Int):=by omega
   have hk3:indexA T 228 (.agg [.str (wordB 0),.str (wordB 1)]) (.int .i64 kind)=some (.str (wordB kind)):=by
    match kind,hk with
    | 0,_=>rfl
    | 1,_=>rfl
   simp only [go_sem,zAa,w1,hd,decide_true,z,qZ,and_true,Int.toNat_zero,zCr,zX,zB,zD,zC,reduceIte,reduceCtorEq,zA]
   refine qp n179 words_pc (SubL.refl _) ?_
   simp only [go_sem,zAa,hk3,eqS,zCr,zX,zB,zD,zC,reduceIte,reduceCtorEq,zA]
   by_cases ha:¬ a=wordB kind
   ·rw [decide_eq_false ha,if_neg (fun h=>ha h.1)]
    exact sn row fun v h=>.inr ⟨v,rfl,rfl,h⟩
   have ha:a=wordB kind:=Decidable.not_not.1 ha
   rw [decide_eq_true ha,if_congr2 (by simp [ha]:(a=wordB kind∧W.all okW=true)↔W.all okW=true)]
   refine cp n165 (sure_ok row) (SubL.refl _) ?_
   simp only [go_sem,zAa,slS1,zB,zD,zC,reduceIte,reduceCtorEq,zA]
   have hszW:∀ r∈W,r.size≤1000000:=fun r hr=>hsz r (zR _ hr)
   clear hk3 ha hd z hl hsz
   refine zBi W.length (fun k=>(W.take k).all okW=true) (fun k=>[(8,gro (ints ((W.take k).map valW))),(31,.slice (strs W) W.length .unk),(32,.int .i64 W.length),(33,.int .i64 k)]) (fun k=>⟨[],k,toksN k⟩) rfl rfl rfl ?_
   intro k hkk hP I hI
   have elen:(ints ((W.take k).map valW)).length=k:=by simp;omega
   by_cases h':k<W.length
   ·have h1:(k:Int)<W.length:=by omega
    have h2:0≤(k:Int)∧(k:Int)<W.length:=by omega
    have h3:W[k]? = some W[k]:=zF h'
    have h4:IntKind.i64.wrap ((k:Int)+1)=(k+1:Nat):=wrap64 (by omega)
    have hz:=hszW _ (qB h')
    have hall:okW W[k]=false→(if W.all okW=true then some (W.map valW) else none)=none:=fun h=>by
     rw [if_neg]
     intro ha
     rw [yG] at ha
     have:=ha _ (qB h')
     rw [h] at this;cases this
    have hstep:okW W[k]=true→(W.take (k+1)).all okW=true:=fun h=>by
     rw [qM h',List.all_append,hP];simp [h]
    have hmap:(W.take (k+1)).map valW=(W.take k).map valW ++ [valW W[k]]:=by
     rw [qM h',qS];rfl
    rw [hmap] at hI
    simp only [go_sem,l166_0,h1,decide_true,h2,zCr,h3,zAi,zB,zD,zC,reduceIte,reduceCtorEq,zA]
    refine cac n185 (number_ac W[k] hz _) (fun v S' h => ?_) (fun v S' h => ?_)
    ·obtain ⟨⟨v',e,hok,rfl⟩ | ⟨v',e,_⟩,rfl⟩:=h
     rotate_left
     ·cases e
     cases e
     simp only [go_sem,zAa,zB,zD,zC,reduceIte,reduceCtorEq,zA]
     refine sr_gro22 _ _ _ elen (by omega) ?_
     simp only [go_sem,h4,zB,zD,zC,reduceIte,reduceCtorEq,zA]
     have hI':=hI h' (hstep hok)
     rw [show ints ((W.take k).map valW ++ [valW W[k]])=ints ((W.take k).map valW) ++ [.int .i64 (valW W[k])] by simp [ints]] at hI'
     exact hI'
    ·obtain ⟨⟨v',e,_⟩ | ⟨v',e,hf,hg⟩,rfl⟩:=h
     ·cases e
     ·cases e
      exact .inr ⟨_,rfl,hall hf,hg⟩
   ·have h1:¬ (k:Int)<W.length:=by omega
    have e:k=W.length:=by omega
    subst e
    rw [yO] at hP
    simp only [go_sem,l166_0,h1,decide_false,Tryz.f166,hP,yO,zB,zD,zC,reduceIte,reduceCtorEq,zA]
    exact .inl ⟨_,rfl,_,rfl,rfl⟩
 ·rintro v S' (⟨v',e,ns,h1,h2⟩ | ⟨v',e,_⟩)
  ·cases e;exact ⟨sl ns,by rw [h2];exact gro_subL ns,.inl ⟨_,rfl,ns,h1,rfl⟩⟩
  ·cases e
 ·rintro v S' (⟨v',e,_⟩ | h)
  ·cases e
  ·exact .inr h
end Go.Av.Lx
end
section
namespace Go.Av.Lx
open Go Go.Av Go.Proofs
open Go.Lv (Sight Survey Sw Sv SightOk)
def Small (s:Survey):Prop:=smI s.stations ∧ ∀ x∈s.sights,∀ n∈nsS x,smI n
theorem okW_bd {x:ByteArray} (h:okW x=true):smI (valW x):=by
 unfold okW at h
 simp only [zT,decide_eq_true_eq] at h
 have hb:=decP_bd h.1.2 h.1.1.2
 unfold valW
 split
 ·exact ⟨by omega,by omega⟩
 ·exact ⟨by omega,by omega⟩
theorem zDw {r:ByteArray} {k m:Nat} {ns:List Int} (h:toldB r k m=some ns):ns.length=m ∧ ∀ n∈ns,smI n:=by
 unfold toldB at h
 split at h
 ·rename_i hh
  cases h
  obtain ⟨h1,_,h3⟩:=hh
  refine ⟨by simp;omega,fun n hn => ?_⟩
  obtain ⟨x,hx,rfl⟩:=List.mem_map.1 hn
  exact okW_bd (List.all_eq_true.1 h3 x hx)
 ·cases h
theorem zero_sm:smI 0:=⟨by decide,by decide⟩
theorem getD_sm {ns:List Int} (h:∀ n∈ns,smI n) (i:Nat):smI (ns.getD i 0):=by
 rw [zG]
 cases hx:ns[i]? with
 | none=>exact zero_sm
 | some g=>exact h g (List.mem_of_getElem? hx)
theorem sgtN_small {ns:List Int} (h:∀ n∈ns,smI n):∀ n∈nsS (sgtN ns),smI n:=fun n hn=>by
 simp only [nsS,sgtN,yM,yA,or_false] at hn
 rcases hn with rfl | rfl | rfl | rfl <;> exact getD_sm h _
theorem fold_small:∀ (R:List ByteArray) {l l':List Sight},foldT l R=some l'→(∀ x∈l,∀ n∈nsS x,smI n) → ∀ x∈l',∀ n∈nsS x,smI n
 | [],l,l',h,hl=>by cases h;exact hl
 | r :: R,l,l',h,hl=>by
  unfold foldT at h
  cases hx:toldB r 1 4 with
  | none=>rw [hx] at h;cases h
  | some ns =>
   rw [hx] at h
   refine fold_small R h fun x hx' => ?_
   rcases List.mem_append.1 hx' with hx' | hx'
   ·exact hl x hx'
   ·rw [yP] at hx';subst hx';exact sgtN_small (zDw hx).2
theorem fold_len:∀ (R:List ByteArray) {l l':List Sight},foldT l R=some l'→l'.length=l.length+R.length
 | [],l,l',h=>by cases h;rfl
 | r :: R,l,l',h=>by
  unfold foldT at h
  cases hx:toldB r 1 4 with
  | none=>rw [hx] at h;cases h
  | some ns =>
   rw [hx] at h
   have:=fold_len R h
   simp at this ⊢;omega
theorem parsedB_some {t:ByteArray} {s:Survey} (h:parsedB t=some s):3≤(splitL t 10).length∧textB s=t ∧ ∃ ns,toldB ((splitL t 10).headD ByteArray.empty) 0 1=some ns∧s.stations=ns.getD 0 0∧foldT [] ((splitL t 10).tail.take ((splitL t 10).length - 3))=some s.sights:=by
 unfold parsedB at h
 split at h
 ·rename_i h3
  refine ⟨h3, ?_⟩
  cases hx:toldB ((splitL t 10).headD ByteArray.empty) 0 1 with
  | none=>rw [hx] at h;cases h
  | some ns =>
   rw [hx,qT] at h
   cases hy:foldT [] ((splitL t 10).tail.take ((splitL t 10).length - 3)) with
   | none=>rw [hy] at h;cases h
   | some l1 =>
    rw [hy,qT] at h
    split at h
    ·rename_i ht
     cases h
     exact ⟨ht,ns,rfl,rfl,rfl⟩
    ·cases h
 ·cases h
theorem parsed_small {t:ByteArray} {s:Survey} (h:parsedB t=some s):Small s:=by
 obtain ⟨_,_,ns,h1,h2,h3⟩:=parsedB_some h
 obtain ⟨_,h4⟩:=zDw h1
 exact ⟨by rw [h2];exact getD_sm h4 0,fold_small _ h3 fun x hx=>by cases hx⟩
end Go.Av.Lx
end

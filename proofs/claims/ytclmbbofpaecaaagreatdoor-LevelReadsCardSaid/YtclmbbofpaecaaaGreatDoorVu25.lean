/- Part 25 of the proof. -/
import Derived.Test.YtclmbbofpaecaaaGreatDoorVu24
import Derived.Test.YtclmbbofpaecaaaGreatDoorVu14
import Derived.Test.YtclmbbofpaecaaaGreatDoorVu20
set_option linter.all false
set_option linter.unusedVariables false
set_option linter.unusedSimpArgs false
set_option linter.unusedSectionVars false
open Bool renaming and_self → zJ, and_eq_true → zR, not_true → zX, not_false → qF, true_and → qU, false_and → qW
open ByteArray renaming size_append → qJ
open Int renaming toNat_natCast → qQ, tmod_eq_emod_of_nonneg → qV, tdiv_eq_ediv_of_nonneg → yA, mul_nonneg → yK
open List renaming getElem?_eq_getElem → zF, set_cons_succ → zG, set_cons_zero → zH, getD_eq_getElem?_getD → zI, all_cons → zK, all_nil → zM, mem_cons_self → zO, mem_cons_of_mem → zQ, getElem_mem → qA, length_append → qE, take_succ_eq_append_getElem → qG, mem_singleton → qL, map_append → qP, take_length → qY, range_succ → yI, take_of_length_le → yN
open Nat renaming reduceLeDiff → zA, reduceEqDiff → zB, reduceAdd → zC, reduceBEq → zD, le_of_ble_eq_true → zE, le_refl → zN, zero_le → qI
open Option renaming map_some → zV, bind_some → zY
section
set_option maxHeartbeats 4000000
namespace Go.Av.Lx
open Go Go.Av Go.Av.Tb Go.Av.Fx Go.Proofs
open Go.Lv (Sight Survey Sw Sv SightOk)
@[go_sem] theorem bs93_b (n:Int):zAe T 106 1 [(0,.int .u8 n)]=some (.slice [.int .u8 n] 1 .exact):=rfl
theorem bstr (S:St) (n:Int) (t:Tail):zCf T S 106 9 (.slice [.int .u8 n] 1 t)=some (.pure (.str (strOfNums [n]))):=rfl
theorem itoa_dig {d:Nat} (h:d<10):strOfNums [48+(d:Int)]=⟨#[UInt8.ofNat (48+d)]⟩:=by
 have:∀ d:Nat,d<10→strOfNums [48+(d:Int)]=⟨#[UInt8.ofNat (48+d)]⟩:=by
  intro d hd
  match d,hd with
  | 0,_=>rfl
  | 1,_=>rfl
  | 2,_=>rfl
  | 3,_=>rfl
  | 4,_=>rfl
  | 5,_=>rfl
  | 6,_=>rfl
  | 7,_=>rfl
  | 8,_=>rfl
  | 9,_=>rfl
 exact this d h
theorem itoaB_small {n:Int} (h0:0≤n) (h:n<10):itoaB n=⟨#[UInt8.ofNat (48+n.toNat)]⟩:=by
 unfold itoaB Lib.itoa
 rw [if_neg (by omega),Lib.decDigits_one (by omega)]
theorem itoaB_negsmall {n:Int} (h0:-10<n) (h:n<0):itoaB n=⟨#[45]⟩ ++ ⟨#[UInt8.ofNat (48+(-n).toNat)]⟩:=by
 apply ba_ext
 rw [zAw]
 unfold itoaB Lib.itoa
 rw [if_pos h,Lib.decDigits_one (by omega),show n.natAbs=(-n).toNat by omega];rfl
theorem itoaB_big {n:Int} (h:10≤n):itoaB n=itoaB (n.tdiv 10) ++ ⟨#[UInt8.ofNat (48+(n.tmod 10).toNat)]⟩:=by
 have d2:n.tdiv 10=n / 10:=yA (by omega)
 have d4:n.tmod 10=n % 10:=qV (by omega)
 apply ba_ext
 rw [zAw,d2,d4]
 unfold itoaB Lib.itoa
 rw [if_neg (by omega),if_neg (by omega),Lib.decDigits,dif_neg (by omega),show (n / 10).toNat=n.toNat / 10 by omega,show (n % 10).toNat=n.toNat % 10 by omega]
theorem itoaB_negbig {n:Int} (h:n ≤ -10):itoaB n=itoaB (n.tdiv 10) ++ ⟨#[UInt8.ofNat (48+(-(n.tmod 10)).toNat)]⟩:=by
 have e1:n.tdiv 10 = -((-n) / 10):=by
  have:=Int.neg_tdiv (-n) 10
  rw [Int.neg_neg] at this
  rw [this,yA (by omega)]
 have e2:n.tmod 10 = -((-n) % 10):=by
  have:=Int.neg_tmod (-n) 10
  rw [Int.neg_neg] at this
  rw [this,qV (by omega)]
 apply ba_ext
 rw [zAw,e1,e2,Int.neg_neg]
 unfold itoaB Lib.itoa
 rw [if_pos (by omega),if_pos (by omega),Lib.decDigits,dif_neg (by omega),show (-(-n / 10)).natAbs=n.natAbs / 10 by omega,show (-n % 10).toNat=n.natAbs % 10 by omega]
 simp
@[go_sem] theorem conv35 (n:Int):convA T 3 5 (.int .i64 n)=some (.int .u8 (IntKind.u8.wrap n)):=rfl
@[go_sem] theorem conv939 (l:List AV) (n:Nat) (t:Tail):convA T 106 9 (.slice l n t)=none:=rfl
theorem u8w {n:Int} (h:0≤n∧n≤255):IntKind.u8.wrap n=n:=by rw [IntKind.wrap_u8];omega
theorem zCk:∀ (k:Nat) (n:Int),n.natAbs≤k→i64 n→PC Tryz.prog 167 [.int .i64 n] (.pure (.str (itoaB n))):=by
 intro k
 induction k with
 | zero =>
  intro n hk h
  have e:n=0:=by omega
  subst e
  refine PC.of_empty (AC.run (E_ok _) mix Tryz.func167 m167 rfl rfl rfl (zE rfl) ?_) rfl rfl
  have g1:((0:Int) > -10):=by decide
  have g2:¬ ((0:Int)<0):=by decide
  have g3:((0:Int)<10):=by decide
  have w1:IntKind.i64.wrap 48=48:=by decide
  have w2:IntKind.u8.wrap 48=48:=by decide
  have hs:strOfNums [48]=itoaB 0:=by
   rw [itoaB_small (by decide) (by decide)];rfl
  simp only [go_sem,g1,g2,g3,decide_true,decide_false,w1,w2,bstr,hs,Tryz.f167,zB,zD,zC,reduceIte,reduceCtorEq,zA]
 | succ k ih =>
  intro n hk h
  refine PC.of_empty (AC.run (E_ok _) mix Tryz.func167 m167 rfl rfl rfl (zE rfl) ?_) rfl rfl
  unfold i64 at h
  by_cases hn:n<0
  ·by_cases g1:n > -10
   ·obtain ⟨d,hd⟩:∃ d:Nat,n = -(d:Int):=⟨(-n).toNat,by omega⟩
    have w1:IntKind.i64.wrap (48 - n)=48+(d:Int):=by rw [wrap64 (by omega)];omega
    have w2:IntKind.u8.wrap (48+(d:Int))=48+(d:Int):=u8w (by omega)
    have hs:binA T .add 9 (.str ⟨#[45]⟩) (.str (strOfNums [48+(d:Int)]))=some (.str (itoaB n)):=by
     rw [itoaB_negsmall g1 hn,itoa_dig (by omega),show (-n).toNat=d by omega]
     exact addS (by show 1+1≤_;omega)
    simp only [go_sem,g1,hn,decide_true,w1,w2,bstr,hs,Tryz.f167,zB,zD,zC,reduceIte,reduceCtorEq,zA]
   ·have hb:=itoaB_negbig (n:=n) (by omega)
    have e1:n.tdiv 10 = -((-n) / 10):=by
     have:=Int.neg_tdiv (-n) 10
     rw [Int.neg_neg] at this
     rw [this,yA (by omega)]
    have e2:n.tmod 10 = -((-n) % 10):=by
     have:=Int.neg_tmod (-n) 10
     rw [Int.neg_neg] at this
     rw [this,qV (by omega)]
    obtain ⟨d,hd⟩:∃ d:Nat,-(n.tmod 10)=(d:Int):=⟨(-(n.tmod 10)).toNat,by omega⟩
    have hd10:d<10:=by omega
    have q1:intOp .quo .i64 n 10=some (.int .i64 (n.tdiv 10)):=by
     show some (AV.int .i64 (IntKind.i64.wrap (n.tdiv 10)))=_
     rw [wrap64 (by omega)]
    have q2:intOp .rem .i64 n 10=some (.int .i64 (n.tmod 10)):=rfl
    have w1:IntKind.i64.wrap (48 - n.tmod 10)=48+(d:Int):=by rw [wrap64 (by omega)];omega
    have w2:IntKind.u8.wrap (48+(d:Int))=48+(d:Int):=u8w (by omega)
    have hI:i64 (n.tdiv 10):=⟨by omega,by omega⟩
    have hsz:=zBc hI
    have hs:binA T .add 9 (.str (itoaB (n.tdiv 10))) (.str (strOfNums [48+(d:Int)]))=some (.str (itoaB n)):=by
     rw [hb,itoa_dig hd10,show (-(n.tmod 10)).toNat=d by omega]
     exact addS (by show _+1≤_;omega)
    have hrec:=ih (n.tdiv 10) (by omega) hI
    simp only [go_sem,g1,hn,decide_true,decide_false,q1,q2,zB,zD,zC,reduceIte,reduceCtorEq,zA]
    refine qp n167 hrec (SubL.refl _) ?_
    simp only [go_sem,q1,q2,w1,w2,bstr,hs,Tryz.f167,zB,zD,zC,reduceIte,reduceCtorEq,zA]
  ·have g1:n > -10:=by omega
   by_cases g3:n<10
   ·obtain ⟨d,hd⟩:∃ d:Nat,n=(d:Int):=⟨n.toNat,by omega⟩
    have w1:IntKind.i64.wrap (48+n)=48+(d:Int):=by rw [wrap64 (by omega)];omega
    have w2:IntKind.u8.wrap (48+(d:Int))=48+(d:Int):=u8w (by omega)
    have hs:strOfNums [48+(d:Int)]=itoaB n:=by
     rw [itoaB_small (by omega) g3,itoa_dig (by omega),show n.toNat=d by omega]
    simp only [go_sem,g1,hn,g3,decide_true,decide_false,w1,w2,bstr,hs,Tryz.f167,zB,zD,zC,reduceIte,reduceCtorEq,zA]
   ·have hb:=itoaB_big (n:=n) (by omega)
    have e1:n.tdiv 10=n / 10:=yA (by omega)
    have e2:n.tmod 10=n % 10:=qV (by omega)
    obtain ⟨d,hd⟩:∃ d:Nat,n.tmod 10=(d:Int):=⟨(n.tmod 10).toNat,by omega⟩
    have hd10:d<10:=by omega
    have q1:intOp .quo .i64 n 10=some (.int .i64 (n.tdiv 10)):=by
     show some (AV.int .i64 (IntKind.i64.wrap (n.tdiv 10)))=_
     rw [wrap64 (by omega)]
    have q2:intOp .rem .i64 n 10=some (.int .i64 (n.tmod 10)):=rfl
    have w1:IntKind.i64.wrap (48+n.tmod 10)=48+(d:Int):=by rw [wrap64 (by omega)];omega
    have w2:IntKind.u8.wrap (48+(d:Int))=48+(d:Int):=u8w (by omega)
    have hI:i64 (n.tdiv 10):=⟨by omega,by omega⟩
    have hsz:=zBc hI
    have hs:binA T .add 9 (.str (itoaB (n.tdiv 10))) (.str (strOfNums [48+(d:Int)]))=some (.str (itoaB n)):=by
     rw [hb,itoa_dig hd10,show (n.tmod 10).toNat=d by omega]
     exact addS (by show _+1≤_;omega)
    have hrec:=ih (n.tdiv 10) (by omega) hI
    simp only [go_sem,g1,hn,g3,decide_true,decide_false,q1,q2,zB,zD,zC,reduceIte,reduceCtorEq,zA]
    refine qp n167 hrec (SubL.refl _) ?_
    simp only [go_sem,q1,q2,w1,w2,bstr,hs,Tryz.f167,zB,zD,zC,reduceIte,reduceCtorEq,zA]
theorem rRow_pc (w:ByteArray) (hw:w.size≤1000) (ns:List Int) (hn:ns.length≤10) (h:∀ n∈ns,i64 n):PC Tryz.prog 125 [.str w,sl ns] (.pure (.str (rowN w ns))):=by
 refine PC.of_empty (AC.run (E_ok _) mix Tryz.func125 m125 rfl rfl rfl (zE rfl) ?_) (by simp [bndL,AV.bnd]) rfl
 simp only [go_sem,zB,zD,zC,reduceIte,reduceCtorEq,zA]
 refine zEc ns.length (fun k=>[(0,.str (rowN w (ns.take k))),(1,sl ns),(5,.int .i64 k)]) (fun _=>St.empty) rfl rfl ?_
 intro k hk I hI
 by_cases h':k<ns.length
 ·have h1:(k:Int)<ns.length:=by omega
  have h2:0≤(k:Int)∧(k:Int)<ns.length:=by omega
  have h3:ns[k]? = some ns[k]:=zF h'
  have h4:IntKind.i64.wrap ((k:Int)+1)=(k+1:Nat):=wrap64 (by omega)
  have hm:=h _ (qA h')
  have h5:=zBc hm
  have h6:=zEr (ns.take k) w fun m hm=>h m (List.mem_of_mem_take hm)
  have h8:(ns.take k).length≤10:=by simp;omega
  have a1:binA T .add 9 (.str (rowN w (ns.take k))) (.str ⟨#[32]⟩)=some (.str (rowN w (ns.take k) ++ sp)):=addS (by show _+1≤_;omega)
  have a2:binA T .add 9 (.str (rowN w (ns.take k) ++ sp)) (.str (itoaB ns[k]))=some (.str (rowN w (ns.take k) ++ sp ++ itoaB ns[k])):=addS (by rw [qJ];show _+1+_≤_;omega)
  simp only [go_sem,l125_0,zAa,h1,decide_true,h2,zBa,h3,a1,zB,zD,zC,reduceIte,reduceCtorEq,zA]
  refine cp n167 (zCk _ _ (zN _) hm) (SubL.refl _) ?_
  simp only [go_sem,a2,h4,zB,zD,zC,reduceIte,reduceCtorEq,zA]
  have:=hI h'
  rw [rowN_take _ _ _ h',← ByteArray.append_assoc] at this
  exact this
 ·have h1:¬ (k:Int)<ns.length:=by omega
  have e:k=ns.length:=by omega
  subst e
  simp only [go_sem,l125_0,zAa,h1,decide_false,qY,Tryz.f125,zB,zD,zC,reduceIte,reduceCtorEq,zA]
theorem catB_size {R:List ByteArray} (h:∀ r∈R,r.size≤100):∀ i,(catB R i).size≤101 * i
 | 0=>zN _
 | i+1=>by
  have ih:=catB_size h i
  have hs:(R.getD i ByteArray.empty).size≤100:=by
   rw [zI]
   cases e:R[i]? with
   | none=>exact qI _
   | some r=>exact h r (List.mem_of_getElem? e)
  show (catB R i ++ _ ++ lf).size≤_
  rw [qJ,qJ]
  show _+_+1≤_;omega
def sealB (R:List ByteArray) (m:Int):ByteArray:=catB R R.length ++ endB ((ck R R.length).tmod m) ++ lf
theorem rSealed_pc (R:List ByteArray) (m:Int) (hm:0<m∧m≤1000) (hR:∀ r∈R,r.size≤100) (hN:R.length≤2500) (t:Tail):PC Tryz.prog 126 [.slice (strs R) R.length t,.int .i64 m] (.pure (.str (sealB R m))):=by
 have key:PC Tryz.prog 126 [.slice (strs R) R.length .unk,.int .i64 m] (.pure (.str (sealB R m))):=by
  refine PC.of_empty (AC.run (E_ok _) mix Tryz.func126 m126 rfl rfl rfl (zE rfl) ?_) (by simp [bndL,AV.bnd]) rfl
  simp only [go_sem,zB,zD,zC,reduceIte,reduceCtorEq,zA]
  refine zEc R.length (fun i=>[(0,.slice (strs R) R.length .unk),(1,.int .i64 m),(5,.str (catB R i)),(6,.int .i64 (ck R i)),(7,.int .i64 i)]) (fun _=>St.empty) rfl rfl ?_
  intro i hi I hI
  by_cases h':i<R.length
  ·have h1:(i:Int)<R.length:=by omega
   have h2:0≤(i:Int)∧(i:Int)<R.length:=by omega
   have h3:R[i]? = some R[i]:=zF h'
   have h4:IntKind.i64.wrap ((i:Int)+1)=(i+1:Nat):=wrap64 (by omega)
   have hr:=hR _ (qA h')
   simp only [go_sem,l126_0,zAa,h1,decide_true,zB,zD,zC,reduceIte,reduceCtorEq,zA]
   have hck:ck R (i+1)=ck R i+rs R[i] R[i].size * (i+1:Nat):=by
    show ck R i+rs (R.getD i _) (R.getD i _).size * _=_
    rw [zI,h3];rfl
   have hcat:catB R (i+1)=catB R i ++ R[i] ++ lf:=by
    show catB R i ++ R.getD i _ ++ lf=_
    rw [zI,h3];rfl
   have hb:=ck_bd hR i (by omega)
   have hcs:=catB_size hR i
   have hI':=hI h'
   rw [hck,hcat] at hI'
   generalize R[i]=r at *
   refine zEc r.size (fun k=>[(0,.slice (strs R) R.length .unk),(1,.int .i64 m),(5,.str (catB R i)),(6,.int .i64 (ck R i+rs r k * (i+1:Nat))),(7,.int .i64 i),(8,.int .i64 k)]) (fun _=>St.empty) (by simp only [rs,Int.zero_mul,Int.add_zero];rfl) rfl ?_
   intro k hk I2 hI2
   by_cases h'':k<r.size
   ·have g1:(k:Int)<r.size:=by omega
    have g4:IntKind.i64.wrap ((k:Int)+1)=(k+1:Nat):=wrap64 (by omega)
    have hbt:r[k]? = some r[k]:=by simp [h'']
    have hB:r[k].toNat≤255:=Nat.le_of_lt_succ (UInt8.toNat_lt _)
    have hrs:rs r (k+1)=rs r k+(r[k].toNat:Int) * (k+1:Nat):=by
     show rs r k+(((r[k]?).getD 0).toNat:Int) * _=_
     rw [hbt];rfl
    have hb2:=rs_bd100 r (k:=k) (by omega)
    have p1:0≤(r[k].toNat:Int) * (k+1:Nat):=yK (by omega) (by omega)
    have p2:(r[k].toNat:Int) * (k+1:Nat)≤255 * (100:Int):=Int.mul_le_mul (by omega) (by omega) (by omega) (by omega)
    have p3:0≤(r[k].toNat:Int) * (k+1:Nat) * (i+1:Nat):=yK p1 (by omega)
    have p4:(r[k].toNat:Int) * (k+1:Nat) * (i+1:Nat)≤25500 * (3000:Int):=Int.mul_le_mul (by omega) (by omega) (by omega) (by omega)
    have p5:0≤rs r k * (i+1:Nat):=yK hb2.1 (by omega)
    have p6:rs r k * (i+1:Nat)≤2550000 * (3000:Int):=Int.mul_le_mul hb2.2 (by omega) (by omega) (by omega)
    have w1:IntKind.i64.wrap (r[k].toNat:Int)=r[k].toNat:=wrap64 (by omega)
    have w2:IntKind.i64.wrap ((r[k].toNat:Int) * (k+1:Nat))=(r[k].toNat:Int) * (k+1:Nat):=wrap64 (by omega)
    have w3:IntKind.i64.wrap ((r[k].toNat:Int) * (k+1:Nat) * (i+1:Nat))=(r[k].toNat:Int) * (k+1:Nat) * (i+1:Nat):=wrap64 (by omega)
    have w4:IntKind.i64.wrap (ck R i+rs r k * (i+1:Nat)+(r[k].toNat:Int) * (k+1:Nat) * (i+1:Nat))=ck R i+rs r k * (i+1:Nat)+(r[k].toNat:Int) * (k+1:Nat) * (i+1:Nat):=wrap64 (by omega)
    have hz:0≤(k:Int):=by omega
    simp only [go_sem,l126_1,zAa,h2,zBg,h3,zV,g1,decide_true,hz,hbt,convA,w1,w2,w3,w4,g4,h4,zB,zD,zC,reduceIte,reduceCtorEq,zA]
    have:=hI2 h''
    rw [hrs,Int.add_mul,← Int.add_assoc] at this
    exact this
   have g1:¬ (k:Int)<r.size:=by omega
   have e:k=r.size:=by omega
   subst e
   clear hI2 hk h''
   have a1:binA T .add 9 (.str (catB R i)) (.str r)=some (.str (catB R i ++ r)):=addS (by omega)
   have a2:binA T .add 9 (.str (catB R i ++ r)) (.str ⟨#[10]⟩)=some (.str (catB R i ++ r ++ lf)):=addS (by rw [qJ];show _+_+1≤_;omega)
   simp only [go_sem,l126_1,zAa,h2,zBg,h3,zV,g1,decide_false,a1,a2,h4,zB,zD,zC,reduceIte,reduceCtorEq,zA]
   exact hI'
  have h1:¬ (i:Int)<R.length:=by omega
  have e:i=R.length:=by omega
  subst e
  clear hI hi h'
  have hb:=ck_bd hR R.length (by omega)
  have hcs:=catB_size hR R.length
  have hfin:sealB R m=catB R R.length ++ endB ((ck R R.length).tmod m) ++ lf:=rfl
  rw [hfin]
  generalize ck R R.length=C at *
  generalize catB R R.length=Z at *
  have e1:intOp .rem .i64 C m=some (.int .i64 (C.tmod m)):=by
   show (if m=0 then none else some (AV.int .i64 (C.tmod m)))=_
   rw [if_neg (by omega)]
  have hc0:0≤C.tmod m:=Int.tmod_nonneg _ hb.1
  have hc1:C.tmod m<m:=Int.tmod_lt_of_pos _ hm.1
  simp only [go_sem,l126_0,zAa,h1,decide_false,e1,zB,zD,zC,reduceIte,reduceCtorEq,zA]
  generalize C.tmod m=c at *
  have d1:c.tdiv 100=c / 100:=yA hc0
  have d2:c.tdiv 10=c / 10:=yA hc0
  have d3:(c.tdiv 10).tmod 10=c / 10 % 10:=by rw [d2];exact qV (by omega)
  have d4:c.tmod 10=c % 10:=qV hc0
  have e2:intOp .quo .i64 c 100=some (.int .i64 (c.tdiv 100)):=by
   show some (AV.int .i64 (IntKind.i64.wrap (c.tdiv 100)))=_
   rw [wrap64 (by omega)]
  have e3:intOp .quo .i64 c 10=some (.int .i64 (c.tdiv 10)):=by
   show some (AV.int .i64 (IntKind.i64.wrap (c.tdiv 10)))=_
   rw [wrap64 (by omega)]
  have e4:intOp .rem .i64 (c.tdiv 10) 10=some (.int .i64 ((c.tdiv 10).tmod 10)):=rfl
  have e5:intOp .rem .i64 c 10=some (.int .i64 (c.tmod 10)):=rfl
  have i1:i64 (c.tdiv 100):=⟨by omega,by omega⟩
  have i2:i64 ((c.tdiv 10).tmod 10):=⟨by omega,by omega⟩
  have i3:i64 (c.tmod 10):=⟨by omega,by omega⟩
  have z1:=zBc i1
  have z2:=zBc i2
  have z3:=zBc i3
  have a1:binA T .add 9 (.str Z) (.str ⟨#[101,110,100,32]⟩)=some (.str (Z ++ endW)):=addS (by show _+4≤_;omega)
  have s1:(Z ++ endW).size≤101 * R.length+4:=by rw [qJ];show _+4≤_;omega
  have a2:binA T .add 9 (.str (Z ++ endW)) (.str (itoaB (c.tdiv 100)))=some (.str (Z ++ endW ++ itoaB (c.tdiv 100))):=addS (by omega)
  have s2:(Z ++ endW ++ itoaB (c.tdiv 100)).size≤101 * R.length+25:=by rw [qJ];omega
  have a3:=addS (a:=Z ++ endW ++ itoaB (c.tdiv 100)) (b:=itoaB ((c.tdiv 10).tmod 10)) (by omega)
  have s3:(Z ++ endW ++ itoaB (c.tdiv 100) ++ itoaB ((c.tdiv 10).tmod 10)).size≤101 * R.length+46:=by rw [qJ];omega
  have a4:=addS (a:=Z ++ endW ++ itoaB (c.tdiv 100) ++ itoaB ((c.tdiv 10).tmod 10)) (b:=itoaB (c.tmod 10)) (by omega)
  have s4:(Z ++ endW ++ itoaB (c.tdiv 100) ++ itoaB ((c.tdiv 10).tmod 10) ++ itoaB (c.tmod 10)).size≤101 * R.length+67:=by rw [qJ];omega
  have a5:binA T .add 9 (.str (Z ++ endW ++ itoaB (c.tdiv 100) ++ itoaB ((c.tdiv 10).tmod 10) ++ itoaB (c.tmod 10))) (.str ⟨#[10]⟩)=some (.str (Z ++ endB c ++ lf)):=by
   have:Z ++ endB c ++ lf=Z ++ endW ++ itoaB (c.tdiv 100) ++ itoaB ((c.tdiv 10).tmod 10) ++ itoaB (c.tmod 10) ++ lf:=by
    unfold endB
    simp only [ByteArray.append_assoc]
   rw [this]
   exact addS (by show _+1≤_;omega)
  simp only [go_sem,a1,e2,zB,zD,zC,reduceIte,reduceCtorEq,zA]
  refine cp n167 (zCk _ _ (zN _) i1) (SubL.refl _) ?_
  simp only [go_sem,a2,e3,e4,zB,zD,zC,reduceIte,reduceCtorEq,zA]
  refine cp n167 (zCk _ _ (zN _) i2) (SubL.refl _) ?_
  simp only [go_sem,a3,e5,zB,zD,zC,reduceIte,reduceCtorEq,zA]
  refine cp n167 (zCk _ _ (zN _) i3) (SubL.refl _) ?_
  simp only [go_sem,a4,a5,Tryz.f126,zB,zD,zC,reduceIte,reduceCtorEq,zA]
 exact fun c S w vs h1 h2=>key c S w vs h1 (SubL.cons (Sub.unk _ _ _) (SubL.refl _) c vs h2)
set_option maxHeartbeats 4000000
theorem seal_text (s:Survey):sealB (rowsL s) 149=textB s:=by
 unfold sealB textB
 have:=join_cat (rowsL s) (endB ((ck (rowsL s) (rowsL s).length).tmod 149))
 exact this.symm
theorem rPrint_pc (s:Survey) (h:PlainS s):PC Tryz.prog 61 [surA s] (.pure (.str (textB s))):=by
 have hm:=h.many
 rw [← seal_text]
 refine PC.of_empty (AC.run (E_ok _) mix Tryz.func61 m61 rfl rfl rfl (zE rfl) ?_) (by simp [bndL,AV.bnd]) rfl
 simp only [go_sem,boxA,zB,zD,zC,reduceIte,reduceCtorEq,zA]
 refine cp n125 (rRow_pc (wordB 0) (by decide) [s.stations] (zE rfl) (fun m hm=>by rw [qL] at hm;subst hm;exact h.head)) (SubL.cons (Sub.refl _) (SubL.cons (Sub.unk _ _ _) (SubL.refl _))) ?_
 simp only [go_sem,zAa,zB,zD,zC,reduceIte,reduceCtorEq,zA]
 refine wc_forE s.sights.length (fun k=>[(1,.ref 0 0),(3,.slice (strs (headR s :: sgR s k)) (k+1) (tailN k)),(4,.int .i64 (k:Nat))]) (fun k S => ∃ X,S=⟨[some (.cells (surC s))] ++ X,k,toksN k⟩) rfl ⟨[],rfl⟩ ?_
 rintro k hk S ⟨X,rfl⟩ I hI
 have c1:=fun q=>zAf X q
 have c2:=fun x B=>zAt X x B
 by_cases hkl:k<s.sights.length
 ·have k1:(k:Int)<s.sights.length:=by omega
  have k2:0≤(k:Int)∧(k:Int)<s.sights.length:=by omega
  have k3:k * 4+4≤(sgts s.sights).length:=by rw [zAx];omega
  have k4:IntKind.i64.wrap ((k:Int)+1)=(k+1:Nat):=wrap64 (by omega)
  have k5:=zBy s.sights k hkl
  have hp:=rRow_pc (wordB 1) (by decide) (nsS s.sights[k]) (zE rfl) (h.each _ (qA hkl))
  have hI:=hI hkl
  rw [sgR_succ s k hkl] at hI
  have hl:=sgR_len s k hk
  generalize s.sights[k]=x at *
  simp only [go_sem,l61_0,zAa,k1,decide_true,k2,k3,k5,zAg,and_self,c1,c2,zAd,AV.cells,AV.one,zK,zM,zJ,splice,zH,zG,zB,zD,zC,reduceIte,reduceCtorEq,zA]
  refine cp n125 hp (SubL.cons (Sub.refl _) (SubL.cons (Sub.unk _ _ _) (SubL.refl _))) ?_
  simp only [go_sem,zAa,zB,zD,zC,reduceIte,reduceCtorEq,zA]
  refine sr_str (l:=headR s :: sgR s k) _ (by simp [hl]) (by omega) ?_
  simp only [go_sem,k4,zB,zD,zC,reduceIte,reduceCtorEq,zA]
  exact hI _ ⟨X ++ [some (.cells (sgtC x))],rfl⟩
 have k1:¬ (k:Int)<s.sights.length:=by omega
 have ek:k=s.sights.length:=by omega
 subst ek
 have hRl:(rowsL s).length=s.sights.length+1:=by simp [rowsL]
 rw [← rowsL_eq,← hRl]
 simp only [go_sem,l61_0,zAa,k1,decide_false,zB,zD,zC,reduceIte,reduceCtorEq,zA]
 refine cp n126 (rSealed_pc (rowsL s) 149 (by decide) h.rows (by omega) _) (SubL.refl _) ?_
 simp only [go_sem,Tryz.f61,zB,zD,zC,reduceIte,reduceCtorEq,zA]
set_option maxHeartbeats 4000000
theorem ba_eq (a b:ByteArray):(a.toList == b.toList)=decide (a=b):=by
 rw [Lib.toList_data,Lib.toList_data]
 by_cases h:a=b
 ·subst h;simp
 ·rw [decide_eq_false h]
  apply beq_eq_false_iff_ne.2
  intro e
  apply h
  cases a;cases b
  simp only [ByteArray.mk.injEq]
  exact Array.toList_inj.1 e
theorem eqS (a b:ByteArray):binA T .eql 9 (.str a) (.str b)=some (.bool (decide (a=b))):=by
 show some (AV.bool (a.toList == b.toList))=_
 rw [ba_eq]
theorem neS (a b:ByteArray):binA T .neq 9 (.str a) (.str b)=some (.bool (decide (a≠b))):=by
 show some (AV.bool !(a.toList == b.toList))=_
 rw [ba_eq,decide_not]
def dash:ByteArray:=⟨#[45]⟩
theorem neg_iff (w:ByteArray):negW w=(decide (1≤w.size) && decide (w.extract 0 1=dash)):=by
 unfold negW
 by_cases h:0<w.size
 ·rw [decide_eq_true h,decide_eq_true (show 1≤w.size from h),qU,qU]
  have e:w.extract 0 1=⟨#[w.get! 0]⟩:=by
   obtain ⟨a⟩:=w
   have h':0<a.size:=h
   apply ByteArray.ext
   apply Array.ext
   ·simp [ByteArray.size] at *;omega
   ·intro i h1 h2
    simp at h2
    subst h2
    simp [ByteArray.get!,Array.getElem!_eq_getD,h']
  rw [e]
  refine decide_eq_decide.2 ⟨fun hh => ?_,fun hh => ?_⟩
  ·have:w.get! 0=45:=UInt8.toNat_inj.1 hh
   rw [this];rfl
  ·have:(⟨#[w.get! 0]⟩:ByteArray).data=dash.data:=by rw [hh]
   have:w.get! 0=45:=by simpa [dash] using this
   rw [this];rfl
 ·rw [decide_eq_false h,decide_eq_false (show ¬ 1≤w.size from h),qW,qW]
theorem slHasPrefix_pc (w:ByteArray) (hw:w.size≤1000000):PC Tryz.prog 218 [.str w,.str dash] (.pure (.bool (negW w))):=by
 refine PC.of_empty (AC.run (E_ok _) mix Tryz.func218 m218 rfl rfl rfl (zE rfl) ?_) rfl rfl
 rw [neg_iff]
 have hs:dash.size=1:=rfl
 by_cases h:1≤w.size
 ·have h1:(w.size:Int) ≥ (1:Nat):=by omega
  have hsl:sliceA T 9 (.str w) none (some (.int .i64 ((1:Nat):Int))) none=some (.str (w.extract 0 1)):=by
   show (bnd (some (.int .i64 ((1:Nat):Int))) w.size w.size).bind _=_
   unfold bnd
   simp
   rw [if_pos (by omega)];rfl
  rw [decide_eq_true h,qU]
  simp only [go_sem,zAa,hs,h1,decide_true,hsl,eqS,Tryz.f218,zB,zD,zC,reduceIte,reduceCtorEq,zA]
 ·have h1:¬ (w.size:Int) ≥ (1:Nat):=by omega
  rw [decide_eq_false h,qW]
  simp only [go_sem,zAa,hs,h1,decide_false,Tryz.f218,zB,zD,zC,reduceIte,reduceCtorEq,zA]
theorem slTrim_pc (w:ByteArray) (hw:w.size≤1000000):PC Tryz.prog 207 [.str w,.str dash] (.pure (.str (bodyW w))):=by
 refine PC.of_empty (AC.run (E_ok _) mix Tryz.func207 m207 rfl rfl rfl (zE rfl) ?_) rfl rfl
 have hs:dash.size=1:=rfl
 simp only [go_sem,zB,zD,zC,reduceIte,reduceCtorEq,zA]
 refine cp n218 (slHasPrefix_pc w hw) (SubL.refl _) ?_
 unfold bodyW
 cases h:negW w
 ·simp only [go_sem,Tryz.f207,zB,zD,zC,reduceIte,reduceCtorEq,zA]
  all_goals rfl
 ·have h0:0<w.size:=by
   unfold negW at h
   rw [zR,decide_eq_true_iff] at h
   exact h.1
  have hsl:sliceA T 9 (.str w) (some (.int .i64 ((1:Nat):Int))) none none=some (.str (w.extract 1 w.size)):=by
   have hd:descOf T 9=some .string:=rfl
   have hb:bnd (some (.int .i64 ((1:Nat):Int))) 0 w.size=some 1:=by simp [bnd];omega
   have hb2:bnd none w.size w.size=some w.size:=by simp [bnd]
   simp only [sliceA,hd,hb,hb2,zY,zV]
  rw [if_pos rfl]
  simp only [go_sem,zAa,hs,hsl,Tryz.f207,zB,zD,zC,reduceIte,reduceCtorEq,zA]
  all_goals rfl
theorem Trim_pc (w:ByteArray) (hw:w.size≤1000000):PC Tryz.prog 196 [.str w,.str dash] (.pure (.str (bodyW w))):=by
 refine PC.of_empty (AC.run (E_ok _) mix Tryz.func196 m196 rfl rfl rfl (zE rfl) ?_) rfl rfl
 simp only [go_sem,zB,zD,zC,reduceIte,reduceCtorEq,zA]
 refine cp n207 (slTrim_pc w hw) (SubL.refl _) ?_
 simp only [go_sem,Tryz.f196,zB,zD,zC,reduceIte,reduceCtorEq,zA]
set_option maxHeartbeats 4000000
theorem dec_lt {s:ByteArray} {i:Nat} (h:(s.get! i).toNat<128):Utf8.decode s i=((s.get! i).toNat,1):=by
 unfold Utf8.decode
 simp only [Nat.add_zero,if_pos h]
theorem dec_ge {s:ByteArray} {i:Nat} (h:¬ (s.get! i).toNat<128):128≤(Utf8.decode s i).1:=by
 unfold Utf8.decode
 simp only [Nat.add_zero,if_neg h]
 repeat' split
 all_goals first | (show 128≤65533;decide) | (rename_i hh;simp only [zR,decide_eq_true_eq,ge_iff_le] at hh;show 128≤_;omega)
def giveUp (why:ByteArray):AV:=.iface 193 (.agg [.str why])
def Gives (v:AV):Prop:=∃ why,v=giveUp why
theorem Gives.bnd {v:AV} (h:Gives v):v.bnd 0 0=true:=by obtain ⟨why,rfl⟩:=h;rfl
@[go_sem] theorem d_none:descOf T 193=some ti193.desc:=rfl
@[go_sem] theorem i_none:isIface ti193.desc=false:=rfl
@[go_sem] theorem bd_none (a:ByteArray):buildA T 193 [(0,.str a)]=some (.agg [.str a]):=rfl
theorem sure_ok (why:ByteArray):PC Tryz.prog 165 [.bool true,.str why] (.pure (.tuple [])):=by
 refine PC.of_empty (AC.run (E_ok _) mix Tryz.func165 m165 rfl rfl rfl (zE rfl) ?_) rfl rfl
 simp only [go_sem,zAi,zX,Tryz.f165,zB,zD,zC,reduceIte,reduceCtorEq,zA]
 all_goals rfl
theorem sure_no (why:ByteArray) (S:St):AC Tryz.prog 165 [.bool false,.str why] S fun e S'=>((∃ v,e=.ret v∧False)∨(∃ v,e=.panic v∧Gives v))∧S'=S:=by
 refine AC.of_iso (AC.run (E_ok _) mix Tryz.func165 m165 rfl rfl rfl (zE rfl) ?_) rfl (fun _ h=>h.elim) (fun _ h=>h.bnd) S
 simp only [go_sem,zAi,qF,Tryz.f165,zB,zD,zC,reduceIte,reduceCtorEq,zA]
 exact .inr ⟨_,rfl,why,rfl⟩
theorem sn {n:Nat} {S:St} {K Kp:AV→St→Prop} {h1:Hold K} {h2:Hold Kp} (why:ByteArray) (kp:∀ v,Gives v→Kp v S):sc (E n) K Kp h1 h2 (some (165,[.bool false,.str why])) S:=by
 refine cac n165 (sure_no why _) (fun v S' h => ?_) (fun v S' h => ?_)
 ·obtain ⟨⟨v',_,h⟩ | ⟨v',e,_⟩,_⟩:=h
  ·exact h.elim
  ·cases e
 ·obtain ⟨⟨v',e,_⟩ | ⟨v',e,hg⟩,rfl⟩:=h
  ·cases e
  ·cases e;exact kp _ hg
theorem n_gs:Callable Tryz.prog 184:=⟨⟨_,Tryz.func184,by kernel_rfl,rfl⟩⟩
theorem if_congr2 {α:Type} {p q:Prop} [Decidable p] [Decidable q] {a b:α} (h:p↔q):(if p then a else b)=if q then a else b:=by
 by_cases hp:p
 ·rw [if_pos hp,if_pos (h.1 hp)]
 ·rw [if_neg hp,if_neg (fun hq=>hp (h.2 hq))]
theorem Split_pc (s:ByteArray) (b:UInt8) (hs:s.size<4294967281):PC Tryz.prog 164 [.str s,.str ⟨#[b]⟩] (.pure (.slice (strs (splitL s b)) (splitL s b).length .exact)):=by
 refine PC.of_empty (AC.run (E_ok _) mix Tryz.func164 m164 rfl rfl rfl (zE rfl) ?_) rfl (by simp [AV.bnd])
 simp only [go_sem,zB,zD,zC,reduceIte,reduceCtorEq,zA]
 refine cp n_gs (genSplit_pc s b hs) (SubL.refl _) ?_
 simp only [go_sem,Tryz.f164,zB,zD,zC,reduceIte,reduceCtorEq,zA]
 all_goals rfl
set_option maxHeartbeats 4000000
def surS:Survey:=⟨4,[⟨0,1,10,1⟩,⟨1,2,-4,2⟩,⟨2,3,7,1⟩,⟨0,3,15,2⟩]⟩
theorem S_pc:PC Tryz.prog 81 [] (.pure (surA surS)):=by
 refine PC.of_frz (AC.run (E_ok _) mix Tryz.func81 m81 rfl rfl rfl (zE rfl) ?_) rfl (by simp [bndL,AV.bnd])
 have e1:zAe T 22 4 [(0,.agg [.int .i64 0,.int .i64 1,.int .i64 10,.int .i64 1]),(1,.agg [.int .i64 1,.int .i64 2,.int .i64 (-4),.int .i64 2]),(2,.agg [.int .i64 2,.int .i64 3,.int .i64 7,.int .i64 1]),(3,.agg [.int .i64 0,.int .i64 3,.int .i64 15,.int .i64 2])]=some (.slice (sgts surS.sights) 4 .exact):=rfl
 have e3:buildA T 24 [(0,.int .i64 4),(1,.slice (sgts surS.sights) 4 .exact)]=some (.agg [.int .i64 4,.slice (sgts surS.sights) 4 .exact]):=rfl
 simp only [go_sem,e1,e3,zAd,AV.cells,AV.one,zK,zM,zJ,splice,zH,zG,and_self,Tryz.f81,zB,zD,zC,reduceIte,reduceCtorEq,zA]
 exact ⟨_,rfl,zDk (.same _) (.unk _ _ _)⟩
end Go.Av.Lx
end
section
set_option maxHeartbeats 4000000
namespace Go.Av.Lx
open Go Go.Av Go.Av.Tb Go.Av.Fx Go.Proofs
open Go.Lv (Sight Survey Sw Sv SightOk lexI lexI_drop)

end Go.Av.Lx
end
section
set_option maxHeartbeats 4000000
namespace Go.Av.Lx
open Go Go.Av Go.Av.Tb Go.Av.Fx Go.Proofs
open Go.Lv (Sight Survey Sw Sv SightOk Stp befS befS_drop stpLt)

end Go.Av.Lx
end
section
set_option maxHeartbeats 4000000
namespace Go.Av.Lx
open Go Go.Av Go.Av.Tb Go.Av.Fx Go.Proofs
open Go.Lv (Sight Survey Sw Sv SightOk risB risAt)

end Go.Av.Lx
end
section
namespace Go.Av.Lx
open Go Go.Av Go.Av.Tb Go.Av.Fx Go.Proofs
open Go.Lv (Survey)
theorem ba_gt (r:ByteArray) (k:Nat):r[k]? = r.data.toList[k]?:=by
 rw [Array.getElem?_toList];rfl
theorem get_at {s:ByteArray} {k:Nat} (h:k<s.size):s[k]? = some (s.get! k):=by
 have h1:s[k]? = some s[k]:=by simp [h]
 rw [h1]
 congr 1
 show s.data[k]=s.data[k]!
 rw [getElem!_pos]
theorem ix9 {s:ByteArray} {k:Nat} (h:k<s.size):indexA T 9 (.str s) (.int .i64 (k:Nat))=some (.int .u8 (s.get! k).toNat):=by
 have:indexA T 9 (.str s) (.int .i64 (k:Nat))=if 0≤(k:Int) then (s[(k:Int).toNat]?).map (fun b=>AV.int .u8 b.toNat) else none:=rfl
 rw [this,if_pos (by omega),qQ,get_at h];rfl
theorem zDz (s:ByteArray) (a b:Nat):(s.extract a b).data.toList=(s.data.toList.drop a).take (b - a):=by
 rw [ByteArray.data_extract,Array.toList_extract,List.extract_eq_take_drop]
theorem lst_len (s:ByteArray):s.data.toList.length=s.size:=by rw [Array.length_toList];rfl
theorem lst_get {s:ByteArray} {k:Nat} (h:k<s.size):s.data.toList[k]? = some (s.get! k):=by rw [← ba_gt,get_at h]
def splS (s:ByteArray) (b:UInt8):Nat→List ByteArray × Nat
 | 0=>([],0)
 | k+1=>if s.get! k=b then ((splS s b k).1 ++ [s.extract (splS s b k).2 k],k+1) else splS s b k
theorem spl_inv (s:ByteArray) (b:UInt8):∀ k,k≤s.size→(splS s b k).2≤k∧(splS s b k).1.length≤k∧b ∉ (s.extract (splS s b k).2 k).data.toList∧splitL s b=(splS s b k).1 ++ splitL (s.extract (splS s b k).2 s.size) b
 | 0,_=>by
  refine ⟨zN _,zN _, ?_, ?_⟩
  ·rw [zDz];simp [splS]
  ·show splitL s b=[] ++ splitL (s.extract 0 s.size) b
   have:s.extract 0 s.size=s:=by simp
   rw [this];rfl
 | k + 1,hk=>by
  obtain ⟨h1,h2,h3,h4⟩:=spl_inv s b k (by omega)
  have hg:=lst_get (s:=s) (k:=k) (by omega)
  have hl:=lst_len s
  unfold splS
  generalize hfr:(splS s b k).2=fr at *
  by_cases hb:s.get! k=b
  ·rw [if_pos hb]
   refine ⟨zN _,by simp;omega, ?_, ?_⟩
   ·rw [zDz];simp
   ·have e:s.extract fr s.size=s.extract fr k ++ (⟨#[b]⟩ ++ s.extract (k+1) s.size):=by
     apply ba_ext
     rw [zAw,zAw,zDz,zDz,zDz]
     show _=_ ++ ([b] ++ _)
     rw [yN (by simp),yN (i:=s.size - (k+1)) (by simp)]
     have e1:s.data.toList.drop k=b :: s.data.toList.drop (k+1):=by
      rw [List.drop_eq_getElem_cons (by omega)]
      congr 1
      have:=zF (l:=s.data.toList) (i:=k) (by omega)
      rw [hg,hb] at this
      exact (Option.some.inj this).symm
     have e2:s.data.toList.drop k=(s.data.toList.drop fr).drop (k - fr):=by rw [List.drop_drop,show fr+(k - fr)=k by omega]
     show _=_ ++ b :: s.data.toList.drop (k+1)
     rw [← e1,e2,List.take_append_drop]
    show splitL s b=((splS s b k).1 ++ [s.extract fr k]) ++ splitL (s.extract (k+1) s.size) b
    rw [h4,e,split_cons h3]
    simp
  ·rw [if_neg hb]
   rw [hfr]
   refine ⟨by omega,by omega, ?_,h4⟩
   rw [zDz] at h3 ⊢
   rw [show k+1 - fr=(k - fr)+1 by omega,qG (by simp;omega)]
   intro hh
   rcases List.mem_append.1 hh with hh | hh
   ·exact h3 hh
   ·rw [qL,List.getElem_drop] at hh
    have:=zF (l:=s.data.toList) (i:=k) (by omega)
    rw [hg] at this
    have e3:=Option.some.inj this
    apply hb
    rw [e3,hh]
    congr 1
    omega
theorem spl_end (s:ByteArray) (b:UInt8):splitL s b=(splS s b s.size).1 ++ [s.extract (splS s b s.size).2 s.size]:=by
 obtain ⟨h1,h2,h3,h4⟩:=spl_inv s b s.size (zN _)
 rw [split_one h3] at h4
 exact h4
theorem sl9 {s:ByteArray} {a b:Nat} (h1:a≤b) (h2:b≤s.size):sliceA T 9 (.str s) (some (.int .i64 a)) (some (.int .i64 b)) none=some (.str (s.extract a b)):=by
 have:sliceA T 9 (.str s) (some (.int .i64 a)) (some (.int .i64 b)) none=(Go.Av.bnd (some (.int .i64 b)) s.size s.size).bind fun h=>(Go.Av.bnd (some (.int .i64 a)) 0 h).map fun l=>.str (s.extract l h):=rfl
 have e1:Go.Av.bnd (some (.int .i64 (b:Nat))) s.size s.size=some b:=by simp [Go.Av.bnd];omega
 have e2:Go.Av.bnd (some (.int .i64 (a:Nat))) 0 b=some a:=by simp [Go.Av.bnd];omega
 rw [this,e1,zY,e2];rfl
theorem sl9o {s:ByteArray} {a:Nat} (h1:a≤s.size):sliceA T 9 (.str s) (some (.int .i64 a)) none none=some (.str (s.extract a s.size)):=by
 have:sliceA T 9 (.str s) (some (.int .i64 a)) none none=(Go.Av.bnd none s.size s.size).bind fun h=>(Go.Av.bnd (some (.int .i64 a)) 0 h).map fun l=>.str (s.extract l h):=rfl
 have e1:Go.Av.bnd none s.size s.size=some s.size:=by simp [Go.Av.bnd]
 have e2:Go.Av.bnd (some (.int .i64 (a:Nat))) 0 s.size=some a:=by simp [Go.Av.bnd];omega
 rw [this,e1,zY,e2];rfl
end Go.Av.Lx
end
section
set_option maxHeartbeats 4000000
namespace Go.Av.Lx
open Go Go.Av Go.Av.Tb Go.Av.Fx Go.Proofs
theorem eq_u8 (x y:UInt8):decide ((x.toNat:Int)=(y.toNat:Int))=decide (x=y):=decide_eq_decide.2 ⟨fun h=>UInt8.toNat_inj.1 (by omega),fun h=>by rw [h]⟩
theorem rSplit_pc (s:ByteArray) (b:UInt8) (hs:s.size≤100000):PC Tryz.prog 127 [.str s,.int .u8 b.toNat] (.pure (.slice (strs (splitL s b)) (splitL s b).length .unk)):=by
 refine PC.of_frz (AC.run (E_ok _) mix Tryz.func127 m127 rfl rfl rfl (zE rfl) ?_) rfl (by simp [AV.bnd])
 have hin:=spl_inv s b
 simp only [go_sem,zB,zD,zC,reduceIte,reduceCtorEq,zA]
 refine zAs (fun m ts' S' => ∃ k V nt tk,k≤s.size∧m=s.size - k∧(ts'=[(0,.str s),(1,.int .u8 b.toNat),(5,V),(6,.int .i64 ((splS s b k).2:Nat)),(7,.int .i64 (k:Nat))]∨ts'=[(0,.str s),(1,.int .u8 b.toNat),(5,V),(7,.int .i64 (k:Nat)),(6,.int .i64 ((splS s b k).2:Nat))])∧S'=⟨[],nt,tk⟩∧Own (strs (splS s b k).1) (splS s b k).1.length V nt tk) s.size ⟨0,.nilS,0,[],qI _,rfl,.inl rfl,rfl,Own.nil _ _⟩ ?_
 rintro m ts' S' ⟨k,V,nt,tk,hk,rfl,hts,rfl,ho⟩
 obtain ⟨i1,i2,_,_⟩:=hin k hk
 rcases hts with rfl | rfl
 all_goals
  by_cases hlt:k<s.size
  ·have h1:(k:Int)<s.size:=by omega
   have h4:IntKind.i64.wrap ((k:Int)+1)=(k+1:Nat):=wrap64 (by omega)
   have hix:=ix9 hlt
   have hd:=eq_u8 (s.get! k) b
   have hsl:=sl9 (s:=s) i1 hk
   have hst:splS s b (k+1)=if s.get! k=b then ((splS s b k).1 ++ [s.extract (splS s b k).2 k],k+1) else splS s b k:=rfl
   by_cases hb:s.get! k=b
   ·rw [if_pos hb] at hst
    rw [decide_eq_true hb] at hd
    simp only [go_sem,l127_0,zAa,h1,decide_true,hix,hd,hsl,zB,zD,zC,reduceIte,reduceCtorEq,zA]
    refine zCr (lx:=[.str (s.extract (splS s b k).2 k)]) rowStrings ho (by simp) rfl (by decide) rfl (by omega) fun V' tk' g => ?_
    simp only [go_sem,h4,zB,zD,zC,reduceIte,reduceCtorEq,zA]
    refine zAh (s.size - (k+1)) (by omega) ⟨k+1,V',nt+1,tk',hlt,rfl,by rw [hst];first | exact .inl rfl | exact .inr rfl,rfl, ?_⟩
    rw [hst]
    have:=g.own
    rw [show strs (splS s b k).1 ++ [AV.str (s.extract (splS s b k).2 k)]=strs ((splS s b k).1 ++ [s.extract (splS s b k).2 k]) by simp [strs]] at this
    rw [qE,List.length_singleton]
    exact this
   ·rw [if_neg hb] at hst
    rw [decide_eq_false hb] at hd
    simp only [go_sem,l127_0,zAa,h1,decide_true,hix,hd,h4,zB,zD,zC,reduceIte,reduceCtorEq,zA]
    exact zAh (s.size - (k+1)) (by omega) ⟨k+1,V,nt,tk,hlt,rfl,by rw [hst];first | exact .inl rfl | exact .inr rfl,rfl,by rw [hst];exact ho⟩
  ·have h1:¬ (k:Int)<s.size:=by omega
   have ek:k=s.size:=by omega
   subst ek
   have hsl:=sl9o (s:=s) i1
   simp only [go_sem,l127_0,zAa,h1,decide_false,hsl,zB,zD,zC,reduceIte,reduceCtorEq,zA]
   refine zCr (lx:=[.str (s.extract (splS s b s.size).2 s.size)]) rowStrings ho (by simp) rfl (by decide) rfl (by omega) fun V' tk' g => ?_
   simp only [go_sem,Tryz.f127,zB,zD,zC,reduceIte,reduceCtorEq,zA]
   refine ⟨_,rfl, ?_⟩
   rw [spl_end]
   have:=g.own.frz []
   rw [show strs (splS s b s.size).1 ++ [AV.str (s.extract (splS s b s.size).2 s.size)]=strs ((splS s b s.size).1 ++ [s.extract (splS s b s.size).2 s.size]) by simp [strs]] at this
   rw [qE,List.length_singleton]
   exact this
end Go.Av.Lx
end
section
set_option maxHeartbeats 8000000
namespace Go.Av.Lx
open Go Go.Av Go.Av.Tb Go.Av.Fx Go.Proofs
open Go.Lv (Sight Survey Sw Sv SightOk)
open Go.Fw (Sq ent Bd Mat)
def bOk (w:ByteArray):Bool:=decide ((bodyW w).size≠0) && decide ((bodyW w).size≤4) && digs (bodyW w) (bodyW w).size
def numV (w:ByteArray):Int:=if bOk w=true then valW w else 0
theorem okW_eq (w:ByteArray):okW w=(bOk w && decide (itoaB (valW w)=w)):=rfl
theorem num_bad {w:ByteArray} (h:bOk w=false):numV w=0∧okW w=false:=by
 unfold numV;rw [okW_eq,h];exact ⟨rfl,rfl⟩
theorem num_good {w:ByteArray} (h:bOk w=true):numV w=valW w∧okW w=decide (itoaB (valW w)=w):=by
 unfold numV;rw [okW_eq,h,if_pos rfl];exact ⟨rfl,by simp⟩
@[go_sem] theorem cu_ui (n:Int):convA T 5 3 (.int .u8 n)=some (.int .i64 (IntKind.i64.wrap n)):=rfl
theorem num_rest (w d:ByteArray) (hs:w.size≤10000) (hd:bodyW w=d) (hsz:d.size=if negW w=true then w.size - 1 else w.size) (hz:negW w=true→0<w.size) (Q:AQ)
  (hQ:Q .ret [(4,.int .i64 (numV w)),(5,.bool (okW w))] ⟨[],0,[]⟩) :
  ∀ ts:TS,(ts=[(0,.str w),(1,.int .i64 4),(6,.str d)]∨ts=[(0,.str w),(1,.int .i64 4),(6,.str d),(17,.bool false)])→WC (E 65) (.seq (.seq (.region [0,6,28] r168_4) (.cond (.tmp 28) (.seq (.region [4,5] r168_5) .ret) .skip)) (.seq (.region [0,6,7] r168_6) (.seq (.seq (.region [0,6,7,8] r168_7) (.block 0 (.loop l168_0))) (.seq (.seq (.region [0,7,57] r168_13) (.cond (.tmp 57) (.region [0,7] r168_14) .skip)) (.seq (.region [4,5] r168_15) .ret))))) Q ts ⟨[],0,[]⟩:=by
 have ebk:bOk w=(decide (d.size≠0) && decide (d.size≤4) && digs d d.size):=by rw [← hd];rfl
 have evs:valW w=if negW w=true then -decP d d.size else decP d d.size:=by rw [← hd];rfl
 intro ts hts
 rcases hts with rfl | rfl
 all_goals
  by_cases c1:d.size=0
  ·have c1':(d.size:Int)=0:=by omega
   obtain ⟨b1,b2⟩:=num_bad (w:=w) (by rw [ebk,decide_eq_false (p:=d.size≠0) (fun h=>h c1)];rfl)
   rw [b1,b2] at hQ
   simp only [go_sem,zAa,c1',decide_true,zB,zD,zC,reduceIte,reduceCtorEq,zA]
   exact hQ
  have c1':¬ (d.size:Int)=0:=by omega
  by_cases c2:d.size≤4
  rotate_left
  ·have c2':(d.size:Int) > 4:=by omega
   obtain ⟨b1,b2⟩:=num_bad (w:=w) (by rw [ebk,decide_eq_false c2];simp)
   rw [b1,b2] at hQ
   simp only [go_sem,zAa,c1',c2',decide_true,decide_false,zB,zD,zC,reduceIte,reduceCtorEq,zA]
   exact hQ
  have c2':¬ (d.size:Int) > 4:=by omega
  rw [decide_eq_true (p:=d.size≠0) c1,decide_eq_true c2,zJ,qU] at ebk
  simp only [go_sem,zAa,c1',c2',decide_false,zB,zD,zC,reduceIte,reduceCtorEq,zA]
  refine zBj d.size (fun j=>digs d j=true) (fun j=>[(0,.str w),(6,.str d),(7,.int .i64 (decP d j)),(8,.int .i64 (j:Nat))]) (fun _=>⟨[],0,[]⟩) rfl rfl rfl ?_
  intro j hj hD I hI
  by_cases h':j<d.size
  ·have h1:(j:Int)<d.size:=by omega
   have h3:=ix9 h'
   have h4:IntKind.i64.wrap ((j:Int)+1)=(j+1:Nat):=wrap64 (by omega)
   have bad:isD (d.get! j)=false→bOk w=false:=fun hb=>by
    rw [ebk]
    unfold digs
    rw [List.all_eq_false]
    exact ⟨j,List.mem_range.2 h',by rw [hb];decide⟩
   by_cases k1:((d.get! j).toNat:Int)<48
   ·obtain ⟨b1,b2⟩:=num_bad (bad (by unfold isD;rw [decide_eq_false (by omega)];rfl))
    rw [b1,b2] at hQ
    simp only [go_sem,l168_0,zAa,h1,h3,k1,decide_true,zB,zD,zC,reduceIte,reduceCtorEq,zA]
    exact hQ
   by_cases k2:((d.get! j).toNat:Int) > 57
   ·obtain ⟨b1,b2⟩:=num_bad (bad (by unfold isD;rw [decide_eq_false (p:=(d.get! j).toNat≤57) (by omega),Bool.and_false]))
    rw [b1,b2] at hQ
    simp only [go_sem,l168_0,zAa,h1,h3,k1,k2,decide_true,decide_false,zB,zD,zC,reduceIte,reduceCtorEq,zA]
    exact hQ
   have hdb:=decP_bd hD (by omega)
   have hnx:digs d (j+1)=true:=by
    unfold digs at hD ⊢
    rw [yI,List.all_append,hD]
    simp only [zK,zM,Bool.and_true,qU]
    unfold isD
    rw [decide_eq_true (by omega),decide_eq_true (by omega)];rfl
   have w5:IntKind.i64.wrap (10 * decP d j)=10 * decP d j:=wrap64 (by omega)
   have w6:IntKind.u8.wrap (((d.get! j).toNat:Int) - 48)=((d.get! j).toNat:Int) - 48:=by
    unfold IntKind.wrap;simp [IntKind.signed,IntKind.bits];omega
   have w7:IntKind.i64.wrap (((d.get! j).toNat:Int) - 48)=((d.get! j).toNat:Int) - 48:=wrap64 (by omega)
   have w8:IntKind.i64.wrap (10 * decP d j+(((d.get! j).toNat:Int) - 48))=decP d (j+1):=wrap64 (by omega)
   simp only [go_sem,l168_0,zAa,h1,h3,k1,k2,w5,w6,w7,w8,h4,decide_true,decide_false,zB,zD,zC,reduceIte,reduceCtorEq,zA]
   exact hI h' hnx
  ·have h1:¬ (j:Int)<d.size:=by omega
   have ej:j=d.size:=by omega
   subst ej
   clear hI hj
   have hdb:=decP_bd hD c2
   obtain ⟨b1,b2⟩:=num_good (w:=w) (by rw [ebk,hD])
   rw [b1,b2] at hQ
   have eqs:=eqS
   cases hneg:negW w
   ·rw [hneg,if_neg (by decide)] at evs hsz
    have z1:¬ (d.size:Int)<w.size:=by omega
    rw [evs] at hQ
    simp only [go_sem,l168_0,zAa,h1,z1,decide_false,zB,zD,zC,reduceIte,reduceCtorEq,zA]
    refine cp n167 (zCk 10000 (decP d d.size) (by omega) ⟨by omega,by omega⟩) (SubL.refl _) ?_
    simp only [go_sem,eqs,zB,zD,zC,reduceIte,reduceCtorEq,zA]
    exact hQ
   ·rw [hneg,if_pos rfl] at evs hsz
    have:=hz hneg
    have z1:(d.size:Int)<w.size:=by omega
    have z2:IntKind.i64.wrap (0 - decP d d.size) = -decP d d.size:=by rw [wrap64 (by omega)];omega
    rw [evs] at hQ
    simp only [go_sem,l168_0,zAa,h1,z1,unA,z2,decide_false,decide_true,zB,zD,zC,reduceIte,reduceCtorEq,zA]
    refine cp n167 (zCk 10000 (-decP d d.size) (by omega) ⟨by omega,by omega⟩) (SubL.refl _) ?_
    simp only [go_sem,eqs,zB,zD,zC,reduceIte,reduceCtorEq,zA]
    exact hQ
theorem rNumber_pc (w:ByteArray) (hs:w.size≤10000):PC Tryz.prog 168 [.str w,.int .i64 4] (.pure (.tuple [.int .i64 (numV w),.bool (okW w)])):=by
 refine PC.of_empty (AC.run (E_ok _) mix Tryz.func168 m168 rfl rfl rfl (zE rfl) ?_) (by simp [bndL,AV.bnd]) rfl
 obtain ⟨TL,hTL⟩:∃ TL,MC.seq (.seq (.region [0,6,28] r168_4) (.cond (.tmp 28) (.seq (.region [4,5] r168_5) .ret) .skip)) (.seq (.region [0,6,7] r168_6) (.seq (.seq (.region [0,6,7,8] r168_7) (.block 0 (.loop l168_0))) (.seq (.seq (.region [0,7,57] r168_13) (.cond (.tmp 57) (.region [0,7] r168_14) .skip)) (.seq (.region [4,5] r168_15) .ret))))=TL:=⟨_,rfl⟩
 unfold c168
 rw [hTL]
 have eb:bodyW w=if negW w=true then w.extract 1 w.size else w:=rfl
 have en:negW w=(decide (0<w.size) && decide ((w.get! 0).toNat=45)):=rfl
 have hsz:(bodyW w).size=if negW w=true then w.size - 1 else w.size:=by
  rw [eb];split
  ·rw [ByteArray.size_extract];omega
  ·rfl
 have hz:negW w=true→0<w.size:=fun h=>by
  rw [en,zR,decide_eq_true_iff] at h;exact h.1
 by_cases z:w.size=0
 ·have z':¬ (w.size:Int) > 0:=by omega
  have hneg:negW w=false:=by rw [en,decide_eq_false (by omega)];rfl
  rw [hneg,if_neg (by decide)] at eb
  simp only [go_sem,zAa,z',decide_false,zB,zD,zC,reduceIte,reduceCtorEq,zA]
  subst hTL
  refine num_rest w w hs eb (by rw [hneg];rfl) hz _ ?_ _ (.inr rfl)
  simp only [go_sem,Tryz.f168,zB,zD,zC,reduceIte,reduceCtorEq,zA]
 have z':(w.size:Int) > 0:=by omega
 have i0:=ix9 (s:=w) (k:=0) (by omega)
 rw [show (((0:Nat)):Int)=0 from rfl] at i0
 cases hneg:negW w
 ·rw [en,decide_eq_true (by omega),qU,decide_eq_false_iff_not] at hneg
  have d0:decide (((w.get! 0).toNat:Int)=45)=false:=decide_eq_false (by omega)
  have hneg:negW w=false:=by rw [en,decide_eq_false hneg,Bool.and_false]
  rw [hneg,if_neg (by decide)] at eb
  simp only [go_sem,zAa,z',decide_true,i0,d0,zB,zD,zC,reduceIte,reduceCtorEq,zA]
  subst hTL
  refine num_rest w w hs eb (by rw [hneg];rfl) hz _ ?_ _ (.inr rfl)
  simp only [go_sem,Tryz.f168,zB,zD,zC,reduceIte,reduceCtorEq,zA]
 ·rw [en,decide_eq_true (by omega),qU,decide_eq_true_iff] at hneg
  have d0:decide (((w.get! 0).toNat:Int)=45)=true:=decide_eq_true (by omega)
  have hneg:negW w=true:=by rw [en,decide_eq_true hneg,decide_eq_true (by omega)];rfl
  have tl:=fun Q hQ=>num_rest w _ hs rfl hsz hz Q hQ _ (.inl rfl)
  rw [hneg,if_pos rfl] at eb
  rw [eb] at tl
  have s1:=sl9o (s:=w) (a:=1) (by omega)
  rw [show (((1:Nat)):Int)=1 from rfl] at s1
  simp only [go_sem,zAa,z',decide_true,i0,d0,s1,zB,zD,zC,reduceIte,reduceCtorEq,zA]
  subst hTL
  refine tl _ ?_
  simp only [go_sem,Tryz.f168,zB,zD,zC,reduceIte,reduceCtorEq,zA]
theorem rNums_yes:∀ {W:List ByteArray},(∀ w∈W,okW w=true)→rNums W=some (W.map valW)
 | [],_=>rfl
 | w :: W,h=>by
  show (rNum w).bind _=_
  unfold rNum
  rw [if_pos (h w zO),zY,rNums_yes fun x hx=>h x (zQ _ hx)]
  rfl
theorem rNums_no:∀ {W:List ByteArray} {w:ByteArray},w∈W→okW w=false→rNums W=none
 | x :: W,w,hw,h=>by
  show (rNum x).bind _=_
  unfold rNum
  rcases List.mem_cons.1 hw with rfl | hw
  ·rw [h];rfl
  ·split
   ·rw [zY,rNums_no hw h];rfl
   ·rfl
def numsA (W:List ByteArray):AV:=match rNums W with
 | some ns=>.tuple [sl ns,.bool true]
 | none=>.tuple [sl [],.bool false]
theorem numsA_bnd (W:List ByteArray):(numsA W).bnd 0 0=true:=by
 unfold numsA
 split <;> simp [bndL,AV.bnd]
theorem rNumbers_pc (W:List ByteArray) (hW:W.length≤10000) (hs:∀ w∈W,w.size≤10000):PC Tryz.prog 128 [.slice (strs W) W.length .unk,.int .i64 4] (.pure (numsA W)):=by
 refine PC.of_frz (AC.run (E_ok _) mix Tryz.func128 m128 rfl rfl rfl (zE rfl) ?_) (by simp [bndL,AV.bnd]) (numsA_bnd W)
 simp only [go_sem,zB,zD,zC,reduceIte,reduceCtorEq,zA]
 refine zAs (fun m ts' S' => ∃ k V nt tk,k≤W.length∧m=W.length - k∧ts'=[(0,.slice (strs W) W.length .unk),(1,.int .i64 4),(6,V),(7,.int .i64 (k:Nat))]∧S'=⟨[],nt,tk⟩∧Own (ints ((W.take k).map valW)) ((W.take k).map valW).length V nt tk ∧ ∀ w∈W.take k,okW w=true) W.length ⟨0,.nilS,0,[],qI _,rfl,rfl,rfl,Own.nil _ _,fun w hw=>by simp at hw⟩ ?_
 rintro m ts' S' ⟨k,V,nt,tk,hk,rfl,rfl,rfl,ho,hP⟩
 by_cases h':k<W.length
 ·have h1:(k:Int)<W.length:=by omega
  have h2:0≤(k:Int)∧(k:Int)<W.length:=by omega
  have h3:W[k]? = some W[k]:=zF h'
  have h4:IntKind.i64.wrap ((k:Int)+1)=(k+1:Nat):=wrap64 (by omega)
  have hN:=rNumber_pc W[k] (hs _ (qA h'))
  have elen:((W.take k).map valW).length=k:=by simp;omega
  simp only [go_sem,l128_0,zAa,h1,decide_true,h2,zBg,h3,zV,zAg,zB,zD,zC,reduceIte,reduceCtorEq,zA]
  refine cp n168 hN (SubL.refl _) ?_
  cases hok:okW W[k]
  ·have hno:=rNums_no (qA h') hok
   unfold numsA
   rw [hno]
   simp only [go_sem,zAc,zAi,qF,Tryz.f128,zB,zD,zC,reduceIte,reduceCtorEq,zA]
   exact ⟨_,rfl,Frz.two .nil (.same _)⟩
  ·have hb:bOk W[k]=true:=by
    rw [okW_eq,zR] at hok;exact hok.1
   rw [(num_good hb).1]
   have e5:ints ((W.take (k+1)).map valW)=ints ((W.take k).map valW) ++ [.int .i64 (valW W[k])]:=by rw [qG h',qP];unfold ints;rw [qP];rfl
   simp only [go_sem,zAc,zAi,zX,zAa,zB,zD,zC,reduceIte,reduceCtorEq,zA]
   refine zCr (lx:=[.int .i64 (valW W[k])]) rowInts ho (by simp [ints]) rfl (by decide) rfl (by omega) fun W' tk' g => ?_
   simp only [go_sem,h4,zB,zD,zC,reduceIte,reduceCtorEq,zA]
   refine zAh (W.length - (k+1)) (by omega) ⟨k+1,W',nt+1,tk',h',rfl,rfl,rfl, ?_,fun w hw => ?_⟩
   ·have:=g.own
    rw [← e5] at this
    have e6:((W.take (k+1)).map valW).length=((W.take k).map valW).length+1:=by simp;omega
    rw [e6];exact this
   ·rw [qG h'] at hw
    rcases List.mem_append.1 hw with hw | hw
    ·exact hP w hw
    ·rw [qL] at hw;subst hw;exact hok
 ·have h1:¬ (k:Int)<W.length:=by omega
  have ek:k=W.length:=by omega
  subst ek
  rw [qY] at *
  unfold numsA
  rw [rNums_yes hP]
  simp only [go_sem,l128_0,zAa,h1,decide_false,Tryz.f128,zB,zD,zC,reduceIte,reduceCtorEq,zA]
  exact ⟨_,rfl,Frz.two (ho.frz _) (.same _)⟩
end Go.Av.Lx
end

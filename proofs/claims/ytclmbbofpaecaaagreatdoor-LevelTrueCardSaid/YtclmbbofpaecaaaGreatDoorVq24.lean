/- Part 24 of the proof. -/
import Derived.Test.YtclmbbofpaecaaaGreatDoorVq23
set_option linter.all false
set_option linter.unusedVariables false
set_option linter.unusedSimpArgs false
set_option linter.unusedSectionVars false
open Bool renaming and_self → zJ, and_eq_true → zT, not_true → zY, not_false → qD, false_and → qR, true_and → yN
open ByteArray renaming size_append → qH
open Int renaming mul_nonneg → yE, tdiv_eq_ediv_of_nonneg → yF, tmod_eq_emod_of_nonneg → yG
open List renaming getElem?_eq_getElem → zF, getD_eq_getElem?_getD → zG, set_cons_succ → zH, set_cons_zero → zI, all_cons → zL, all_nil → zO, mem_cons_self → zP, mem_cons_of_mem → zR, length_cons → zV, getElem_mem → qB, length_append → qC, take_succ_eq_append_getElem → qL, map_append → qS, not_mem_nil → qX, mem_cons → yI, take_length → yM, mem_singleton → yO
open Nat renaming reduceLeDiff → zA, reduceEqDiff → zB, reduceAdd → zC, reduceBEq → zD, le_of_ble_eq_true → zE, le_refl → zN, zero_le → qG, mul_one → yH
open Option renaming map_some → zW, bind_some → qT
section
set_option maxHeartbeats 2000000
namespace Go.Av.Lx
open Go Go.Av Go.Av.Tb Go.Av.Fx Go.Proofs
open Go.Lv (Sight Survey Sw Sv SightOk)
theorem addS {a b:ByteArray} (h:a.size+b.size≤4611686018427387904):binA T .add 9 (.str a) (.str b)=some (.str (a ++ b)):=by
 show (if a.size+b.size≤4611686018427387904 then some (AV.str (a ++ b)) else none)=_
 rw [if_pos h]
@[go_sem] theorem tas_ii (v:AV):zAw T (.iface 3 v) 3 true=some (.tuple [v,.bool true]):=rfl
@[go_sem] theorem tas_si (v:AV):zAw T (.iface 85 v) 3 true=some (.tuple [.int .i64 0,.bool false]):=rfl
@[go_sem] theorem tas_ss (v:AV):zAw T (.iface 85 v) 85 true=some (.tuple [v,.bool true]):=rfl
@[go_sem] theorem bs_int4 (a b c d:Int):zAe T 32 4 [(0,.int .i64 a),(1,.int .i64 b),(2,.int .i64 c),(3,.int .i64 d)]=some (.slice [.int .i64 a,.int .i64 b,.int .i64 c,.int .i64 d] 4 .exact):=rfl
theorem words_pc:PC Tryz.prog 179 [] (.pure (.agg [.str (wordB 0),.str (wordB 1)])):=by
 refine PC.of_empty (AC.run (E_ok _) mix Tryz.func179 m179 rfl rfl rfl (zE rfl) ?_) rfl rfl
 have hb:buildA T 228 [(0,AV.str ⟨#[115,117,114,118,101,121]⟩),(1,AV.str ⟨#[115,105,103,104,116]⟩)]=some (.agg [.str (wordB 0),.str (wordB 1)]):=by rfl
 simp only [go_sem,hb,zAd,AV.cells,AV.one,zL,zO,zJ,splice,zI,zH,and_self,Tryz.f179,zB,zD,zC,reduceIte,reduceCtorEq,zA]
 all_goals rfl
theorem row_loop (kk:Nat) (ns:List Int) (hn:ns.length≤4) (h:∀ n∈ns,i64 n) (H:List (Option Blk)) (Q:AQ)
  (hQ:Q (.exit 1) [(7,.str (rowB kk ns)),(31,.slice (ints ns) ns.length .exact),(32,.int .i64 ns.length),(33,.int .i64 ns.length),(34,.bool false)] ⟨H,0,[]⟩) :
  WC (E 44) (.loop l161_0) Q [(7,.str (wordB kk)),(31,.slice (ints ns) ns.length .exact),(32,.int .i64 ns.length),(33,.int .i64 0)] ⟨H,0,[]⟩:=by
 refine zDy ns.length (fun k=>[(7,.str (rowN (wordB kk) (ns.take k))),(31,.slice (ints ns) ns.length .exact),(32,.int .i64 ns.length),(33,.int .i64 k)]) (fun _=>⟨H,0,[]⟩) rfl rfl ?_
 intro k hk I hI
 by_cases h':k<ns.length
 ·have h1:(k:Int)<ns.length:=by omega
  have h2:0≤(k:Int)∧(k:Int)<ns.length:=by omega
  have h3:ns[k]? = some ns[k]:=zF h'
  have h4:IntKind.i64.wrap ((k:Int)+1)=(k+1:Nat):=wrap64 (by omega)
  have hm:=h _ (qB h')
  have h5:=zAz hm
  have h6:=zEy (ns.take k) (wordB kk) fun m hm=>h m (List.mem_of_mem_take hm)
  have h7:=wordB_size kk
  have h8:(ns.take k).length≤4:=by simp;omega
  have h9:sp.size+(itoaB ns[k]).size≤4611686018427387904:=by show 1+_≤_;omega
  have h10:(rowN (wordB kk) (ns.take k)).size+(sp ++ itoaB ns[k]).size≤4611686018427387904:=by rw [qH];show _+(1+_)≤_;omega
  simp only [go_sem,l161_0,zAa,h1,decide_true,h2,ints_get,h3,zAh,zW,zB,zD,zC,reduceIte,reduceCtorEq,zA]
  refine cp n162 (Itoa_pc _ hm.1 hm.2) (SubL.refl _) ?_
  have h11:binA T .add 9 (.str ⟨#[32]⟩) (.str (itoaB ns[k]))=some (.str (sp ++ itoaB ns[k])):=addS h9
  have h12:=addS h10
  simp only [go_sem,h11,h12,h4,zB,zD,zC,reduceIte,reduceCtorEq,zA]
  have:=hI h'
  rw [rowN_take _ _ _ h'] at this
  exact this
 ·have h1:¬ (k:Int)<ns.length:=by omega
  have e:k=ns.length:=by omega
  subst e
  simp only [go_sem,l161_0,zAa,h1,decide_false,yM,zB,zD,zC,reduceIte,reduceCtorEq,zA]
  exact hQ
theorem rowI_pc (n:Int) (h:i64 n):PC Tryz.prog 161 [.iface 3 (.int .i64 n)] (.pure (.str (rowB 0 [n]))):=by
 refine PC.of_empty (AC.run (E_ok _) mix Tryz.func161 m161 rfl rfl rfl (zE rfl) ?_) (by simp [bndL,AV.bnd]) rfl
 have hi:indexA T 228 (.agg [.str (wordB 0),.str (wordB 1)]) (.int .i64 0)=some (.str (wordB 0)):=rfl
 simp only [go_sem,zAc,zB,zD,zC,reduceIte,reduceCtorEq,zA]
 refine cp n179 words_pc (SubL.refl _) ?_
 simp only [go_sem,hi,zAa,zB,zD,zC,reduceIte,reduceCtorEq,zA]
 refine row_loop 0 [n] (zE rfl) (fun m hm=>by rw [yO] at hm;subst hm;exact h) _ _ ?_
 simp only [go_sem,Tryz.f161,zB,zD,zC,reduceIte,reduceCtorEq,zA]
theorem rowS_pc (x:Sight) (h:∀ n∈nsS x,i64 n):PC Tryz.prog 161 [.iface 85 (.agg (sgtC x))] (.pure (.str (rowB 1 (nsS x)))):=by
 refine PC.of_empty (AC.run (E_ok _) mix Tryz.func161 m161 rfl rfl rfl (zE rfl) ?_) (by simp [bndL,AV.bnd]) rfl
 have hi:indexA T 228 (.agg [.str (wordB 0),.str (wordB 1)]) (.int .i64 1)=some (.str (wordB 1)):=rfl
 simp only [go_sem,zAc,zAd,AV.cells,AV.one,zL,zO,zJ,splice,zI,zH,and_self,zB,zD,zC,reduceIte,reduceCtorEq,zA]
 refine cp n179 words_pc (SubL.refl _) ?_
 simp only [go_sem,hi,zAa,zB,zD,zC,reduceIte,reduceCtorEq,zA]
 refine row_loop 1 (nsS x) (zN _) h _ _ ?_
 simp only [go_sem,Tryz.f161,zB,zD,zC,reduceIte,reduceCtorEq,zA]
set_option maxHeartbeats 4000000
def strs (l:List ByteArray):List AV:=l.map .str
@[simp] theorem strs_len (l:List ByteArray):(strs l).length=l.length:=by simp [strs]
@[simp] theorem zCr (l:List ByteArray) (i:Nat):(strs l)[i]? = (l[i]?).map .str:=by simp [strs]
@[simp] theorem strs_bnd (n k:Nat) (l:List ByteArray):bndL n k (strs l)=true:=bndL_map _ (fun _=>rfl) l
@[go_sem] theorem bs_str1 (a:ByteArray):zAe T 171 1 [(0,.str a)]=some (.slice [.str a] 1 .exact):=rfl
@[go_sem] theorem isIface_int (k:IntKind):isIface (.int k)=false:=rfl
@[go_sem] theorem d_lsgt:descOf T 85=some ti85.desc:=rfl
@[go_sem] theorem i_lsgt:isIface ti85.desc=false:=rfl
theorem sr_str {K:AV→St→Prop} {hK:Hold K} {h:List (Option Blk)} {k n:Nat} {l:List ByteArray} (x:ByteArray) (hn:l.length=n) (h7:n≤1000000)
  (next:K (.slice (strs (l ++ [x])) (n+1) (tailN (k+1))) ⟨h,k+1,toksN (k+1)⟩):sr K hK (appendA T ⟨h,k,toksN k⟩ 171 (.slice (strs l) n (tailN k)) (.slice [.str x] 1 .exact)) ⟨h,k,toksN k⟩:=by
 subst hn
 have e:strs (l ++ [x])=strs l ++ [.str x]:=by simp [strs]
 rw [e] at next
 rw [zCs (e:=9) (ei:=ti9) (lx:=[.str x]) (nx:=1) rfl rfl (by decide) (by simp [heldA,ti9]) (by decide) rfl (by show (l.length+1) * 16≤_;omega) (by omega) (by simp [ti9])]
 cases k with
 | zero=>rw [tailN,sr_tok];exact next
 | succ k =>
  rw [tailN,zBu]
  refine ⟨zP, ?_⟩
  have:killTok (toksN (k+1)) (some k)=[]:=by simp [killTok,toksN]
  show K (.slice (strs l ++ [.str x]) (l.length+1) (.tok (k+1))) ⟨h,k+1+1,(k+1) :: killTok (toksN (k+1)) (some k)⟩
  rw [this];exact next
def headR (s:Survey):ByteArray:=rowB 0 [s.stations]
def sgR (s:Survey) (k:Nat):List ByteArray:=(s.sights.take k).map fun x=>rowB 1 (nsS x)
theorem sgR_succ (s:Survey) (k:Nat) (h:k<s.sights.length):sgR s (k+1)=sgR s k ++ [rowB 1 (nsS s.sights[k])]:=by
 unfold sgR;rw [qL h,qS];rfl
theorem sgR_len (s:Survey) (k:Nat) (h:k≤s.sights.length):(sgR s k).length=k:=by simp [sgR];omega
theorem rowsL_eq (s:Survey):rowsL s=headR s :: sgR s s.sights.length:=by simp [rowsL,headR,sgR]
structure PlainS (s:Survey):Prop where
 many:s.sights.length≤1000
 head:i64 s.stations
 each:∀ x∈s.sights,∀ n∈nsS x,i64 n
theorem PlainS.rows {s:Survey} (h:PlainS s):∀ r∈rowsL s,r.size≤100:=by
 have key:∀ k ns,ns.length≤4→(∀ n∈ns,i64 n)→(rowB k ns).size≤100:=by
  intro k ns h1 h2
  have a:=zEy ns (wordB k) h2
  have b:=wordB_size k
  show (rowN (wordB k) ns).size≤_
  omega
 intro r hr
 simp only [rowsL,yI,List.mem_map] at hr
 rcases hr with rfl | ⟨x,hx,rfl⟩
 ·exact key _ _ (by simp) fun m hm=>by rw [yO] at hm;subst hm;exact h.head
 ·exact key _ _ (zN _) (h.each x hx)
theorem Sv.plain {s:Survey} (h:Sv s):PlainS s where
 many:=by have:=h.many;omega
 head:=by have:=h.st;exact ⟨by omega,by omega⟩
 each:=fun x hx n hn=>by
  have hs:=h.sights x hx
  have h1:=hs.frm;have h2:=hs.to;have h3:=hs.rise;have h4:=hs.off;have:=h.st
  simp only [nsS,yI,qX,or_false] at hn
  rcases hn with rfl | rfl | rfl | rfl <;> exact ⟨by omega,by omega⟩
theorem text_row (r:ByteArray) (hr:r.size≤100) (C:Int) (hC:0≤C∧C≤22950000000000) (i:Nat) (hi:i<3000) (A B N J:AV) (H:List (Option Blk)) (m:Nat) (Q:AQ)
  (hQ:∀ k:Int,Q (.exit 4) [(3,A),(6,.int .i64 (C+rs r r.size * (i+1:Nat))),(29,B),(30,N),(31,J),(7,.int .i64 i),(8,.str r),(37,.int .i64 r.size),(38,.int .i64 k),(39,.bool false)] ⟨H,m,toksN m⟩) :
  WC (E 76) (.loop l122_2) Q [(3,A),(6,.int .i64 C),(29,B),(30,N),(31,J),(7,.int .i64 i),(8,.str r),(37,.int .i64 r.size),(38,.int .i64 0)] ⟨H,m,toksN m⟩:=by
 refine zDy r.size (fun k=>[(3,A),(6,.int .i64 (C+rs r k * (i+1:Nat))),(29,B),(30,N),(31,J),(7,.int .i64 i),(8,.str r),(37,.int .i64 r.size),(38,.int .i64 k)]) (fun _=>⟨H,m,toksN m⟩) (by simp only [rs,Int.zero_mul,Int.add_zero];rfl) rfl ?_
 intro k hk I2 hI2
 by_cases h'':k<r.size
 ·have g1:(k:Int)<r.size:=by omega
  have g4:IntKind.i64.wrap ((k:Int)+1)=(k+1:Nat):=wrap64 (by omega)
  have h4:IntKind.i64.wrap ((i:Int)+1)=(i+1:Nat):=wrap64 (by omega)
  have hbt:r[k]? = some r[k]:=by simp [h'']
  have hB:r[k].toNat≤255:=Nat.le_of_lt_succ (UInt8.toNat_lt _)
  have hrs:rs r (k+1)=rs r k+(r[k].toNat:Int) * (k+1:Nat):=by
   show rs r k+(((r[k]?).getD 0).toNat:Int) * _=_
   rw [hbt];rfl
  have hb2:=rs_bd100 r (k:=k) (by omega)
  have p1:0≤(r[k].toNat:Int) * (k+1:Nat):=yE (by omega) (by omega)
  have p2:(r[k].toNat:Int) * (k+1:Nat)≤255 * (100:Int):=Int.mul_le_mul (by omega) (by omega) (by omega) (by omega)
  have p3:0≤(r[k].toNat:Int) * (k+1:Nat) * (i+1:Nat):=yE p1 (by omega)
  have p4:(r[k].toNat:Int) * (k+1:Nat) * (i+1:Nat)≤25500 * (3000:Int):=Int.mul_le_mul (by omega) (by omega) (by omega) (by omega)
  have p5:0≤rs r k * (i+1:Nat):=yE hb2.1 (by omega)
  have p6:rs r k * (i+1:Nat)≤2550000 * (3000:Int):=Int.mul_le_mul hb2.2 (by omega) (by omega) (by omega)
  have w1:IntKind.i64.wrap (r[k].toNat:Int)=r[k].toNat:=wrap64 (by omega)
  have w2:IntKind.i64.wrap ((r[k].toNat:Int) * (k+1:Nat))=(r[k].toNat:Int) * (k+1:Nat):=wrap64 (by omega)
  have w3:IntKind.i64.wrap ((r[k].toNat:Int) * (k+1:Nat) * (i+1:Nat))=(r[k].toNat:Int) * (k+1:Nat) * (i+1:Nat):=wrap64 (by omega)
  have w4:IntKind.i64.wrap (C+rs r k * (i+1:Nat)+(r[k].toNat:Int) * (k+1:Nat) * (i+1:Nat))=C+rs r k * (i+1:Nat)+(r[k].toNat:Int) * (k+1:Nat) * (i+1:Nat):=wrap64 (by omega)
  have hz:0≤(k:Int):=by omega
  simp only [go_sem,l122_2,g1,decide_true,zB,zD,zC,reduceIte,reduceCtorEq,zA]
  simp only [go_sem,hz,hbt,convA,w1,w2,w3,w4,g4,h4,zAh,zB,zD,zC,reduceIte,reduceCtorEq,zA]
  have:=hI2 h''
  rw [hrs,Int.add_mul,← Int.add_assoc] at this
  exact this
 have g1:¬ (k:Int)<r.size:=by omega
 have e:k=r.size:=by omega
 subst e
 simp only [go_sem,l122_2,zAa,g1,decide_false,zB,zD,zC,reduceIte,reduceCtorEq,zA]
 exact hQ _
set_option maxHeartbeats 4000000
theorem joinTail_len (sep:ByteArray):∀ (R:List ByteArray) (n:Nat),(∀ r∈R,r.size≤n)→(Lib.joinTail sep.data.toList (R.map (·.data.toList))).length≤(n+sep.size) * R.length
 | [],n,_=>by simp [Lib.joinTail]
 | a :: R,n,h=>by
  have h1:=joinTail_len sep R n fun r hr=>h r (zR _ hr)
  have h2:a.data.toList.length≤n:=h a zP
  have h3:sep.data.toList.length=sep.size:=rfl
  simp only [Lib.joinTail,List.map_cons,List.flatten_cons,qC,zV,Nat.mul_add,yH] at h1 ⊢
  omega
theorem join_len (sep:ByteArray) (R:List ByteArray) (n:Nat) (h:∀ r∈R,r.size≤n):(Lib.join (R.map (·.data.toList)) sep.data.toList).length≤(n+sep.size) * R.length:=by
 cases R with
 | nil=>simp [Lib.join_nil]
 | cons a R =>
  have h1:=joinTail_len sep R n fun r hr=>h r (zR _ hr)
  have h2:a.data.toList.length≤n:=h a zP
  rw [List.map_cons,Lib.join_cons]
  simp only [qC,zV,Nat.mul_add,yH]
  omega
theorem text_pc (s:Survey) (h:PlainS s):PC Tryz.prog 122 [surA s] (.pure (.str (textB s))):=by
 have hm:=h.many
 refine PC.of_empty (AC.run (E_ok _) mix Tryz.func122 m122 rfl rfl rfl (zE rfl) ?_) (by simp [bndL,AV.bnd]) rfl
 simp only [go_sem,boxA,zB,zD,zC,reduceIte,reduceCtorEq,zA]
 refine cp n161 (rowI_pc s.stations h.head) (SubL.refl _) ?_
 simp only [go_sem,zAa,zB,zD,zC,reduceIte,reduceCtorEq,zA]
 refine wc_forE s.sights.length (fun k=>[(3,.slice (strs (headR s :: sgR s k)) (k+1) (tailN k)),(16,.slice (sgts s.sights) s.sights.length .unk),(17,.int .i64 s.sights.length),(18,.int .i64 (k:Nat))]) (fun k S => ∃ X,S=⟨[some (.cells (surC s))] ++ X,k,toksN k⟩) rfl ⟨[],rfl⟩ ?_
 rintro k hk S ⟨X,rfl⟩ I hI
 have c1:=fun q=>zAf X q
 have c2:=fun x B=>zAs X x B
 by_cases hkl:k<s.sights.length
 ·have k1:(k:Int)<s.sights.length:=by omega
  have k2:0≤(k:Int)∧(k:Int)<s.sights.length:=by omega
  have k3:k * 4+4≤(sgts s.sights).length:=by rw [zBe];omega
  have k4:IntKind.i64.wrap ((k:Int)+1)=(k+1:Nat):=wrap64 (by omega)
  have k5:=zCk s.sights k hkl
  have hp:=rowS_pc s.sights[k] (h.each _ (qB hkl))
  have hI:=hI hkl
  rw [sgR_succ s k hkl] at hI
  have hl:=sgR_len s k hk
  generalize s.sights[k]=x at *
  simp only [go_sem,l122_0,k1,decide_true,k2,k3,k5,zAh,and_self,c1,c2,zAd,AV.cells,AV.one,zL,zO,zJ,splice,zI,zH,zB,zD,zC,reduceIte,reduceCtorEq,zA]
  refine cp n161 hp (SubL.refl _) ?_
  simp only [go_sem,zAa,zB,zD,zC,reduceIte,reduceCtorEq,zA]
  refine sr_str (l:=headR s :: sgR s k) _ (by simp [hl]) (by omega) ?_
  simp only [go_sem,k4,zB,zD,zC,reduceIte,reduceCtorEq,zA]
  exact hI _ ⟨X ++ [some (.cells (sgtC x))],rfl⟩
 have k1:¬ (k:Int)<s.sights.length:=by omega
 have ek:k=s.sights.length:=by omega
 subst ek
 clear hI hk hkl
 have hRl:(rowsL s).length=s.sights.length+1:=by simp [rowsL]
 rw [← rowsL_eq,← hRl]
 have hR:=h.rows
 have hfin:textB s=joinB (rowsL s ++ [endB ((ck (rowsL s) (rowsL s).length).tmod 149)]) lf ++ lf:=rfl
 rw [hfin]
 clear hfin
 generalize s.sights.length=m at *
 generalize hRR:rowsL s=R at *
 obtain ⟨Z,hZ⟩:∃ Z,MC.loop l122_1=Z:=⟨_,rfl⟩
 simp only [go_sem,l122_0,k1,decide_false,zAa,zB,zD,zC,reduceIte,reduceCtorEq,zA]
 refine zDy R.length (fun i=>[(3,.slice (strs R) R.length (tailN m)),(6,.int .i64 (ck R i)),(29,.slice (strs R) R.length (tailN m)),(30,.int .i64 R.length),(31,.int .i64 (i:Nat))]) (fun _=>⟨[some (.cells (surC s))] ++ X,m,toksN m⟩) rfl rfl ?_
 intro i hi I hI
 by_cases h':i<R.length
 ·have h1:(i:Int)<R.length:=by omega
  have h2:0≤(i:Int)∧(i:Int)<R.length:=by omega
  have h3:R[i]? = some R[i]:=zF h'
  have h4:IntKind.i64.wrap ((i:Int)+1)=(i+1:Nat):=wrap64 (by omega)
  have hr:=hR _ (qB h')
  have hck:ck R (i+1)=ck R i+rs R[i] R[i].size * (i+1:Nat):=by
   show ck R i+rs (R.getD i _) (R.getD i _).size * _=_
   rw [zG,h3];rfl
  have hb:=ck_bd hR i (by omega)
  have hI:=hI h'
  rw [hck] at hI
  simp only [go_sem,l122_1,zAa,h1,decide_true,h2,zCr,h3,zAh,zW,zB,zD,zC,reduceIte,reduceCtorEq,zA]
  refine text_row R[i] hr (ck R i) ⟨hb.1,by omega⟩ i (by omega) _ _ _ _ _ m _ fun k => ?_
  simp only [go_sem,h4,zB,zD,zC,reduceIte,reduceCtorEq,zA]
  exact hI
 have h1:¬ (i:Int)<R.length:=by omega
 have e:i=R.length:=by omega
 subst e
 have hb:=ck_bd hR R.length (by omega)
 have hNR:R.length≤1001:=by omega
 generalize ck R R.length=C at *
 have e1:intOp .rem .i64 C 149=some (.int .i64 (C.tmod 149)):=rfl
 have hc0:0≤C.tmod 149:=Int.tmod_nonneg _ hb.1
 have hc1:C.tmod 149<149:=Int.tmod_lt_of_pos _ (by decide)
 generalize C.tmod 149=c at *
 have d1:c.tdiv 100=c / 100:=yF hc0
 have d2:c.tdiv 10=c / 10:=yF hc0
 have d3:(c.tdiv 10).tmod 10=c / 10 % 10:=by rw [d2];exact yG (by omega)
 have d4:c.tmod 10=c % 10:=yG hc0
 have e2:intOp .quo .i64 c 100=some (.int .i64 (c.tdiv 100)):=by
  show some (AV.int .i64 (IntKind.i64.wrap (c.tdiv 100)))=_
  rw [wrap64 (by omega)]
 have e3:intOp .quo .i64 c 10=some (.int .i64 (c.tdiv 10)):=by
  show some (AV.int .i64 (IntKind.i64.wrap (c.tdiv 10)))=_
  rw [wrap64 (by omega)]
 have e4:intOp .rem .i64 (c.tdiv 10) 10=some (.int .i64 ((c.tdiv 10).tmod 10)):=rfl
 have e5:intOp .rem .i64 c 10=some (.int .i64 (c.tmod 10)):=rfl
 have i1:i64 (c.tdiv 100):=⟨by omega,by omega⟩
 have i2:i64 ((c.tdiv 10).tmod 10):=⟨by omega,by omega⟩
 have i3:i64 (c.tmod 10):=⟨by omega,by omega⟩
 have z1:=zAz i1
 have z2:=zAz i2
 have z3:=zAz i3
 have s1:endW.size+(itoaB (c.tdiv 100)).size≤4611686018427387904:=by show 4+_≤_;omega
 have s2:(endW ++ itoaB (c.tdiv 100)).size+(itoaB ((c.tdiv 10).tmod 10)).size≤4611686018427387904:=by rw [qH];show 4+_+_≤_;omega
 have s3:(endW ++ itoaB (c.tdiv 100) ++ itoaB ((c.tdiv 10).tmod 10)).size+(itoaB (c.tmod 10)).size≤4611686018427387904:=by rw [qH,qH];show 4+_+_+_≤_;omega
 have hend:(endB c).size≤100:=by unfold endB;rw [qH,qH,qH];show 4+_+_+_≤_;omega
 have a1:binA T .add 9 (.str ⟨#[101,110,100,32]⟩) (.str (itoaB (c.tdiv 100)))=some (.str (endW ++ itoaB (c.tdiv 100))):=addS s1
 have a2:=addS s2
 have a3:=addS s3
 simp only [go_sem,l122_1,zAa,h1,decide_false,e1,e2,e3,e4,e5,zB,zD,zC,reduceIte,reduceCtorEq,zA]
 refine cp n162 (Itoa_pc _ i1.1 i1.2) (SubL.refl _) ?_
 simp only [go_sem,e1,e2,e3,e4,e5,a1,zB,zD,zC,reduceIte,reduceCtorEq,zA]
 refine cp n162 (Itoa_pc _ i2.1 i2.2) (SubL.refl _) ?_
 simp only [go_sem,e1,e2,e3,e4,e5,a2,zB,zD,zC,reduceIte,reduceCtorEq,zA]
 refine cp n162 (Itoa_pc _ i3.1 i3.2) (SubL.refl _) ?_
 simp only [go_sem,e1,e2,e3,e4,e5,a3,zAa,zB,zD,zC,reduceIte,reduceCtorEq,zA]
 refine sr_str (l:=R) (endB c) rfl (by omega) ?_
 simp only [go_sem,zB,zD,zC,reduceIte,reduceCtorEq,zA]
 have hR2:∀ r∈R ++ [endB c],r.size≤100:=by
  intro r hr
  rcases List.mem_append.1 hr with hr | hr
  ·exact hR r hr
  ·simp at hr;subst hr;exact hend
 have hlen:(R ++ [endB c]).length=R.length+1:=by simp
 have hj:=join_len lf (R ++ [endB c]) 100 hR2
 have hj2:101 * (R ++ [endB c]).length≤101 * 3000:=Nat.mul_le_mul_left _ (by omega)
 have hj3:lf.size=1:=rfl
 rw [hj3] at hj
 have hjp:=Join_pc (R ++ [endB c]) lf (tailN (m+1)) (by omega) (by omega)
 rw [hlen] at hjp
 refine cp n163 hjp (SubL.refl _) ?_
 have hjs:(joinB (R ++ [endB c]) lf).size+lf.size≤4611686018427387904:=by
  have:(joinB (R ++ [endB c]) lf).size=(Lib.join ((R ++ [endB c]).map (·.data.toList)) lf.data.toList).length:=by simp [joinB,ByteArray.size]
  omega
 have a4:binA T .add 9 (.str (joinB (R ++ [endB c]) lf)) (.str ⟨#[10]⟩)=some (.str (joinB (R ++ [endB c]) lf ++ lf)):=addS hjs
 simp only [go_sem,a4,Tryz.f122,zB,zD,zC,reduceIte,reduceCtorEq,zA]
set_option maxHeartbeats 2000000

set_option maxHeartbeats 4000000
@[go_sem] theorem bs93_b (n:Int):zAe T 106 1 [(0,.int .u8 n)]=some (.slice [.int .u8 n] 1 .exact):=rfl
theorem bstr (S:St) (n:Int) (t:Tail):zCc T S 106 9 (.slice [.int .u8 n] 1 t)=some (.pure (.str (strOfNums [n]))):=rfl
theorem itoa_dig {d:Nat} (h:d<10):strOfNums [48+(d:Int)]=⟨#[UInt8.ofNat (48+d)]⟩:=by
 have:∀ d:Nat,d<10→strOfNums [48+(d:Int)]=⟨#[UInt8.ofNat (48+d)]⟩:=by
  intro d hd
  match d,hd with
  | 0,_=>rfl
  | 1,_=>rfl
  | 2,_=>rfl
  | 3,_=>rfl
  | 4,_=>rfl
  | 5,_=>rfl
  | 6,_=>rfl
  | 7,_=>rfl
  | 8,_=>rfl
  | 9,_=>rfl
 exact this d h
theorem itoaB_small {n:Int} (h0:0≤n) (h:n<10):itoaB n=⟨#[UInt8.ofNat (48+n.toNat)]⟩:=by
 unfold itoaB Lib.itoa
 rw [if_neg (by omega),Lib.decDigits_one (by omega)]
theorem itoaB_negsmall {n:Int} (h0:-10<n) (h:n<0):itoaB n=⟨#[45]⟩ ++ ⟨#[UInt8.ofNat (48+(-n).toNat)]⟩:=by
 apply ba_ext
 rw [zCq]
 unfold itoaB Lib.itoa
 rw [if_pos h,Lib.decDigits_one (by omega),show n.natAbs=(-n).toNat by omega];rfl
theorem itoaB_big {n:Int} (h:10≤n):itoaB n=itoaB (n.tdiv 10) ++ ⟨#[UInt8.ofNat (48+(n.tmod 10).toNat)]⟩:=by
 have d2:n.tdiv 10=n / 10:=yF (by omega)
 have d4:n.tmod 10=n % 10:=yG (by omega)
 apply ba_ext
 rw [zCq,d2,d4]
 unfold itoaB Lib.itoa
 rw [if_neg (by omega),if_neg (by omega),Lib.decDigits,dif_neg (by omega),show (n / 10).toNat=n.toNat / 10 by omega,show (n % 10).toNat=n.toNat % 10 by omega]
theorem itoaB_negbig {n:Int} (h:n ≤ -10):itoaB n=itoaB (n.tdiv 10) ++ ⟨#[UInt8.ofNat (48+(-(n.tmod 10)).toNat)]⟩:=by
 have e1:n.tdiv 10 = -((-n) / 10):=by
  have:=Int.neg_tdiv (-n) 10
  rw [Int.neg_neg] at this
  rw [this,yF (by omega)]
 have e2:n.tmod 10 = -((-n) % 10):=by
  have:=Int.neg_tmod (-n) 10
  rw [Int.neg_neg] at this
  rw [this,yG (by omega)]
 apply ba_ext
 rw [zCq,e1,e2,Int.neg_neg]
 unfold itoaB Lib.itoa
 rw [if_pos (by omega),if_pos (by omega),Lib.decDigits,dif_neg (by omega),show (-(-n / 10)).natAbs=n.natAbs / 10 by omega,show (-n % 10).toNat=n.natAbs % 10 by omega]
 simp
@[go_sem] theorem conv35 (n:Int):convA T 3 5 (.int .i64 n)=some (.int .u8 (IntKind.u8.wrap n)):=rfl
@[go_sem] theorem conv939 (l:List AV) (n:Nat) (t:Tail):convA T 106 9 (.slice l n t)=none:=rfl
theorem u8w {n:Int} (h:0≤n∧n≤255):IntKind.u8.wrap n=n:=by rw [IntKind.wrap_u8];omega
theorem zDv:∀ (k:Nat) (n:Int),n.natAbs≤k→i64 n→PC Tryz.prog 167 [.int .i64 n] (.pure (.str (itoaB n))):=by
 intro k
 induction k with
 | zero =>
  intro n hk h
  have e:n=0:=by omega
  subst e
  refine PC.of_empty (AC.run (E_ok _) mix Tryz.func167 m167 rfl rfl rfl (zE rfl) ?_) rfl rfl
  have g1:((0:Int) > -10):=by decide
  have g2:¬ ((0:Int)<0):=by decide
  have g3:((0:Int)<10):=by decide
  have w1:IntKind.i64.wrap 48=48:=by decide
  have w2:IntKind.u8.wrap 48=48:=by decide
  have hs:strOfNums [48]=itoaB 0:=by
   rw [itoaB_small (by decide) (by decide)];rfl
  simp only [go_sem,g1,g2,g3,decide_true,decide_false,w1,w2,bstr,hs,Tryz.f167,zB,zD,zC,reduceIte,reduceCtorEq,zA]
 | succ k ih =>
  intro n hk h
  refine PC.of_empty (AC.run (E_ok _) mix Tryz.func167 m167 rfl rfl rfl (zE rfl) ?_) rfl rfl
  unfold i64 at h
  by_cases hn:n<0
  ·by_cases g1:n > -10
   ·obtain ⟨d,hd⟩:∃ d:Nat,n = -(d:Int):=⟨(-n).toNat,by omega⟩
    have w1:IntKind.i64.wrap (48 - n)=48+(d:Int):=by rw [wrap64 (by omega)];omega
    have w2:IntKind.u8.wrap (48+(d:Int))=48+(d:Int):=u8w (by omega)
    have hs:binA T .add 9 (.str ⟨#[45]⟩) (.str (strOfNums [48+(d:Int)]))=some (.str (itoaB n)):=by
     rw [itoaB_negsmall g1 hn,itoa_dig (by omega),show (-n).toNat=d by omega]
     exact addS (by show 1+1≤_;omega)
    simp only [go_sem,g1,hn,decide_true,w1,w2,bstr,hs,Tryz.f167,zB,zD,zC,reduceIte,reduceCtorEq,zA]
   ·have hb:=itoaB_negbig (n:=n) (by omega)
    have e1:n.tdiv 10 = -((-n) / 10):=by
     have:=Int.neg_tdiv (-n) 10
     rw [Int.neg_neg] at this
     rw [this,yF (by omega)]
    have e2:n.tmod 10 = -((-n) % 10):=by
     have:=Int.neg_tmod (-n) 10
     rw [Int.neg_neg] at this
     rw [this,yG (by omega)]
    obtain ⟨d,hd⟩:∃ d:Nat,-(n.tmod 10)=(d:Int):=⟨(-(n.tmod 10)).toNat,by omega⟩
    have hd10:d<10:=by omega
    have q1:intOp .quo .i64 n 10=some (.int .i64 (n.tdiv 10)):=by
     show some (AV.int .i64 (IntKind.i64.wrap (n.tdiv 10)))=_
     rw [wrap64 (by omega)]
    have q2:intOp .rem .i64 n 10=some (.int .i64 (n.tmod 10)):=rfl
    have w1:IntKind.i64.wrap (48 - n.tmod 10)=48+(d:Int):=by rw [wrap64 (by omega)];omega
    have w2:IntKind.u8.wrap (48+(d:Int))=48+(d:Int):=u8w (by omega)
    have hI:i64 (n.tdiv 10):=⟨by omega,by omega⟩
    have hsz:=zAz hI
    have hs:binA T .add 9 (.str (itoaB (n.tdiv 10))) (.str (strOfNums [48+(d:Int)]))=some (.str (itoaB n)):=by
     rw [hb,itoa_dig hd10,show (-(n.tmod 10)).toNat=d by omega]
     exact addS (by show _+1≤_;omega)
    have hrec:=ih (n.tdiv 10) (by omega) hI
    simp only [go_sem,g1,hn,decide_true,decide_false,q1,q2,zB,zD,zC,reduceIte,reduceCtorEq,zA]
    refine qp n167 hrec (SubL.refl _) ?_
    simp only [go_sem,q1,q2,w1,w2,bstr,hs,Tryz.f167,zB,zD,zC,reduceIte,reduceCtorEq,zA]
  ·have g1:n > -10:=by omega
   by_cases g3:n<10
   ·obtain ⟨d,hd⟩:∃ d:Nat,n=(d:Int):=⟨n.toNat,by omega⟩
    have w1:IntKind.i64.wrap (48+n)=48+(d:Int):=by rw [wrap64 (by omega)];omega
    have w2:IntKind.u8.wrap (48+(d:Int))=48+(d:Int):=u8w (by omega)
    have hs:strOfNums [48+(d:Int)]=itoaB n:=by
     rw [itoaB_small (by omega) g3,itoa_dig (by omega),show n.toNat=d by omega]
    simp only [go_sem,g1,hn,g3,decide_true,decide_false,w1,w2,bstr,hs,Tryz.f167,zB,zD,zC,reduceIte,reduceCtorEq,zA]
   ·have hb:=itoaB_big (n:=n) (by omega)
    have e1:n.tdiv 10=n / 10:=yF (by omega)
    have e2:n.tmod 10=n % 10:=yG (by omega)
    obtain ⟨d,hd⟩:∃ d:Nat,n.tmod 10=(d:Int):=⟨(n.tmod 10).toNat,by omega⟩
    have hd10:d<10:=by omega
    have q1:intOp .quo .i64 n 10=some (.int .i64 (n.tdiv 10)):=by
     show some (AV.int .i64 (IntKind.i64.wrap (n.tdiv 10)))=_
     rw [wrap64 (by omega)]
    have q2:intOp .rem .i64 n 10=some (.int .i64 (n.tmod 10)):=rfl
    have w1:IntKind.i64.wrap (48+n.tmod 10)=48+(d:Int):=by rw [wrap64 (by omega)];omega
    have w2:IntKind.u8.wrap (48+(d:Int))=48+(d:Int):=u8w (by omega)
    have hI:i64 (n.tdiv 10):=⟨by omega,by omega⟩
    have hsz:=zAz hI
    have hs:binA T .add 9 (.str (itoaB (n.tdiv 10))) (.str (strOfNums [48+(d:Int)]))=some (.str (itoaB n)):=by
     rw [hb,itoa_dig hd10,show (n.tmod 10).toNat=d by omega]
     exact addS (by show _+1≤_;omega)
    have hrec:=ih (n.tdiv 10) (by omega) hI
    simp only [go_sem,g1,hn,g3,decide_true,decide_false,q1,q2,zB,zD,zC,reduceIte,reduceCtorEq,zA]
    refine qp n167 hrec (SubL.refl _) ?_
    simp only [go_sem,q1,q2,w1,w2,bstr,hs,Tryz.f167,zB,zD,zC,reduceIte,reduceCtorEq,zA]
theorem rRow_pc (w:ByteArray) (hw:w.size≤1000) (ns:List Int) (hn:ns.length≤10) (h:∀ n∈ns,i64 n):PC Tryz.prog 125 [.str w,sl ns] (.pure (.str (rowN w ns))):=by
 refine PC.of_empty (AC.run (E_ok _) mix Tryz.func125 m125 rfl rfl rfl (zE rfl) ?_) (by simp [bndL,AV.bnd]) rfl
 simp only [go_sem,zB,zD,zC,reduceIte,reduceCtorEq,zA]
 refine zDy ns.length (fun k=>[(0,.str (rowN w (ns.take k))),(1,sl ns),(5,.int .i64 k)]) (fun _=>St.empty) rfl rfl ?_
 intro k hk I hI
 by_cases h':k<ns.length
 ·have h1:(k:Int)<ns.length:=by omega
  have h2:0≤(k:Int)∧(k:Int)<ns.length:=by omega
  have h3:ns[k]? = some ns[k]:=zF h'
  have h4:IntKind.i64.wrap ((k:Int)+1)=(k+1:Nat):=wrap64 (by omega)
  have hm:=h _ (qB h')
  have h5:=zAz hm
  have h6:=zEy (ns.take k) w fun m hm=>h m (List.mem_of_mem_take hm)
  have h8:(ns.take k).length≤10:=by simp;omega
  have a1:binA T .add 9 (.str (rowN w (ns.take k))) (.str ⟨#[32]⟩)=some (.str (rowN w (ns.take k) ++ sp)):=addS (by show _+1≤_;omega)
  have a2:binA T .add 9 (.str (rowN w (ns.take k) ++ sp)) (.str (itoaB ns[k]))=some (.str (rowN w (ns.take k) ++ sp ++ itoaB ns[k])):=addS (by rw [qH];show _+1+_≤_;omega)
  simp only [go_sem,l125_0,zAa,h1,decide_true,h2,ints_get,h3,a1,zB,zD,zC,reduceIte,reduceCtorEq,zA]
  refine cp n167 (zDv _ _ (zN _) hm) (SubL.refl _) ?_
  simp only [go_sem,a2,h4,zB,zD,zC,reduceIte,reduceCtorEq,zA]
  have:=hI h'
  rw [rowN_take _ _ _ h',← ByteArray.append_assoc] at this
  exact this
 ·have h1:¬ (k:Int)<ns.length:=by omega
  have e:k=ns.length:=by omega
  subst e
  simp only [go_sem,l125_0,zAa,h1,decide_false,yM,Tryz.f125,zB,zD,zC,reduceIte,reduceCtorEq,zA]
theorem catB_size {R:List ByteArray} (h:∀ r∈R,r.size≤100):∀ i,(catB R i).size≤101 * i
 | 0=>zN _
 | i+1=>by
  have ih:=catB_size h i
  have hs:(R.getD i ByteArray.empty).size≤100:=by
   rw [zG]
   cases e:R[i]? with
   | none=>exact qG _
   | some r=>exact h r (List.mem_of_getElem? e)
  show (catB R i ++ _ ++ lf).size≤_
  rw [qH,qH]
  show _+_+1≤_;omega
def sealB (R:List ByteArray) (m:Int):ByteArray:=catB R R.length ++ endB ((ck R R.length).tmod m) ++ lf
theorem rSealed_pc (R:List ByteArray) (m:Int) (hm:0<m∧m≤1000) (hR:∀ r∈R,r.size≤100) (hN:R.length≤2500) (t:Tail):PC Tryz.prog 126 [.slice (strs R) R.length t,.int .i64 m] (.pure (.str (sealB R m))):=by
 have key:PC Tryz.prog 126 [.slice (strs R) R.length .unk,.int .i64 m] (.pure (.str (sealB R m))):=by
  refine PC.of_empty (AC.run (E_ok _) mix Tryz.func126 m126 rfl rfl rfl (zE rfl) ?_) (by simp [bndL,AV.bnd]) rfl
  simp only [go_sem,zB,zD,zC,reduceIte,reduceCtorEq,zA]
  refine zDy R.length (fun i=>[(0,.slice (strs R) R.length .unk),(1,.int .i64 m),(5,.str (catB R i)),(6,.int .i64 (ck R i)),(7,.int .i64 i)]) (fun _=>St.empty) rfl rfl ?_
  intro i hi I hI
  by_cases h':i<R.length
  ·have h1:(i:Int)<R.length:=by omega
   have h2:0≤(i:Int)∧(i:Int)<R.length:=by omega
   have h3:R[i]? = some R[i]:=zF h'
   have h4:IntKind.i64.wrap ((i:Int)+1)=(i+1:Nat):=wrap64 (by omega)
   have hr:=hR _ (qB h')
   simp only [go_sem,l126_0,zAa,h1,decide_true,zB,zD,zC,reduceIte,reduceCtorEq,zA]
   have hck:ck R (i+1)=ck R i+rs R[i] R[i].size * (i+1:Nat):=by
    show ck R i+rs (R.getD i _) (R.getD i _).size * _=_
    rw [zG,h3];rfl
   have hcat:catB R (i+1)=catB R i ++ R[i] ++ lf:=by
    show catB R i ++ R.getD i _ ++ lf=_
    rw [zG,h3];rfl
   have hb:=ck_bd hR i (by omega)
   have hcs:=catB_size hR i
   have hI':=hI h'
   rw [hck,hcat] at hI'
   generalize R[i]=r at *
   refine zDy r.size (fun k=>[(0,.slice (strs R) R.length .unk),(1,.int .i64 m),(5,.str (catB R i)),(6,.int .i64 (ck R i+rs r k * (i+1:Nat))),(7,.int .i64 i),(8,.int .i64 k)]) (fun _=>St.empty) (by simp only [rs,Int.zero_mul,Int.add_zero];rfl) rfl ?_
   intro k hk I2 hI2
   by_cases h'':k<r.size
   ·have g1:(k:Int)<r.size:=by omega
    have g4:IntKind.i64.wrap ((k:Int)+1)=(k+1:Nat):=wrap64 (by omega)
    have hbt:r[k]? = some r[k]:=by simp [h'']
    have hB:r[k].toNat≤255:=Nat.le_of_lt_succ (UInt8.toNat_lt _)
    have hrs:rs r (k+1)=rs r k+(r[k].toNat:Int) * (k+1:Nat):=by
     show rs r k+(((r[k]?).getD 0).toNat:Int) * _=_
     rw [hbt];rfl
    have hb2:=rs_bd100 r (k:=k) (by omega)
    have p1:0≤(r[k].toNat:Int) * (k+1:Nat):=yE (by omega) (by omega)
    have p2:(r[k].toNat:Int) * (k+1:Nat)≤255 * (100:Int):=Int.mul_le_mul (by omega) (by omega) (by omega) (by omega)
    have p3:0≤(r[k].toNat:Int) * (k+1:Nat) * (i+1:Nat):=yE p1 (by omega)
    have p4:(r[k].toNat:Int) * (k+1:Nat) * (i+1:Nat)≤25500 * (3000:Int):=Int.mul_le_mul (by omega) (by omega) (by omega) (by omega)
    have p5:0≤rs r k * (i+1:Nat):=yE hb2.1 (by omega)
    have p6:rs r k * (i+1:Nat)≤2550000 * (3000:Int):=Int.mul_le_mul hb2.2 (by omega) (by omega) (by omega)
    have w1:IntKind.i64.wrap (r[k].toNat:Int)=r[k].toNat:=wrap64 (by omega)
    have w2:IntKind.i64.wrap ((r[k].toNat:Int) * (k+1:Nat))=(r[k].toNat:Int) * (k+1:Nat):=wrap64 (by omega)
    have w3:IntKind.i64.wrap ((r[k].toNat:Int) * (k+1:Nat) * (i+1:Nat))=(r[k].toNat:Int) * (k+1:Nat) * (i+1:Nat):=wrap64 (by omega)
    have w4:IntKind.i64.wrap (ck R i+rs r k * (i+1:Nat)+(r[k].toNat:Int) * (k+1:Nat) * (i+1:Nat))=ck R i+rs r k * (i+1:Nat)+(r[k].toNat:Int) * (k+1:Nat) * (i+1:Nat):=wrap64 (by omega)
    have hz:0≤(k:Int):=by omega
    simp only [go_sem,l126_1,zAa,h2,zCr,h3,zW,g1,decide_true,hz,hbt,convA,w1,w2,w3,w4,g4,h4,zB,zD,zC,reduceIte,reduceCtorEq,zA]
    have:=hI2 h''
    rw [hrs,Int.add_mul,← Int.add_assoc] at this
    exact this
   have g1:¬ (k:Int)<r.size:=by omega
   have e:k=r.size:=by omega
   subst e
   clear hI2 hk h''
   have a1:binA T .add 9 (.str (catB R i)) (.str r)=some (.str (catB R i ++ r)):=addS (by omega)
   have a2:binA T .add 9 (.str (catB R i ++ r)) (.str ⟨#[10]⟩)=some (.str (catB R i ++ r ++ lf)):=addS (by rw [qH];show _+_+1≤_;omega)
   simp only [go_sem,l126_1,zAa,h2,zCr,h3,zW,g1,decide_false,a1,a2,h4,zB,zD,zC,reduceIte,reduceCtorEq,zA]
   exact hI'
  have h1:¬ (i:Int)<R.length:=by omega
  have e:i=R.length:=by omega
  subst e
  clear hI hi h'
  have hb:=ck_bd hR R.length (by omega)
  have hcs:=catB_size hR R.length
  have hfin:sealB R m=catB R R.length ++ endB ((ck R R.length).tmod m) ++ lf:=rfl
  rw [hfin]
  generalize ck R R.length=C at *
  generalize catB R R.length=Z at *
  have e1:intOp .rem .i64 C m=some (.int .i64 (C.tmod m)):=by
   show (if m=0 then none else some (AV.int .i64 (C.tmod m)))=_
   rw [if_neg (by omega)]
  have hc0:0≤C.tmod m:=Int.tmod_nonneg _ hb.1
  have hc1:C.tmod m<m:=Int.tmod_lt_of_pos _ hm.1
  simp only [go_sem,l126_0,zAa,h1,decide_false,e1,zB,zD,zC,reduceIte,reduceCtorEq,zA]
  generalize C.tmod m=c at *
  have d1:c.tdiv 100=c / 100:=yF hc0
  have d2:c.tdiv 10=c / 10:=yF hc0
  have d3:(c.tdiv 10).tmod 10=c / 10 % 10:=by rw [d2];exact yG (by omega)
  have d4:c.tmod 10=c % 10:=yG hc0
  have e2:intOp .quo .i64 c 100=some (.int .i64 (c.tdiv 100)):=by
   show some (AV.int .i64 (IntKind.i64.wrap (c.tdiv 100)))=_
   rw [wrap64 (by omega)]
  have e3:intOp .quo .i64 c 10=some (.int .i64 (c.tdiv 10)):=by
   show some (AV.int .i64 (IntKind.i64.wrap (c.tdiv 10)))=_
   rw [wrap64 (by omega)]
  have e4:intOp .rem .i64 (c.tdiv 10) 10=some (.int .i64 ((c.tdiv 10).tmod 10)):=rfl
  have e5:intOp .rem .i64 c 10=some (.int .i64 (c.tmod 10)):=rfl
  have i1:i64 (c.tdiv 100):=⟨by omega,by omega⟩
  have i2:i64 ((c.tdiv 10).tmod 10):=⟨by omega,by omega⟩
  have i3:i64 (c.tmod 10):=⟨by omega,by omega⟩
  have z1:=zAz i1
  have z2:=zAz i2
  have z3:=zAz i3
  have a1:binA T .add 9 (.str Z) (.str ⟨#[101,110,100,32]⟩)=some (.str (Z ++ endW)):=addS (by show _+4≤_;omega)
  have s1:(Z ++ endW).size≤101 * R.length+4:=by rw [qH];show _+4≤_;omega
  have a2:binA T .add 9 (.str (Z ++ endW)) (.str (itoaB (c.tdiv 100)))=some (.str (Z ++ endW ++ itoaB (c.tdiv 100))):=addS (by omega)
  have s2:(Z ++ endW ++ itoaB (c.tdiv 100)).size≤101 * R.length+25:=by rw [qH];omega
  have a3:=addS (a:=Z ++ endW ++ itoaB (c.tdiv 100)) (b:=itoaB ((c.tdiv 10).tmod 10)) (by omega)
  have s3:(Z ++ endW ++ itoaB (c.tdiv 100) ++ itoaB ((c.tdiv 10).tmod 10)).size≤101 * R.length+46:=by rw [qH];omega
  have a4:=addS (a:=Z ++ endW ++ itoaB (c.tdiv 100) ++ itoaB ((c.tdiv 10).tmod 10)) (b:=itoaB (c.tmod 10)) (by omega)
  have s4:(Z ++ endW ++ itoaB (c.tdiv 100) ++ itoaB ((c.tdiv 10).tmod 10) ++ itoaB (c.tmod 10)).size≤101 * R.length+67:=by rw [qH];omega
  have a5:binA T .add 9 (.str (Z ++ endW ++ itoaB (c.tdiv 100) ++ itoaB ((c.tdiv 10).tmod 10) ++ itoaB (c.tmod 10))) (.str ⟨#[10]⟩)=some (.str (Z ++ endB c ++ lf)):=by
   have:Z ++ endB c ++ lf=Z ++ endW ++ itoaB (c.tdiv 100) ++ itoaB ((c.tdiv 10).tmod 10) ++ itoaB (c.tmod 10) ++ lf:=by
    unfold endB
    simp only [ByteArray.append_assoc]
   rw [this]
   exact addS (by show _+1≤_;omega)
  simp only [go_sem,a1,e2,zB,zD,zC,reduceIte,reduceCtorEq,zA]
  refine cp n167 (zDv _ _ (zN _) i1) (SubL.refl _) ?_
  simp only [go_sem,a2,e3,e4,zB,zD,zC,reduceIte,reduceCtorEq,zA]
  refine cp n167 (zDv _ _ (zN _) i2) (SubL.refl _) ?_
  simp only [go_sem,a3,e5,zB,zD,zC,reduceIte,reduceCtorEq,zA]
  refine cp n167 (zDv _ _ (zN _) i3) (SubL.refl _) ?_
  simp only [go_sem,a4,a5,Tryz.f126,zB,zD,zC,reduceIte,reduceCtorEq,zA]
 exact fun c S w vs h1 h2=>key c S w vs h1 (SubL.cons (Sub.unk _ _ _) (SubL.refl _) c vs h2)
set_option maxHeartbeats 4000000
theorem seal_text (s:Survey):sealB (rowsL s) 149=textB s:=by
 unfold sealB textB
 have:=join_cat (rowsL s) (endB ((ck (rowsL s) (rowsL s).length).tmod 149))
 exact this.symm
theorem rPrint_pc (s:Survey) (h:PlainS s):PC Tryz.prog 61 [surA s] (.pure (.str (textB s))):=by
 have hm:=h.many
 rw [← seal_text]
 refine PC.of_empty (AC.run (E_ok _) mix Tryz.func61 m61 rfl rfl rfl (zE rfl) ?_) (by simp [bndL,AV.bnd]) rfl
 simp only [go_sem,boxA,zB,zD,zC,reduceIte,reduceCtorEq,zA]
 refine cp n125 (rRow_pc (wordB 0) (by decide) [s.stations] (zE rfl) (fun m hm=>by rw [yO] at hm;subst hm;exact h.head)) (SubL.cons (Sub.refl _) (SubL.cons (Sub.unk _ _ _) (SubL.refl _))) ?_
 simp only [go_sem,zAa,zB,zD,zC,reduceIte,reduceCtorEq,zA]
 refine wc_forE s.sights.length (fun k=>[(1,.ref 0 0),(3,.slice (strs (headR s :: sgR s k)) (k+1) (tailN k)),(4,.int .i64 (k:Nat))]) (fun k S => ∃ X,S=⟨[some (.cells (surC s))] ++ X,k,toksN k⟩) rfl ⟨[],rfl⟩ ?_
 rintro k hk S ⟨X,rfl⟩ I hI
 have c1:=fun q=>zAf X q
 have c2:=fun x B=>zAs X x B
 by_cases hkl:k<s.sights.length
 ·have k1:(k:Int)<s.sights.length:=by omega
  have k2:0≤(k:Int)∧(k:Int)<s.sights.length:=by omega
  have k3:k * 4+4≤(sgts s.sights).length:=by rw [zBe];omega
  have k4:IntKind.i64.wrap ((k:Int)+1)=(k+1:Nat):=wrap64 (by omega)
  have k5:=zCk s.sights k hkl
  have hp:=rRow_pc (wordB 1) (by decide) (nsS s.sights[k]) (zE rfl) (h.each _ (qB hkl))
  have hI:=hI hkl
  rw [sgR_succ s k hkl] at hI
  have hl:=sgR_len s k hk
  generalize s.sights[k]=x at *
  simp only [go_sem,l61_0,zAa,k1,decide_true,k2,k3,k5,zAh,and_self,c1,c2,zAd,AV.cells,AV.one,zL,zO,zJ,splice,zI,zH,zB,zD,zC,reduceIte,reduceCtorEq,zA]
  refine cp n125 hp (SubL.cons (Sub.refl _) (SubL.cons (Sub.unk _ _ _) (SubL.refl _))) ?_
  simp only [go_sem,zAa,zB,zD,zC,reduceIte,reduceCtorEq,zA]
  refine sr_str (l:=headR s :: sgR s k) _ (by simp [hl]) (by omega) ?_
  simp only [go_sem,k4,zB,zD,zC,reduceIte,reduceCtorEq,zA]
  exact hI _ ⟨X ++ [some (.cells (sgtC x))],rfl⟩
 have k1:¬ (k:Int)<s.sights.length:=by omega
 have ek:k=s.sights.length:=by omega
 subst ek
 have hRl:(rowsL s).length=s.sights.length+1:=by simp [rowsL]
 rw [← rowsL_eq,← hRl]
 simp only [go_sem,l61_0,zAa,k1,decide_false,zB,zD,zC,reduceIte,reduceCtorEq,zA]
 refine cp n126 (rSealed_pc (rowsL s) 149 (by decide) h.rows (by omega) _) (SubL.refl _) ?_
 simp only [go_sem,Tryz.f61,zB,zD,zC,reduceIte,reduceCtorEq,zA]
set_option maxHeartbeats 4000000
theorem ba_eq (a b:ByteArray):(a.toList == b.toList)=decide (a=b):=by
 rw [Lib.toList_data,Lib.toList_data]
 by_cases h:a=b
 ·subst h;simp
 ·rw [decide_eq_false h]
  apply beq_eq_false_iff_ne.2
  intro e
  apply h
  cases a;cases b
  simp only [ByteArray.mk.injEq]
  exact Array.toList_inj.1 e
theorem eqS (a b:ByteArray):binA T .eql 9 (.str a) (.str b)=some (.bool (decide (a=b))):=by
 show some (AV.bool (a.toList == b.toList))=_
 rw [ba_eq]
theorem neS (a b:ByteArray):binA T .neq 9 (.str a) (.str b)=some (.bool (decide (a≠b))):=by
 show some (AV.bool !(a.toList == b.toList))=_
 rw [ba_eq,decide_not]
def dash:ByteArray:=⟨#[45]⟩
theorem neg_iff (w:ByteArray):negW w=(decide (1≤w.size) && decide (w.extract 0 1=dash)):=by
 unfold negW
 by_cases h:0<w.size
 ·rw [decide_eq_true h,decide_eq_true (show 1≤w.size from h),yN,yN]
  have e:w.extract 0 1=⟨#[w.get! 0]⟩:=by
   obtain ⟨a⟩:=w
   have h':0<a.size:=h
   apply ByteArray.ext
   apply Array.ext
   ·simp [ByteArray.size] at *;omega
   ·intro i h1 h2
    simp at h2
    subst h2
    simp [ByteArray.get!,Array.getElem!_eq_getD,h']
  rw [e]
  refine decide_eq_decide.2 ⟨fun hh => ?_,fun hh => ?_⟩
  ·have:w.get! 0=45:=UInt8.toNat_inj.1 hh
   rw [this];rfl
  ·have:(⟨#[w.get! 0]⟩:ByteArray).data=dash.data:=by rw [hh]
   have:w.get! 0=45:=by simpa [dash] using this
   rw [this];rfl
 ·rw [decide_eq_false h,decide_eq_false (show ¬ 1≤w.size from h),qR,qR]
theorem slHasPrefix_pc (w:ByteArray) (hw:w.size≤1000000):PC Tryz.prog 218 [.str w,.str dash] (.pure (.bool (negW w))):=by
 refine PC.of_empty (AC.run (E_ok _) mix Tryz.func218 m218 rfl rfl rfl (zE rfl) ?_) rfl rfl
 rw [neg_iff]
 have hs:dash.size=1:=rfl
 by_cases h:1≤w.size
 ·have h1:(w.size:Int) ≥ (1:Nat):=by omega
  have hsl:sliceA T 9 (.str w) none (some (.int .i64 ((1:Nat):Int))) none=some (.str (w.extract 0 1)):=by
   show (bnd (some (.int .i64 ((1:Nat):Int))) w.size w.size).bind _=_
   unfold bnd
   simp
   rw [if_pos (by omega)];rfl
  rw [decide_eq_true h,yN]
  simp only [go_sem,zAa,hs,h1,decide_true,hsl,eqS,Tryz.f218,zB,zD,zC,reduceIte,reduceCtorEq,zA]
 ·have h1:¬ (w.size:Int) ≥ (1:Nat):=by omega
  rw [decide_eq_false h,qR]
  simp only [go_sem,zAa,hs,h1,decide_false,Tryz.f218,zB,zD,zC,reduceIte,reduceCtorEq,zA]
theorem slTrim_pc (w:ByteArray) (hw:w.size≤1000000):PC Tryz.prog 207 [.str w,.str dash] (.pure (.str (bodyW w))):=by
 refine PC.of_empty (AC.run (E_ok _) mix Tryz.func207 m207 rfl rfl rfl (zE rfl) ?_) rfl rfl
 have hs:dash.size=1:=rfl
 simp only [go_sem,zB,zD,zC,reduceIte,reduceCtorEq,zA]
 refine cp n218 (slHasPrefix_pc w hw) (SubL.refl _) ?_
 unfold bodyW
 cases h:negW w
 ·simp only [go_sem,Tryz.f207,zB,zD,zC,reduceIte,reduceCtorEq,zA]
  all_goals rfl
 ·have h0:0<w.size:=by
   unfold negW at h
   rw [zT,decide_eq_true_iff] at h
   exact h.1
  have hsl:sliceA T 9 (.str w) (some (.int .i64 ((1:Nat):Int))) none none=some (.str (w.extract 1 w.size)):=by
   have hd:descOf T 9=some .string:=rfl
   have hb:bnd (some (.int .i64 ((1:Nat):Int))) 0 w.size=some 1:=by simp [bnd];omega
   have hb2:bnd none w.size w.size=some w.size:=by simp [bnd]
   simp only [sliceA,hd,hb,hb2,qT,zW]
  rw [if_pos rfl]
  simp only [go_sem,zAa,hs,hsl,Tryz.f207,zB,zD,zC,reduceIte,reduceCtorEq,zA]
  all_goals rfl
theorem Trim_pc (w:ByteArray) (hw:w.size≤1000000):PC Tryz.prog 196 [.str w,.str dash] (.pure (.str (bodyW w))):=by
 refine PC.of_empty (AC.run (E_ok _) mix Tryz.func196 m196 rfl rfl rfl (zE rfl) ?_) rfl rfl
 simp only [go_sem,zB,zD,zC,reduceIte,reduceCtorEq,zA]
 refine cp n207 (slTrim_pc w hw) (SubL.refl _) ?_
 simp only [go_sem,Tryz.f196,zB,zD,zC,reduceIte,reduceCtorEq,zA]
set_option maxHeartbeats 4000000
theorem dec_lt {s:ByteArray} {i:Nat} (h:(s.get! i).toNat<128):Utf8.decode s i=((s.get! i).toNat,1):=by
 unfold Utf8.decode
 simp only [Nat.add_zero,if_pos h]
theorem dec_ge {s:ByteArray} {i:Nat} (h:¬ (s.get! i).toNat<128):128≤(Utf8.decode s i).1:=by
 unfold Utf8.decode
 simp only [Nat.add_zero,if_neg h]
 repeat' split
 all_goals first | (show 128≤65533;decide) | (rename_i hh;simp only [zT,decide_eq_true_eq,ge_iff_le] at hh;show 128≤_;omega)
def giveUp (why:ByteArray):AV:=.iface 193 (.agg [.str why])
def Gives (v:AV):Prop:=∃ why,v=giveUp why
theorem Gives.bnd {v:AV} (h:Gives v):v.bnd 0 0=true:=by obtain ⟨why,rfl⟩:=h;rfl
@[go_sem] theorem d_none:descOf T 193=some ti193.desc:=rfl
@[go_sem] theorem i_none:isIface ti193.desc=false:=rfl
@[go_sem] theorem bd_none (a:ByteArray):buildA T 193 [(0,.str a)]=some (.agg [.str a]):=rfl
theorem sure_ok (why:ByteArray):PC Tryz.prog 165 [.bool true,.str why] (.pure (.tuple [])):=by
 refine PC.of_empty (AC.run (E_ok _) mix Tryz.func165 m165 rfl rfl rfl (zE rfl) ?_) rfl rfl
 simp only [go_sem,zAg,zY,Tryz.f165,zB,zD,zC,reduceIte,reduceCtorEq,zA]
 all_goals rfl
theorem sure_no (why:ByteArray) (S:St):AC Tryz.prog 165 [.bool false,.str why] S fun e S'=>((∃ v,e=.ret v∧False)∨(∃ v,e=.panic v∧Gives v))∧S'=S:=by
 refine AC.of_iso (AC.run (E_ok _) mix Tryz.func165 m165 rfl rfl rfl (zE rfl) ?_) rfl (fun _ h=>h.elim) (fun _ h=>h.bnd) S
 simp only [go_sem,zAg,qD,Tryz.f165,zB,zD,zC,reduceIte,reduceCtorEq,zA]
 exact .inr ⟨_,rfl,why,rfl⟩
theorem sn {n:Nat} {S:St} {K Kp:AV→St→Prop} {h1:Hold K} {h2:Hold Kp} (why:ByteArray) (kp:∀ v,Gives v→Kp v S):sc (E n) K Kp h1 h2 (some (165,[.bool false,.str why])) S:=by
 refine cac n165 (sure_no why _) (fun v S' h => ?_) (fun v S' h => ?_)
 ·obtain ⟨⟨v',_,h⟩ | ⟨v',e,_⟩,_⟩:=h
  ·exact h.elim
  ·cases e
 ·obtain ⟨⟨v',e,_⟩ | ⟨v',e,hg⟩,rfl⟩:=h
  ·cases e
  ·cases e;exact kp _ hg
theorem n_gs:Callable Tryz.prog 184:=⟨⟨_,Tryz.func184,by kernel_rfl,rfl⟩⟩
theorem if_congr2 {α:Type} {p q:Prop} [Decidable p] [Decidable q] {a b:α} (h:p↔q):(if p then a else b)=if q then a else b:=by
 by_cases hp:p
 ·rw [if_pos hp,if_pos (h.1 hp)]
 ·rw [if_neg hp,if_neg (fun hq=>hp (h.2 hq))]
theorem Split_pc (s:ByteArray) (b:UInt8) (hs:s.size<4294967281):PC Tryz.prog 164 [.str s,.str ⟨#[b]⟩] (.pure (.slice (strs (splitL s b)) (splitL s b).length .exact)):=by
 refine PC.of_empty (AC.run (E_ok _) mix Tryz.func164 m164 rfl rfl rfl (zE rfl) ?_) rfl (by simp [AV.bnd])
 simp only [go_sem,zB,zD,zC,reduceIte,reduceCtorEq,zA]
 refine cp n_gs (genSplit_pc s b hs) (SubL.refl _) ?_
 simp only [go_sem,Tryz.f164,zB,zD,zC,reduceIte,reduceCtorEq,zA]
 all_goals rfl
set_option maxHeartbeats 4000000
theorem short_pc (s:Survey):PC Tryz.prog 23 [surA s] (.pure (.bool (decide (s.sights.length≤17)))):=by
 refine PC.of_empty (AC.run (E_ok _) mix Tryz.func23 m23 rfl rfl rfl (zE rfl) ?_) (by simp [bndL,AV.bnd]) rfl
 have hd:decide ((s.sights.length:Int)≤17)=decide (s.sights.length≤17):=decide_eq_decide.2 (by omega)
 simp only [go_sem,boxA,zAa,hd,Tryz.f23,zB,zD,zC,reduceIte,reduceCtorEq,zA]
def surS:Survey:=⟨4,[⟨0,1,10,1⟩,⟨1,2,-4,2⟩,⟨2,3,7,1⟩,⟨0,3,15,2⟩]⟩
theorem S_pc:PC Tryz.prog 81 [] (.pure (surA surS)):=by
 refine PC.of_frz (AC.run (E_ok _) mix Tryz.func81 m81 rfl rfl rfl (zE rfl) ?_) rfl (by simp [bndL,AV.bnd])
 have e1:zAe T 22 4 [(0,.agg [.int .i64 0,.int .i64 1,.int .i64 10,.int .i64 1]),(1,.agg [.int .i64 1,.int .i64 2,.int .i64 (-4),.int .i64 2]),(2,.agg [.int .i64 2,.int .i64 3,.int .i64 7,.int .i64 1]),(3,.agg [.int .i64 0,.int .i64 3,.int .i64 15,.int .i64 2])]=some (.slice (sgts surS.sights) 4 .exact):=rfl
 have e3:buildA T 24 [(0,.int .i64 4),(1,.slice (sgts surS.sights) 4 .exact)]=some (.agg [.int .i64 4,.slice (sgts surS.sights) 4 .exact]):=rfl
 simp only [go_sem,e1,e3,zAd,AV.cells,AV.one,zL,zO,zJ,splice,zI,zH,and_self,Tryz.f81,zB,zD,zC,reduceIte,reduceCtorEq,zA]
 exact ⟨_,rfl,zEx (.same _) (.unk _ _ _)⟩
end Go.Av.Lx
end
section
set_option maxHeartbeats 4000000
namespace Go.Av.Lx
open Go Go.Av Go.Av.Tb Go.Av.Fx Go.Proofs
open Go.Lv (Sight Survey Sw Sv SightOk lexI lexI_drop)

end Go.Av.Lx
end
section
set_option maxHeartbeats 4000000
namespace Go.Av.Lx
open Go Go.Av Go.Av.Tb Go.Av.Fx Go.Proofs
open Go.Lv (Sight Survey Sw Sv SightOk Stp befS befS_drop stpLt)

end Go.Av.Lx
end
section
set_option maxHeartbeats 4000000
namespace Go.Av.Lx
open Go Go.Av Go.Av.Tb Go.Av.Fx Go.Proofs
open Go.Lv (Sight Survey Sw Sv SightOk risB risAt)

end Go.Av.Lx
end
section
namespace Go.Av.Lx
open Go Go.Av Go.Av.Tb Go.Av.Fx Go.Proofs
open Go.Lv (Survey)

end Go.Av.Lx
end
section
set_option maxHeartbeats 4000000
namespace Go.Av.Lx
open Go Go.Av Go.Av.Tb Go.Av.Fx Go.Proofs

end Go.Av.Lx
end

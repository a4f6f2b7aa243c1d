/- Part 26 of the proof. -/
import Derived.Test.YtclmbbofpaecaaaGreatDoorVe24
import Derived.Test.YtclmbbofpaecaaaGreatDoorVe25
set_option linter.all false
set_option linter.unusedVariables false
set_option linter.unusedSimpArgs false
set_option linter.unusedSectionVars false
open Bool renaming and_self → zK, and_eq_true → zS, not_true → qC, not_false → qG
open Int renaming tmod_eq_emod_of_nonneg → qL, tdiv_eq_ediv_of_nonneg → qP, le_refl → yG, mul_nonneg → yJ
open List renaming getElem?_eq_getElem → zF, getD_eq_getElem?_getD → zG, set_cons_succ → zH, set_cons_zero → zI, all_cons → zL, all_nil → zO, mem_cons_self → zP, mem_cons_of_mem → zQ, getElem?_append_right → zV, length_cons → zY, getElem_mem → qA, length_append → qB, getElem?_append_left → qE, take_succ_eq_append_getElem → qF, length_nil → qI, append_assoc → qK, all_eq_true → qR, not_mem_nil → qS, mem_cons → yB, cons_append → yC, mem_singleton → yD, take_length → yE, headD_cons → yN, mem_of_getElem? → yP, tail_cons → yR
open Nat renaming reduceLeDiff → zA, reduceEqDiff → zB, reduceAdd → zC, reduceBEq → zD, le_of_ble_eq_true → zE, le_refl → zM, lt_or_ge → zU, zero_le → qH, le_trans → yO, lt_succ_self → yT
open Option renaming map_some → zX, getD_some → qD, bind_some → qX
section
namespace Go.Av.Lx
open Go Go.Av Go.Proofs
open Go.Lv (Sight Survey Sw Sv SightOk)
def Small (s:Survey):Prop:=smI s.stations ∧ ∀ x∈s.sights,∀ n∈nsS x,smI n
theorem small_rows {s:Survey} (h:Small s):∀ r∈rowsL s,(10:UInt8) ∉ r.data.toList:=fun r hr=>by
 unfold rowsL at hr
 rcases List.mem_cons.1 hr with rfl | hr
 ·exact row_no _ _ (word_no 0 (by decide)) fun n hn=>by rw [yD] at hn;subst hn;exact h.1
 ·obtain ⟨x,hx,rfl⟩:=List.mem_map.1 hr
  exact row_no _ _ (word_no 1 (by decide)) (h.2 x hx)
theorem ck_nn (R:List ByteArray) (k:Nat):0≤ck R k:=by
 induction k with
 | zero=>exact yG _
 | succ k ih =>
  have:=(rs_bd (R.getD k ByteArray.empty) (R.getD k ByteArray.empty).size).1
  have:0≤rs (R.getD k ByteArray.empty) (R.getD k ByteArray.empty).size * ((k+1:Nat):Int):=yJ this (by omega)
  show 0≤ck R k+_
  omega
theorem ckL_mod (s:Survey):ckL s=ck (rowsL s) (rowsL s).length % 149:=by
 unfold ckL;exact qL (ck_nn _ _)
theorem ckL_bd (s:Survey):0≤ckL s∧ckL s<149:=by rw [ckL_mod];omega
theorem sv_small {s:Survey} (h:Sv s):Small s:=by
 have h1:=h.st
 refine ⟨⟨by omega,by omega⟩,fun x hx n hn => ?_⟩
 have h2:=h.sights x hx
 have a:=h2.frm;have b:=h2.to;have c:=h2.rise;have d:=h2.off
 simp only [nsS,yB,qS,or_false] at hn
 unfold smI
 omega
theorem zCq (a b:ByteArray):(a ++ b).size=a.size+b.size:=by simp
theorem row_sv {s:Survey} (h:Sv s):∀ r∈rowsL s,r.size≤18:=fun r hr=>by
 have h1:=h.st
 have hsm:=sv_small h
 have hsp:sp.size=1:=rfl
 unfold rowsL at hr
 rcases List.mem_cons.1 hr with rfl | hr
 ·have a:=num_sz hsm.1
  rw [if_pos (by omega)] at a
  have hw:(wordB 0).size=6:=rfl
  show ((wordB 0) ++ (sp ++ itoaB s.stations)).size≤18
  rw [zCq,zCq];omega
 ·obtain ⟨x,hx,rfl⟩:=List.mem_map.1 hr
  have h2:=h.sights x hx
  have hb:=hsm.2 x hx
  have f:=h2.frm;have g:=h2.to;have d:=h2.off
  have n1:=num_sz (hb x.frm (by simp [nsS]))
  have n2:=num_sz (hb x.to (by simp [nsS]))
  have n3:=num_sz (hb x.rise (by simp [nsS]))
  have n4:=num_sz (hb x.off (by simp [nsS]))
  rw [if_pos (by omega)] at n1
  rw [if_pos (by omega)] at n2
  have n3':(itoaB x.rise).size≤5:=by
   refine yO n3 ?_
   split
   ·decide
   ·split <;> decide
  have n4':(itoaB x.off).size≤2:=by
   refine yO n4 ?_
   split
   ·decide
   ·rw [if_pos (by omega)];exact zM _
  have hw:(wordB 1).size=5:=rfl
  show (((((wordB 1) ++ (sp ++ itoaB x.frm)) ++ (sp ++ itoaB x.to)) ++ (sp ++ itoaB x.rise)) ++ (sp ++ itoaB x.off)).size≤18
  simp only [zCq];omega
theorem cat_size {b:Nat}:∀ R:List ByteArray,(∀ r∈R,r.size≤b)→(catL R).size≤(b+1) * R.length
 | [],_=>qH _
 | r :: R,h=>by
  have ih:=cat_size R fun x hx=>h x (zQ _ hx)
  have h1:=h r zP
  have h2:lf.size=1:=rfl
  show (r ++ (lf ++ catL R)).size≤_
  rw [zCq,zCq,zY,Nat.mul_add];omega
theorem end_size {c:Int} (h:0≤c∧c<149):(endB c).size≤10:=by
 have e1:c.tdiv 100=c / 100:=qP h.1
 have e2:c.tdiv 10=c / 10:=qP h.1
 have e3:(c / 10).tmod 10=(c / 10) % 10:=qL (by omega)
 have e4:c.tmod 10=c % 10:=qL h.1
 have sz:∀ n:Int,0≤n→n<10→(itoaB n).size≤1:=fun n h0 h1=>by
  have:=num_sz (n:=n) ⟨by omega,by omega⟩
  rwa [if_pos (by omega)] at this
 unfold endB
 rw [e1,e2,e3,e4,zCq,zCq,zCq]
 have a:=sz (c / 100) (by omega) (by omega)
 have b:=sz ((c / 10) % 10) (by omega) (by omega)
 have d:=sz (c % 10) (by omega) (by omega)
 have hw:endW.size=4:=rfl
 omega
theorem text_size {s:Survey} (h:Sv s):(textB s).size≤400:=by
 have hc:=h.many
 rw [text_cat]
 have:=cat_size (b:=18) (rowsL s ++ [endB (ckL s)]) (fun r hr=>by
  rcases List.mem_append.1 hr with hr | hr
  ·exact row_sv h r hr
  ·rw [yD] at hr;subst hr
   exact yO (end_size (ckL_bd s)) (by decide))
 have hl:(rowsL s ++ [endB (ckL s)]).length=s.sights.length+2:=by simp [rowsL]
 rw [hl] at this
 omega
theorem okW_bd {x:ByteArray} (h:okW x=true):smI (valW x):=by
 unfold okW at h
 simp only [zS,decide_eq_true_eq] at h
 have hb:=decP_bd h.1.2 h.1.1.2
 unfold valW
 split
 ·exact ⟨by omega,by omega⟩
 ·exact ⟨by omega,by omega⟩
theorem zDw {r:ByteArray} {k m:Nat} {ns:List Int} (h:toldB r k m=some ns):ns.length=m ∧ ∀ n∈ns,smI n:=by
 unfold toldB at h
 split at h
 ·rename_i hh
  cases h
  obtain ⟨h1,_,h3⟩:=hh
  refine ⟨by simp;omega,fun n hn => ?_⟩
  obtain ⟨x,hx,rfl⟩:=List.mem_map.1 hn
  exact okW_bd (List.all_eq_true.1 h3 x hx)
 ·cases h
theorem zero_sm:smI 0:=⟨by decide,by decide⟩
theorem getD_sm {ns:List Int} (h:∀ n∈ns,smI n) (i:Nat):smI (ns.getD i 0):=by
 rw [zG]
 cases hx:ns[i]? with
 | none=>exact zero_sm
 | some g=>exact h g (yP hx)
theorem sgtN_small {ns:List Int} (h:∀ n∈ns,smI n):∀ n∈nsS (sgtN ns),smI n:=fun n hn=>by
 simp only [nsS,sgtN,yB,qS,or_false] at hn
 rcases hn with rfl | rfl | rfl | rfl <;> exact getD_sm h _
theorem fold_small:∀ (R:List ByteArray) {l l':List Sight},foldT l R=some l'→(∀ x∈l,∀ n∈nsS x,smI n) → ∀ x∈l',∀ n∈nsS x,smI n
 | [],l,l',h,hl=>by cases h;exact hl
 | r :: R,l,l',h,hl=>by
  unfold foldT at h
  cases hx:toldB r 1 4 with
  | none=>rw [hx] at h;cases h
  | some ns =>
   rw [hx] at h
   refine fold_small R h fun x hx' => ?_
   rcases List.mem_append.1 hx' with hx' | hx'
   ·exact hl x hx'
   ·rw [yD] at hx';subst hx';exact sgtN_small (zDw hx).2
theorem fold_len:∀ (R:List ByteArray) {l l':List Sight},foldT l R=some l'→l'.length=l.length+R.length
 | [],l,l',h=>by cases h;rfl
 | r :: R,l,l',h=>by
  unfold foldT at h
  cases hx:toldB r 1 4 with
  | none=>rw [hx] at h;cases h
  | some ns =>
   rw [hx] at h
   have:=fold_len R h
   simp at this ⊢;omega
theorem zDp {t:ByteArray} {s:Survey} (h:parsedB t=some s):3≤(splitL t 10).length∧textB s=t ∧ ∃ ns,toldB ((splitL t 10).headD ByteArray.empty) 0 1=some ns∧s.stations=ns.getD 0 0∧foldT [] ((splitL t 10).tail.take ((splitL t 10).length - 3))=some s.sights:=by
 unfold parsedB at h
 split at h
 ·rename_i h3
  refine ⟨h3, ?_⟩
  cases hx:toldB ((splitL t 10).headD ByteArray.empty) 0 1 with
  | none=>rw [hx] at h;cases h
  | some ns =>
   rw [hx,qX] at h
   cases hy:foldT [] ((splitL t 10).tail.take ((splitL t 10).length - 3)) with
   | none=>rw [hy] at h;cases h
   | some l1 =>
    rw [hy,qX] at h
    split at h
    ·rename_i ht
     cases h
     exact ⟨ht,ns,rfl,rfl,rfl⟩
    ·cases h
 ·cases h
theorem parsed_small {t:ByteArray} {s:Survey} (h:parsedB t=some s):Small s:=by
 obtain ⟨_,_,ns,h1,h2,h3⟩:=zDp h
 obtain ⟨_,h4⟩:=zDw h1
 exact ⟨by rw [h2];exact getD_sm h4 0,fold_small _ h3 fun x hx=>by cases hx⟩
end Go.Av.Lx
end
section
set_option maxHeartbeats 8000000
namespace Go.Av.Lx
open Go Go.Av Go.Av.Tb Go.Av.Fx Go.Proofs
open Go.Lv (Sight Survey Sw Sv SightOk)
theorem slS2 (a:ByteArray) (W:List ByteArray) (t:Tail) (m:Nat) (h:W.length=m+2):sliceA T 171 (.slice (strs (a :: W)) (m+2+1) t) (some (.int .i64 1)) (some (.int .i64 (m+1:Nat))) none=some (.slice (strs (W.take m)) m .unk):=by
 have hd:descOf T 171=some (.slice 9):=rfl
 have h9:T 9=some ti9:=rfl
 have hb:bnd (some (.int .i64 1)) 0 (m+1)=some 1:=by simp [bnd];omega
 have hb2:bnd (some (.int .i64 (m+1:Nat))) (m+2+1) (m+2+1)=some (m+1):=by
  simp only [bnd]
  rw [if_pos (by omega)]
  rfl
 simp only [sliceA,hd,h9]
 rw [if_pos (by simp [ti9,h]),hb2]
 simp only [qX,hb,zX]
 simp [strs,ti9]
theorem foldT_app:∀ (l:List Sight) (xs ys:List ByteArray),foldT l (xs ++ ys)=(foldT l xs).bind fun l'=>foldT l' ys
 | l,[],ys=>rfl
 | l,x :: xs,ys=>by
  simp only [yC,foldT]
  cases toldB x 1 4 with
  | none=>rfl
  | some ns=>simp only [qX];exact foldT_app _ xs ys
theorem foldT_one (l:List Sight) (x:ByteArray):foldT l [x]=(toldB x 1 4).map fun ns=>l ++ [sgtN ns]:=by
 simp only [foldT];cases toldB x 1 4 <;> rfl
theorem foldT_next {l0 l:List Sight} {rows:List ByteArray} {k:Nat} (hk:k<rows.length) (h:foldT l0 (rows.take k)=some l):foldT l0 (rows.take (k+1))=(toldB rows[k] 1 4).map fun ns=>l ++ [sgtN ns]:=by
 rw [qF hk,foldT_app,h,qX,foldT_one]
theorem foldT_fail {l0 l:List Sight} {rows:List ByteArray} {k:Nat} (hk:k<rows.length) (h:foldT l0 (rows.take k)=some l) (h2:toldB rows[k] 1 4=none):foldT l0 rows=none:=by
 rw [show rows=rows.take (k+1) ++ rows.drop (k+1) by simp,foldT_app,foldT_next hk h,h2];rfl
theorem toldB_len {r:ByteArray} {kind many:Nat} {ns:List Int} (h:toldB r kind many=some ns):ns.length=many:=by
 unfold toldB at h
 split at h
 ·rename_i hc
  cases h
  simp;omega
 ·cases h
theorem parsed_draw (a:AV) (l:List Sight) (V:AV) (nt:Nat) (tk:List Nat) (ho:Own (sgts l) l.length V nt tk) (hl:l.length≤1000) (x y z w:Int) (t0 t2 t26 t27 t28:AV) (z0:List AV) (Q:AQ)
  (h:∀ V' tk',Own (sgts (l ++ [⟨x,y,z,w⟩])) (l ++ [(⟨x,y,z,w⟩:Sight)]).length V' (nt+1) tk'→Q .normal [(0,t0),(2,t2),(4,.ref 1 0),(26,t26),(27,t27),(28,t28)] ⟨[some (.cells z0),some (.cells [a,V'])],nt+1,tk'⟩) :
  WC (E 60) (.draw [0,2,4,26,27,28] 16 [] r124_8) Q [(0,t0),(2,t2),(4,.ref 1 0),(26,t26),(27,t27),(28,t28),(7,sl [x,y,z,w])] ⟨[some (.cells z0),some (.cells [a,V])],nt,tk⟩:=by
 obtain ⟨q1,q2⟩:=ho.cells
 have i0:0≤(0:Int)∧(0:Int)<((4:Nat):Int):=by decide
 have i1:0≤(1:Int)∧(1:Int)<((4:Nat):Int):=by decide
 have i2:0≤(2:Int)∧(2:Int)<((4:Nat):Int):=by decide
 have i3:0≤(3:Int)∧(3:Int)<((4:Nat):Int):=by decide
 have bs:zAe T 22 1 [(0,.agg (sgtC ⟨x,y,z,w⟩))]=some (.slice (sgtC ⟨x,y,z,w⟩) 1 .exact):=rfl
 simp only [go_sem,q1,q2,i0,i1,i2,i3,ints,List.map_cons,List.map_nil,zY,qI,Int.reduceToNat,yG,and_self,zAa,bs,zB,zD,zC,reduceIte,reduceCtorEq,zA]
 refine zEa (lx:=sgtC ⟨x,y,z,w⟩) zEq ho (by rw [zBa];omega) rfl (by decide) rfl (by omega) fun V2 tk2 g => ?_
 have go:=g.own
 obtain ⟨p1,p2⟩:=go.cells
 rw [sgts_snoc] at go
 have hh:=h V2 tk2 (by rw [qB];exact go)
 simp only [go_sem,p1,p2,zAd,zL,zO,zK,splice,zI,zH,and_self,zB,zD,zC,reduceIte,reduceCtorEq,zA]
 exact hh
set_option maxHeartbeats 8000000
theorem sur_sub (a:Int) (l:List Sight) {V:AV} {nt:Nat} {tk:List Nat} (h:Own (sgts l) l.length V nt tk):Sub (.agg [.int .i64 a,V]) (surA ⟨a,l⟩):=
 Sub.agg (SubL.cons (Sub.refl _) (SubL.cons h.sub (SubL.refl [])))
theorem sm_i64 {n:Int} (h:smI n):i64 n:=⟨by have:=h.1;omega,by have:=h.2;omega⟩
theorem small_plain {s:Survey} (h:Small s) (hl:s.sights.length≤1000):PlainS s:=⟨hl,sm_i64 h.1,fun x hx n hn=>sm_i64 (h.2 x hx n hn)⟩
theorem parsed_ac (s:ByteArray) (hs:s.size≤900) (S:St):AC Tryz.prog 124 [.str s] S fun e S' =>
  ((∃ v,e=.ret v ∧ ∃ l,parsedB s=some l∧v=surA l)∨(∃ v,e=.panic v∧parsedB s=none∧Gives v))∧S'=S:=by
 refine AC.of_iso ?_ rfl (fun v ⟨ns,_,h⟩=>by subst h;simp [AV.bnd,bndL]) (fun v h=>h.2.bnd) S
 refine told_sub (R:=fun e _=>(∃ v,e=.ret v ∧ ∃ l,parsedB s=some l∧Sub v (surA l))∨(∃ v,e=.panic v∧parsedB s=none∧Gives v)) ?_ ?_ ?_
 ·refine AC.run (E_ok 60) mix Tryz.func124 m124 rfl rfl rfl (zE rfl) ?_
  have hR:=splitL_len s 10
  have hsz:∀ r∈splitL s 10,r.size≤900:=fun r hr=>yO (splitL_size hr) hs
  have hP:parsedB s=if 3≤(splitL s 10).length then
   (toldB ((splitL s 10).headD ByteArray.empty) 0 1).bind fun ns =>
    (foldT [] ((splitL s 10).tail.take ((splitL s 10).length - 3))).bind fun l =>
     if textB ⟨ns.getD 0 0,l⟩=s then some ⟨ns.getD 0 0,l⟩ else none
   else none:=rfl
  rw [hP]
  clear hP
  simp only [go_sem,zB,zD,zC,reduceIte,reduceCtorEq,zA]
  refine cp n164 (Split_pc s 10 (by omega)) (SubL.refl _) ?_
  generalize splitL s 10=R at *
  by_cases h3:¬ 3≤R.length
  ·have h3':¬ (R.length:Int) ≥ 3:=by omega
   simp only [go_sem,zAa,h3',decide_false,zB,zD,zC,reduceIte,reduceCtorEq,zA]
   rw [if_neg h3]
   exact sn s fun v h=>.inr ⟨v,rfl,rfl,h⟩
  have h3:3≤R.length:=Decidable.not_not.1 h3
  have h3':(R.length:Int) ≥ 3:=by omega
  rw [if_pos h3]
  simp only [go_sem,zAa,h3',decide_true,zB,zD,zC,reduceIte,reduceCtorEq,zA]
  refine cp n165 (sure_ok s) (SubL.refl _) ?_
  cases R with
  | nil=>simp at h3
  | cons r0 R =>
   have z:(0:Int)<((R.length+1:Nat):Int):=by omega
   obtain ⟨m,hm⟩:∃ m,R.length=m+2:=⟨R.length - 2,by simp at h3;omega⟩
   have hm3:(r0 :: R).length - 3=m:=by simp [hm]
   rw [hm3,yR,yN]
   simp only [go_sem,zAa,z,yG,and_true,Int.toNat_zero,zCp,zX,yN,yR,zB,zD,zC,reduceIte,reduceCtorEq,zA]
   have h0:=hsz r0 zP
   refine cac n166 (told_ac r0 0 1 (by decide) (by decide) (by omega) _) (fun v S' h => ?_) (fun v S' h => ?_)
   ·obtain ⟨⟨v',e,ns,hns,rfl⟩ | ⟨v',e,_⟩,rfl⟩:=h
    rotate_left
    ·cases e
    cases e
    have hn1:=toldB_len hns
    obtain ⟨_,hn2⟩:=zDw hns
    rw [hns]
    match ns,hn1,hn2 with
    | [a],_,hn2 =>
     simp only [qX,List.getD_cons_zero]
     clear hns
     have q0:0≤(0:Int)∧(0:Int)<((1:Nat):Int):=by decide
     have bd24:buildA T 24 [(0,.int .i64 a)]=some (.agg [.int .i64 a,.nilS]):=rfl
     simp only [go_sem,q0,bd24,ints,List.map_cons,List.map_nil,zY,qI,yG,Int.reduceToNat,zAd,AV.cells,AV.one,zL,zO,zK,splice,zI,zH,and_self,zB,zD,zC,reduceIte,reduceCtorEq,zA]
     have hRl:R.length≤902:=by simp at hR;omega
     have w1:IntKind.i64.wrap (((R.length+1:Nat):Int) - 2)=(m+1:Nat):=by rw [wrap64 (by omega)];omega
     have hsl:=slS2 r0 R .exact m hm
     rw [hm] at w1
     simp only [go_sem,zAa,hm,w1,hsl,zB,zD,zC,reduceIte,reduceCtorEq,zA]
     have hrs:∀ r∈R.take m,r.size≤900:=fun r hr=>hsz r (zQ _ (List.mem_of_mem_take hr))
     have hrl:(R.take m).length=m:=by simp [hm]
     have hm9:m≤900:=by omega
     have ha:smI a:=hn2 a zP
     clear hsl w1 hm hm3 hsz hR h3 h3' z h0 q0 hn2
     generalize hrows:R.take m=rows at *
     clear hrows hRl
     refine zAv (fun n ts' S' => ∃ k l V nt tk,k≤m∧n=m - k∧foldT [] (rows.take k)=some l∧l.length=k∧(∀ x∈l,∀ n∈nsS x,smI n)∧Own (sgts l) l.length V nt tk∧ts'=[(0,.str s),(2,.ref 0 0),(4,.ref 1 0),(26,.slice (strs rows) m .unk),(27,.int .i64 m),(28,.int .i64 (k:Nat))]∧S'=⟨[some (.cells [.int .i64 0,.nilS]),some (.cells [.int .i64 a,V])],nt,tk⟩) m ⟨0,[],.nilS,0,[],qH _,rfl,rfl,rfl,fun x hx=>(by cases hx),Own.nil _ _,rfl,rfl⟩ ?_
     rintro n ts' S' ⟨k,l,V,nt,tk,hk,rfl,hf,hlk,hsm,ho,rfl,rfl⟩
     obtain ⟨q1,q2⟩:=ho.cells
     obtain ⟨D,hD⟩:∃ D,MC.draw [0,2,4,26,27,28] 16 [] r124_8=D:=⟨_,rfl⟩
     unfold l124_0
     rw [hD]
     by_cases h':k<m
     ·have h1:(k:Int)<m:=by omega
      have h2:0≤(k:Int)∧(k:Int)<m:=by omega
      have hkr:k<rows.length:=by omega
      have h3:rows[k]? = some rows[k]:=zF hkr
      have h4:IntKind.i64.wrap ((k:Int)+1)=(k+1:Nat):=wrap64 (by omega)
      have hsz:=hrs _ (qA hkr)
      have hfail:=fun h=>foldT_fail hkr hf h
      have hnxt:=foldT_next hkr hf
      simp only [go_sem,zAa,h1,decide_true,h2,zCp,h3,zAg,zB,zD,zC,reduceIte,reduceCtorEq,zA]
      refine cac n166 (told_ac rows[k] 1 4 (by decide) (by decide) (by omega) _) (fun v S' h => ?_) (fun v S' h => ?_)
      ·obtain ⟨⟨v',e,ns,hns,rfl⟩ | ⟨v',e,_⟩,rfl⟩:=h
       rotate_left
       ·cases e
       cases e
       have hn1:=toldB_len hns
       obtain ⟨_,hn2⟩:=zDw hns
       rw [hns] at hnxt
       match ns,hn1,hn2 with
       | [x,y,z,w],_,hn2 =>
        simp only [go_sem,zB,zD,zC,reduceIte,reduceCtorEq,zA]
        subst hD
        refine parsed_draw _ l V nt tk ho (by omega) x y z w _ _ _ _ _ _ _ fun V' tk' go => ?_
        simp only [go_sem,h4,zB,zD,zC,reduceIte,reduceCtorEq,zA]
        refine zAi (m - (k+1)) (by omega) ⟨k+1,l ++ [⟨x,y,z,w⟩],V',nt+1,tk',h',rfl,(by rw [hnxt];rfl),(by simp;omega),fun u hu n hn => ?_,go,rfl,rfl⟩
        rcases List.mem_append.1 hu with hu | hu
        ·exact hsm u hu n hn
        ·rw [List.mem_singleton.1 hu] at hn
         exact hn2 n hn
      ·obtain ⟨⟨v',e,_⟩ | ⟨v',e,hn,hg⟩,rfl⟩:=h
       ·cases e
       ·cases e
        exact .inr ⟨_,rfl,by rw [hfail hn];rfl,hg⟩
     ·have h1:¬ (k:Int)<m:=by omega
      have e:k=m:=by omega
      have ef:rows.take k=rows:=by rw [e,← hrl,yE]
      rw [ef] at hf
      rw [hf,qX]
      simp only [go_sem,h1,decide_false,q1,q2,zB,zD,zC,reduceIte,reduceCtorEq,zA]
      refine cp n122 (text_pc ⟨a,l⟩ (small_plain ⟨ha,hsm⟩ (by show l.length≤1000;omega))) (SubL.cons (sur_sub a l ho) (SubL.refl [])) ?_
      simp only [go_sem,eqS,zB,zD,zC,reduceIte,reduceCtorEq,zA]
      by_cases ht:textB ⟨a,l⟩=s
      ·rw [decide_eq_true ht,if_pos ht]
       refine cp n165 (sure_ok s) (SubL.refl _) ?_
       simp only [go_sem,q1,q2,zAd,zL,zO,zK,splice,zI,zH,and_self,Tryz.f124,zB,zD,zC,reduceIte,reduceCtorEq,zA]
       exact .inl ⟨_,rfl,_,rfl,sur_sub a l ho⟩
      ·rw [decide_eq_false ht,if_neg ht]
       exact sn s fun v h=>.inr ⟨v,rfl,rfl,h⟩
   ·obtain ⟨⟨v',e,_⟩ | ⟨v',e,hn,h⟩,rfl⟩:=h
    ·cases e
    ·cases e
     exact .inr ⟨_,rfl,by rw [hn];rfl,h⟩
 ·rintro v S' (⟨v',e,l,h1,h2⟩ | ⟨v',e,_⟩)
  ·cases e;exact ⟨surA l,h2,.inl ⟨_,rfl,l,h1,rfl⟩⟩
  ·cases e
 ·rintro v S' (⟨v',e,_⟩ | h)
  ·cases e
  ·exact .inr h
def readA (s:ByteArray):AV:=
 if s.size≤400 then
  match parsedB s with
  | some l=>if zAp l=true then .tuple [surA l,.int .i64 0] else .tuple [.agg [.int .i64 0,.nilS],.int .i64 2]
  | none=>.tuple [.agg [.int .i64 0,.nilS],.int .i64 4]
 else .tuple [.agg [.int .i64 0,.nilS],.int .i64 3]
theorem readA_bnd (s:ByteArray):(readA s).bnd 0 0=true:=by
 unfold readA
 repeat' split
 all_goals simp [bndL,AV.bnd]
theorem Read1_ac (s:ByteArray) (hs:s.size≤900) (S:St) (i j:Nat) (z0 z1:AV) (h1:cellsAt S.heap i=some [.str s]) (h2:cellsAt S.heap j=some [z0,z1]):AC Tryz.prog 123 [.ref i 0,.ref j 0] S fun e S' =>
  (∃ l,parsedB s=some l∧e=.ret (.tuple [])∧S'=⟨setH S.heap j (.cells (surC l)),S.nt,S.toks⟩)∨(parsedB s=none∧(∃ v,e=.panic v∧Gives v)∧S'=S):=by
 refine AC.run (Es_ok _ S) mix Tryz.func123 m123 rfl rfl rfl (zE rfl) ?_
 simp only [go_sem,h1,h2,zB,zD,zC,reduceIte,reduceCtorEq,zA]
 refine zCe (E:=Es _ S) n124 (parsed_ac s hs _) (fun v S' h => ?_) (fun v S' h => ?_)
 ·obtain ⟨⟨v',e,l,hl,rfl⟩ | ⟨v',e,_⟩,rfl⟩:=h
  ·cases e
   simp only [go_sem,h2,zAd,AV.cells,AV.one,zL,zO,zK,splice,zI,zH,and_self,zY,qI,Tryz.f123,zB,zD,zC,reduceIte,reduceCtorEq,zA]
   exact .inl ⟨l,hl,rfl,rfl⟩
  ·cases e
 ·obtain ⟨⟨v',e,_⟩ | ⟨v',e,hn,h⟩,rfl⟩:=h
  ·cases e
  ·cases e
   exact .inr ⟨hn,⟨_,rfl,h⟩,rfl⟩
theorem cellsAt_setH {h:List (Option Blk)} {b:Nat} {l l':List AV} (hb:cellsAt h b=some l):cellsAt (setH h b (.cells l')) b=some l':=by
 have:=zEd (l':=l') hb []
 rwa [List.append_nil] at this
theorem parsed_few {t:ByteArray} {s:Survey} (h:parsedB t=some s) (ht:t.size≤900):s.sights.length≤1000:=by
 obtain ⟨_,_,ns,h1,h2,h3⟩:=zDp h
 have h4:=fold_len _ h3
 have h5:=splitL_len t 10
 rw [List.length_take,List.length_tail] at h4
 rw [h4]
 simp
 omega
theorem Read_pc (s:ByteArray) (hs:s.size<9223372036854775807):PC Tryz.prog 60 [.str s] (.pure (readA s)):=by
 refine PC.of_empty (AC.run (E_ok 21) mix Tryz.func60 m60 rfl rfl rfl (zE rfl) ?_) rfl (readA_bnd s)
 unfold readA
 have bd0:buildA T 24 []=some (.agg [.int .i64 0,.nilS]):=rfl
 by_cases h3:¬ s.size≤400
 ·have h3':(s.size:Int) > 400:=by omega
  rw [if_neg h3]
  simp only [go_sem,boxA,zAa,h3',decide_true,bd0,zAd,AV.cells,AV.one,zL,zO,zK,splice,zI,zH,and_self,Tryz.f60,zB,zD,zC,reduceIte,reduceCtorEq,zA]
 have h3:s.size≤400:=Decidable.not_not.1 h3
 have h3':¬ (s.size:Int) > 400:=by omega
 rw [if_pos h3]
 simp only [go_sem,boxA,zAa,h3',decide_false,zB,zD,zC,reduceIte,reduceCtorEq,zA]
 refine cac n92 (try_ac (R:=fun e S' => ∃ k:Int,e=.ret (.int .i64 k)∧((∃ l,parsedB s=some l∧k=0∧cellsAt S'.heap 1=some [.int .i64 0,.nilS]∧cellsAt S'.heap 2=some (surC l))∨(parsedB s=none∧k=4∧cellsAt S'.heap 1=some [.int .i64 0,.nilS]))) n123 (Read1_ac s (by omega) _ 0 2 _ _ rfl rfl) ?_ ?_) ?_ ?_
 ·rintro v S' (⟨l,hl,e,rfl⟩ | ⟨_,⟨v',e,_⟩,_⟩)
  ·exact ⟨rfl,0,rfl,.inl ⟨l,hl,rfl,rfl,rfl⟩⟩
  ·cases e
 ·rintro v S' (⟨l,hl,e,rfl⟩ | ⟨hn,⟨v',e,why,rfl⟩,rfl⟩)
  ·cases e
  ·cases e
   exact ⟨rfl,.inr ⟨why,rfl,4,rfl,.inr ⟨hn,rfl,rfl⟩⟩⟩
 ·rintro v S' ⟨k,e,⟨l,hl,rfl,hc1,hc2⟩ | ⟨hn,rfl,hc1⟩⟩
  ·cases e
   rw [hl]
   have z0:¬ ((0:Int)≠0):=by decide
   simp only [go_sem,z0,decide_false,hc1,hc2,zB,zD,zC,reduceIte,reduceCtorEq,zA]
   have hfew:=parsed_few hl (by omega)
   refine cp n89 (zBo l (by show l.sights.length<9223372036854775807;omega)) (SubL.refl _) ?_
   have hp:=fun l'=>cellsAt_setH (l':=l') hc1
   cases hb:zAp l
   ·simp only [go_sem,zAm,qG,hc1,bd0,hp,zAd,AV.cells,AV.one,zL,zO,zK,splice,zI,zH,and_self,zY,qI,Tryz.f60,zB,zD,zC,reduceIte,reduceCtorEq,zA]
   ·simp only [go_sem,zAm,qC,hc1,hc2,hp,zAd,AV.cells,AV.one,zL,zO,zK,splice,zI,zH,and_self,zY,qI,Tryz.f60,zB,zD,zC,reduceIte,reduceCtorEq,zA]
  ·cases e
   rw [hn]
   have z0:((4:Int)≠0):=by decide
   have hp:=fun l'=>cellsAt_setH (l':=l') hc1
   simp only [go_sem,z0,decide_true,hc1,bd0,hp,zAd,AV.cells,AV.one,zL,zO,zK,splice,zI,zH,and_self,zY,qI,Tryz.f60,zB,zD,zC,reduceIte,reduceCtorEq,zA]
 ·rintro v S' ⟨k,e,_⟩
  cases e
end Go.Av.Lx
end
section
namespace Go.Av.Lx
open Go Go.Av Go.Proofs
open Go.Lv (Sight Survey Sw Sv SightOk)
def mulOk:Bool:=(List.range 9).all fun d=>(List.range 20).all fun p=>(List.range 20).all fun i=>decide ((d+1) * (p+1) * (i+1) % 149≠0)
set_option maxRecDepth 1000000 in
theorem mul_ok:mulOk=true:=by decide +kernel
theorem mul_no {d p i:Nat} (h1:1≤d∧d≤9) (h2:p<20) (h3:i<20):d * (p+1) * (i+1) % 149≠0:=by
 have h:=mul_ok
 unfold mulOk at h
 rw [qR] at h
 have h:=h (d - 1) (List.mem_range.2 (by omega))
 rw [qR] at h
 have h:=h p (List.mem_range.2 h2)
 rw [qR] at h
 have h:=of_decide_eq_true (h i (List.mem_range.2 h3))
 rw [show d - 1+1=d by omega] at h
 exact h
theorem rs_change {r r':ByteArray} {p:Nat} (h:∀ k,k≠p→r'[k]? = r[k]?):∀ k,rs r' k=rs r k+(if p<k then (((r'[p]?).getD 0).toNat - ((r[p]?).getD 0).toNat:Int) * (p+1:Nat) else 0)
 | 0=>by simp [rs]
 | k+1=>by
  have ih:=rs_change h k
  unfold rs
  rw [ih]
  by_cases e:k=p
  ·subst e
   rw [if_neg (Nat.lt_irrefl _),if_pos (yT _),Int.sub_mul]
   omega
  ·rw [h k e]
   by_cases g:p<k
   ·rw [if_pos g,if_pos (by omega)];omega
   ·rw [if_neg g,if_neg (by omega)];omega
theorem ck_change {R R':List ByteArray} {i:Nat} (h:∀ k,k≠i→R'.getD k ByteArray.empty=R.getD k ByteArray.empty):∀ k,ck R' k=ck R k+(if i<k then (rs (R'.getD i ByteArray.empty) (R'.getD i ByteArray.empty).size - rs (R.getD i ByteArray.empty) (R.getD i ByteArray.empty).size) * (i+1:Nat) else 0)
 | 0=>by simp [ck]
 | k+1=>by
  have ih:=ck_change h k
  unfold ck
  rw [ih]
  by_cases e:k=i
  ·subst e
   rw [if_neg (Nat.lt_irrefl _),if_pos (yT _),Int.sub_mul]
   omega
  ·rw [h k e]
   by_cases g:i<k
   ·rw [if_pos g,if_pos (by omega)];omega
   ·rw [if_neg g,if_neg (by omega)];omega
def Chg1 (P:UInt8→UInt8→Prop) (a b:List UInt8):Prop:=∃ x y u v,a=x ++ u :: y∧b=x ++ v :: y∧P u v∧u≠10∧v≠10
theorem chg_rows {P:UInt8→UInt8→Prop}:∀ (R:List ByteArray) (b:List UInt8),Chg1 P (catL R).data.toList b→(∀ r∈R,(10:UInt8) ∉ r.data.toList) →
  ∃ (A:List ByteArray) (r r':ByteArray) (B:List ByteArray),R=A ++ r :: B∧b=(catL (A ++ r' :: B)).data.toList∧Chg1 P r.data.toList r'.data.toList∧(10:UInt8) ∉ r'.data.toList
 | [],b,h,_=>by
  obtain ⟨x,y,u,v,h1,_⟩:=h
  have:(catL []).data.toList=[]:=rfl
  rw [this] at h1
  simp at h1
 | r :: R,b,h,hr=>by
  obtain ⟨x,y,u,v,h1,rfl,h3,h4,h5⟩:=h
  have e:(catL (r :: R)).data.toList=r.data.toList ++ 10 :: (catL R).data.toList:=by
   show (r ++ (lf ++ catL R)).data.toList=_
   rw [zAs,zAs];rfl
  rw [e] at h1
  have hr0:=hr r zP
  rcases List.append_eq_append_iff.1 h1 with ⟨z,hz1,hz2⟩ | ⟨z,hz1,hz2⟩
  ·
   cases z with
   | nil =>
    simp at hz2
    exact absurd hz2.1.symm h4
   | cons w z =>
    simp at hz2
    obtain ⟨rfl,hz2⟩:=hz2
    obtain ⟨A,s,s',B,k1,k2,k3,k4⟩:=chg_rows R (z ++ v :: y) ⟨z,y,u,v,hz2,rfl,h3,h4,h5⟩ fun q hq=>hr q (zQ _ hq)
    refine ⟨r :: A,s,s',B,by rw [k1];rfl, ?_,k3,k4⟩
    have e':(catL (r :: (A ++ s' :: B))).data.toList=r.data.toList ++ 10 :: (catL (A ++ s' :: B)).data.toList:=by
     show (r ++ (lf ++ catL (A ++ s' :: B))).data.toList=_
     rw [zAs,zAs];rfl
    show _=(catL (r :: (A ++ s' :: B))).data.toList
    rw [e',← k2,hz1];simp
  ·
   cases z with
   | nil =>
    simp at hz2
    exact absurd hz2.1 h4
   | cons w z =>
    simp at hz2
    obtain ⟨rfl,hz2⟩:=hz2
    refine ⟨[],r,⟨(x ++ v :: z).toArray⟩,R,rfl, ?_,⟨x,z,u,v,hz1,rfl,h3,h4,h5⟩, ?_⟩
    ·show _=((⟨(x ++ v :: z).toArray⟩:ByteArray) ++ (lf ++ catL R)).data.toList
     rw [zAs,zAs,hz2]
     simp [lf]
    ·show (10:UInt8) ∉ x ++ v :: z
     rw [hz1] at hr0
     simp at hr0 ⊢
     exact ⟨hr0.1,fun hh=>h5 hh.symm,hr0.2.2⟩
def Dig (u v:UInt8):Prop:=u≠v∧u.toNat≤v.toNat+9∧v.toNat≤u.toNat+9
theorem catL_inj:∀ {R R':List ByteArray},(∀ r∈R,(10:UInt8) ∉ r.data.toList)→(∀ r∈R',(10:UInt8) ∉ r.data.toList)→catL R=catL R'→R=R':=by
 intro R R' h h' e
 have h1:=cat_split R h
 have h2:=cat_split R' h'
 rw [e,h2] at h1
 exact (List.append_cancel_right h1).symm
def endOk (a:Nat):Bool:=(List.range 149).all fun b=>decide (a=b) || decide ((endB a).data.toList≠(endB b).data.toList)
set_option maxRecDepth 1000000 in
theorem ends_ok:(List.range 149).all endOk=true:=by decide +kernel
theorem end_inj {a b:Int} (ha:0≤a∧a<149) (hb:0≤b∧b<149) (e:endB a=endB b):a=b:=by
 obtain ⟨x,rfl⟩:∃ x:Nat,a=x:=⟨a.toNat,by omega⟩
 obtain ⟨y,rfl⟩:∃ y:Nat,b=y:=⟨b.toNat,by omega⟩
 have h:=List.all_eq_true.1 ends_ok x (List.mem_range.2 (by omega))
 unfold endOk at h
 have h:=List.all_eq_true.1 h y (List.mem_range.2 (by omega))
 rw [Bool.or_eq_true,decide_eq_true_iff,decide_eq_true_iff] at h
 rcases h with h | h
 ·omega
 ·exact absurd (by rw [e]) h
theorem ba_get (r:ByteArray) (k:Nat):r[k]? = r.data.toList[k]?:=by
 rw [Array.getElem?_toList];rfl
theorem row_change {r r':ByteArray} (h:Chg1 Dig r.data.toList r'.data.toList):r'.size=r.size ∧ ∃ (p d:Nat),p<r.size∧1≤d∧d≤9∧(rs r' r'.size=rs r r.size+((d * (p+1):Nat):Int)∨rs r' r'.size=rs r r.size - ((d * (p+1):Nat):Int)):=by
 obtain ⟨x,y,u,v,h1,h2,⟨h3,h4,h5⟩,_,_⟩:=h
 have hs:r.size=x.length+1+y.length:=by
  have:r.size=r.data.toList.length:=by rw [Array.length_toList];rfl
  rw [this,h1];simp;omega
 have hs':r'.size=x.length+1+y.length:=by
  have:r'.size=r'.data.toList.length:=by rw [Array.length_toList];rfl
  rw [this,h2];simp;omega
 have hk:∀ k,k≠x.length→r'[k]? = r[k]?:=fun k hk=>by
  rw [ba_get,ba_get,h1,h2]
  rcases zU k x.length with g | g
  ·rw [qE g,qE g]
  ·rw [zV g,zV g]
   obtain ⟨q,hq⟩:∃ q,k - x.length=q+1:=⟨k - x.length - 1,by omega⟩
   rw [hq];rfl
 have gu:r[x.length]? = some u:=by rw [ba_get,h1];simp
 have gv:r'[x.length]? = some v:=by rw [ba_get,h2];simp
 have hn:u.toNat≠v.toNat:=fun e=>h3 (UInt8.toNat_inj.1 e)
 have hc:=rs_change hk r.size
 rw [gu,gv,if_pos (by omega)] at hc
 simp only [qD] at hc
 refine ⟨by omega, ?_⟩
 rw [show r'.size=r.size by omega,hc]
 rcases zU u.toNat v.toNat with g | g
 ·refine ⟨x.length,v.toNat - u.toNat,by omega,by omega,by omega,.inl ?_⟩
  rw [Int.natCast_mul,show (((v.toNat - u.toNat:Nat)):Int)=(v.toNat:Int) - u.toNat by omega]
 ·refine ⟨x.length,u.toNat - v.toNat,by omega,by omega,by omega,.inr ?_⟩
  rw [Int.natCast_mul,show (((u.toNat - v.toNat:Nat)):Int)=(u.toNat:Int) - v.toNat by omega,Int.sub_mul,Int.sub_mul]
  omega
theorem ck_rows {A B:List ByteArray} {r r':ByteArray}:ck (A ++ r' :: B) (A ++ r' :: B).length=ck (A ++ r :: B) (A ++ r :: B).length+(rs r' r'.size - rs r r.size) * (A.length+1:Nat):=by
 have g:∀ q:ByteArray,(A ++ q :: B).getD A.length ByteArray.empty=q:=fun q=>by
  rw [zG,zV (zM _),Nat.sub_self];rfl
 have h:∀ k,k≠A.length→(A ++ r' :: B).getD k ByteArray.empty=(A ++ r :: B).getD k ByteArray.empty:=fun k hk=>by
  rw [zG,zG]
  rcases zU k A.length with g1 | g1
  ·rw [qE g1,qE g1]
  ·rw [zV g1,zV g1]
   obtain ⟨q,hq⟩:∃ q,k - A.length=q+1:=⟨k - A.length - 1,by omega⟩
   rw [hq];rfl
 have hl:(A ++ r' :: B).length=(A ++ r :: B).length:=by simp
 have:=ck_change h (A ++ r' :: B).length
 rw [if_pos (by simp),g,g] at this
 rw [this,hl]
theorem spoilt_none {s:Survey} (h:Sv s) {t:ByteArray} (hc:Chg1 Dig (textB s).data.toList t.data.toList):parsedB t=none:=by
 cases hp:parsedB t with
 | none=>rfl
 | some l' =>
  exfalso
  obtain ⟨_,ht,_⟩:=zDp hp
  have hsm:=parsed_small hp
  have hck:=ckL_bd s
  have hck':=ckL_bd l'
  have hr:∀ r∈rowsL s ++ [endB (ckL s)],(10:UInt8) ∉ r.data.toList:=fun r hr=>by
   rcases List.mem_append.1 hr with hr | hr
   ·exact small_rows (sv_small h) r hr
   ·rw [yD] at hr;subst hr;exact end_no (by omega)
  rw [text_cat] at hc ht
  obtain ⟨A,r,r',B,e1,e2,e3,e4⟩:=chg_rows _ _ hc hr
  have hs:t=catL (A ++ r' :: B):=ba_ext e2
  have hr':∀ q∈rowsL l' ++ [endB (ckL l')],(10:UInt8) ∉ q.data.toList:=fun q hq=>by
   rcases List.mem_append.1 hq with hq | hq
   ·exact small_rows hsm q hq
   ·rw [yD] at hq;subst hq;exact end_no (by omega)
  have hAB:∀ q∈A ++ r' :: B,(10:UInt8) ∉ q.data.toList:=fun q hq=>by
   rcases List.mem_append.1 hq with hq | hq
   ·exact hr q (by rw [e1];exact List.mem_append_left _ hq)
   ·rcases List.mem_cons.1 hq with rfl | hq
    ·exact e4
    ·exact hr q (by rw [e1];exact List.mem_append_right _ (zQ _ hq))
  have eq:=catL_inj hr' hAB (by rw [ht,hs])
  obtain ⟨hsz,p,d,hpr,hd1,hd2,hrs⟩:=row_change e3
  rcases List.eq_nil_or_concat B with rfl | ⟨B0,e,rfl⟩
  ·have k1:=List.append_inj' e1 rfl
   have k2:=List.append_inj' eq rfl
   have hck2:ckL l'=ckL s:=by rw [ckL_mod,ckL_mod,k2.1,k1.1]
   have hrr:r'=r:=by
    have a:=k1.2;have b:=k2.2
    simp at a b
    rw [← a,← b,hck2]
   rw [hrr] at hrs
   have:1≤d * (p+1):=Nat.mul_pos (by omega) (by omega)
   rcases hrs with hrs | hrs <;> omega
  ·rw [List.concat_eq_append,← yC,← qK] at e1
   rw [List.concat_eq_append,← yC,← qK] at eq
   have k1:=List.append_inj' e1 rfl
   have k2:=List.append_inj' eq rfl
   have hce:ckL s=ckL l':=by
    have a:=k1.2;have b:=k2.2
    simp at a b
    exact end_inj hck hck' (by rw [a,b])
   have hrow:=ck_rows (A:=A) (B:=B0) (r:=r) (r':=r')
   rw [← k1.1,← k2.1] at hrow
   have hp17:=row_sv h r (by rw [k1.1];simp)
   have hAl:A.length<20:=by
    have:(rowsL s).length=A.length+(B0.length+1):=by rw [k1.1];simp
    have h2:(rowsL s).length=s.sights.length+1:=by simp [rowsL]
    have:=h.many
    omega
   have hx:=mul_no (d:=d) (p:=p) (i:=A.length) ⟨hd1,hd2⟩ (by omega) hAl
   rw [ckL_mod,ckL_mod] at hce
   have hX:((d * (p+1):Nat):Int) * ((A.length+1:Nat):Int)=((d * (p+1) * (A.length+1):Nat):Int):=by rw [Int.natCast_mul (d * (p+1))]
   generalize d * (p+1) * (A.length+1)=X at hx hX
   rcases hrs with hrs | hrs
   ·rw [hrs,show rs r r.size+((d * (p+1):Nat):Int) - rs r r.size=((d * (p+1):Nat):Int) by omega,hX] at hrow
    omega
   ·rw [hrs,show rs r r.size - ((d * (p+1):Nat):Int) - rs r r.size = -((d * (p+1):Nat):Int) by omega,Int.neg_mul,hX] at hrow
    omega

end Go.Av.Lx
end

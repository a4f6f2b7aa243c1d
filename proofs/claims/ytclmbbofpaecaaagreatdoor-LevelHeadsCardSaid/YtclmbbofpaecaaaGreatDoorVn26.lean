/- Part 26 of the proof. -/
import Derived.Test.YtclmbbofpaecaaaGreatDoorVn25
set_option linter.all false
set_option linter.unusedVariables false
set_option linter.unusedSimpArgs false
set_option linter.unusedSectionVars false
open Bool renaming and_self → zJ, not_true → zV, not_false → qF
open Int renaming le_refl → qZ
open List renaming getElem?_eq_getElem → zF, set_cons_succ → zH, set_cons_zero → zI, all_cons → zL, all_nil → zO, mem_cons_self → zP, mem_cons_of_mem → zR, length_cons → zW, getElem_mem → qB, length_append → qC, length_nil → qE, take_succ_eq_append_getElem → qM, cons_append → qX, headD_cons → yF, tail_cons → yH, take_length → yO
open Nat renaming reduceLeDiff → zA, reduceEqDiff → zB, reduceAdd → zC, reduceBEq → zD, le_of_ble_eq_true → zE, zero_le → qG
open Option renaming map_some → zX, bind_some → qT
section
set_option maxHeartbeats 8000000
namespace Go.Av.Lx
open Go Go.Av Go.Av.Tb Go.Av.Fx Go.Proofs
open Go.Lv (Sight Survey Sw Sv SightOk)
theorem slS2 (a:ByteArray) (W:List ByteArray) (t:Tail) (m:Nat) (h:W.length=m+2):sliceA T 171 (.slice (strs (a :: W)) (m+2+1) t) (some (.int .i64 1)) (some (.int .i64 (m+1:Nat))) none=some (.slice (strs (W.take m)) m .unk):=by
 have hd:descOf T 171=some (.slice 9):=rfl
 have h9:T 9=some ti9:=rfl
 have hb:bnd (some (.int .i64 1)) 0 (m+1)=some 1:=by simp [bnd];omega
 have hb2:bnd (some (.int .i64 (m+1:Nat))) (m+2+1) (m+2+1)=some (m+1):=by
  simp only [bnd]
  rw [if_pos (by omega)]
  rfl
 simp only [sliceA,hd,h9]
 rw [if_pos (by simp [ti9,h]),hb2]
 simp only [qT,hb,zX]
 simp [strs,ti9]
theorem foldT_app:∀ (l:List Sight) (xs ys:List ByteArray),foldT l (xs ++ ys)=(foldT l xs).bind fun l'=>foldT l' ys
 | l,[],ys=>rfl
 | l,x :: xs,ys=>by
  simp only [qX,foldT]
  cases toldB x 1 4 with
  | none=>rfl
  | some ns=>simp only [qT];exact foldT_app _ xs ys
theorem foldT_one (l:List Sight) (x:ByteArray):foldT l [x]=(toldB x 1 4).map fun ns=>l ++ [sgtN ns]:=by
 simp only [foldT];cases toldB x 1 4 <;> rfl
theorem foldT_next {l0 l:List Sight} {rows:List ByteArray} {k:Nat} (hk:k<rows.length) (h:foldT l0 (rows.take k)=some l):foldT l0 (rows.take (k+1))=(toldB rows[k] 1 4).map fun ns=>l ++ [sgtN ns]:=by
 rw [qM hk,foldT_app,h,qT,foldT_one]
theorem foldT_fail {l0 l:List Sight} {rows:List ByteArray} {k:Nat} (hk:k<rows.length) (h:foldT l0 (rows.take k)=some l) (h2:toldB rows[k] 1 4=none):foldT l0 rows=none:=by
 rw [show rows=rows.take (k+1) ++ rows.drop (k+1) by simp,foldT_app,foldT_next hk h,h2];rfl
theorem toldB_len {r:ByteArray} {kind many:Nat} {ns:List Int} (h:toldB r kind many=some ns):ns.length=many:=by
 unfold toldB at h
 split at h
 ·rename_i hc
  cases h
  simp;omega
 ·cases h
theorem parsed_draw (a:AV) (l:List Sight) (V:AV) (nt:Nat) (tk:List Nat) (ho:Own (sgts l) l.length V nt tk) (hl:l.length≤1000) (x y z w:Int) (t0 t2 t26 t27 t28:AV) (z0:List AV) (Q:AQ)
  (h:∀ V' tk',Own (sgts (l ++ [⟨x,y,z,w⟩])) (l ++ [(⟨x,y,z,w⟩:Sight)]).length V' (nt+1) tk'→Q .normal [(0,t0),(2,t2),(4,.ref 1 0),(26,t26),(27,t27),(28,t28)] ⟨[some (.cells z0),some (.cells [a,V'])],nt+1,tk'⟩) :
  WC (E 60) (.draw [0,2,4,26,27,28] 16 [] r124_8) Q [(0,t0),(2,t2),(4,.ref 1 0),(26,t26),(27,t27),(28,t28),(7,sl [x,y,z,w])] ⟨[some (.cells z0),some (.cells [a,V])],nt,tk⟩:=by
 obtain ⟨q1,q2⟩:=ho.cells
 have i0:0≤(0:Int)∧(0:Int)<((4:Nat):Int):=by decide
 have i1:0≤(1:Int)∧(1:Int)<((4:Nat):Int):=by decide
 have i2:0≤(2:Int)∧(2:Int)<((4:Nat):Int):=by decide
 have i3:0≤(3:Int)∧(3:Int)<((4:Nat):Int):=by decide
 have bs:zAe T 22 1 [(0,.agg (sgtC ⟨x,y,z,w⟩))]=some (.slice (sgtC ⟨x,y,z,w⟩) 1 .exact):=rfl
 simp only [go_sem,q1,q2,i0,i1,i2,i3,ints,List.map_cons,List.map_nil,zW,qE,Int.reduceToNat,qZ,and_self,zAa,bs,zB,zD,zC,reduceIte,reduceCtorEq,zA]
 refine zEa (lx:=sgtC ⟨x,y,z,w⟩) zEs ho (by rw [zBf];omega) rfl (by decide) rfl (by omega) fun V2 tk2 g => ?_
 have go:=g.own
 obtain ⟨p1,p2⟩:=go.cells
 rw [sgts_snoc] at go
 have hh:=h V2 tk2 (by rw [qC];exact go)
 simp only [go_sem,p1,p2,zAd,zL,zO,zJ,splice,zI,zH,and_self,zB,zD,zC,reduceIte,reduceCtorEq,zA]
 exact hh
set_option maxHeartbeats 8000000
theorem sur_sub (a:Int) (l:List Sight) {V:AV} {nt:Nat} {tk:List Nat} (h:Own (sgts l) l.length V nt tk):Sub (.agg [.int .i64 a,V]) (surA ⟨a,l⟩):=
 Sub.agg (SubL.cons (Sub.refl _) (SubL.cons h.sub (SubL.refl [])))
theorem sm_i64 {n:Int} (h:smI n):i64 n:=⟨by have:=h.1;omega,by have:=h.2;omega⟩
theorem small_plain {s:Survey} (h:Small s) (hl:s.sights.length≤1000):PlainS s:=⟨hl,sm_i64 h.1,fun x hx n hn=>sm_i64 (h.2 x hx n hn)⟩
theorem parsed_ac (s:ByteArray) (hs:s.size≤900) (S:St):AC Tryz.prog 124 [.str s] S fun e S' =>
  ((∃ v,e=.ret v ∧ ∃ l,parsedB s=some l∧v=surA l)∨(∃ v,e=.panic v∧parsedB s=none∧Gives v))∧S'=S:=by
 refine AC.of_iso ?_ rfl (fun v ⟨ns,_,h⟩=>by subst h;simp [AV.bnd,bndL]) (fun v h=>h.2.bnd) S
 refine told_sub (R:=fun e _=>(∃ v,e=.ret v ∧ ∃ l,parsedB s=some l∧Sub v (surA l))∨(∃ v,e=.panic v∧parsedB s=none∧Gives v)) ?_ ?_ ?_
 ·refine AC.run (E_ok 60) mix Tryz.func124 m124 rfl rfl rfl (zE rfl) ?_
  have hR:=splitL_len s 10
  have hsz:∀ r∈splitL s 10,r.size≤900:=fun r hr=>Nat.le_trans (splitL_size hr) hs
  have hP:parsedB s=if 3≤(splitL s 10).length then
   (toldB ((splitL s 10).headD ByteArray.empty) 0 1).bind fun ns =>
    (foldT [] ((splitL s 10).tail.take ((splitL s 10).length - 3))).bind fun l =>
     if textB ⟨ns.getD 0 0,l⟩=s then some ⟨ns.getD 0 0,l⟩ else none
   else none:=rfl
  rw [hP]
  clear hP
  simp only [go_sem,zB,zD,zC,reduceIte,reduceCtorEq,zA]
  refine cp n164 (Split_pc s 10 (by omega)) (SubL.refl _) ?_
  generalize splitL s 10=R at *
  by_cases h3:¬ 3≤R.length
  ·have h3':¬ (R.length:Int) ≥ 3:=by omega
   simp only [go_sem,zAa,h3',decide_false,zB,zD,zC,reduceIte,reduceCtorEq,zA]
   rw [if_neg h3]
   exact sn s fun v h=>.inr ⟨v,rfl,rfl,h⟩
  have h3:3≤R.length:=Decidable.not_not.1 h3
  have h3':(R.length:Int) ≥ 3:=by omega
  rw [if_pos h3]
  simp only [go_sem,zAa,h3',decide_true,zB,zD,zC,reduceIte,reduceCtorEq,zA]
  refine cp n165 (sure_ok s) (SubL.refl _) ?_
  cases R with
  | nil=>simp at h3
  | cons r0 R =>
   have z:(0:Int)<((R.length+1:Nat):Int):=by omega
   obtain ⟨m,hm⟩:∃ m,R.length=m+2:=⟨R.length - 2,by simp at h3;omega⟩
   have hm3:(r0 :: R).length - 3=m:=by simp [hm]
   rw [hm3,yH,yF]
   simp only [go_sem,zAa,z,qZ,and_true,Int.toNat_zero,zCr,zX,yF,yH,zB,zD,zC,reduceIte,reduceCtorEq,zA]
   have h0:=hsz r0 zP
   refine cac n166 (told_ac r0 0 1 (by decide) (by decide) (by omega) _) (fun v S' h => ?_) (fun v S' h => ?_)
   ·obtain ⟨⟨v',e,ns,hns,rfl⟩ | ⟨v',e,_⟩,rfl⟩:=h
    rotate_left
    ·cases e
    cases e
    have hn1:=toldB_len hns
    obtain ⟨_,hn2⟩:=zDw hns
    rw [hns]
    match ns,hn1,hn2 with
    | [a],_,hn2 =>
     simp only [qT,List.getD_cons_zero]
     clear hns
     have q0:0≤(0:Int)∧(0:Int)<((1:Nat):Int):=by decide
     have bd24:buildA T 24 [(0,.int .i64 a)]=some (.agg [.int .i64 a,.nilS]):=rfl
     simp only [go_sem,q0,bd24,ints,List.map_cons,List.map_nil,zW,qE,qZ,Int.reduceToNat,zAd,AV.cells,AV.one,zL,zO,zJ,splice,zI,zH,and_self,zB,zD,zC,reduceIte,reduceCtorEq,zA]
     have hRl:R.length≤902:=by simp at hR;omega
     have w1:IntKind.i64.wrap (((R.length+1:Nat):Int) - 2)=(m+1:Nat):=by rw [wrap64 (by omega)];omega
     have hsl:=slS2 r0 R .exact m hm
     rw [hm] at w1
     simp only [go_sem,zAa,hm,w1,hsl,zB,zD,zC,reduceIte,reduceCtorEq,zA]
     have hrs:∀ r∈R.take m,r.size≤900:=fun r hr=>hsz r (zR _ (List.mem_of_mem_take hr))
     have hrl:(R.take m).length=m:=by simp [hm]
     have hm9:m≤900:=by omega
     have ha:smI a:=hn2 a zP
     clear hsl w1 hm hm3 hsz hR h3 h3' z h0 q0 hn2
     generalize hrows:R.take m=rows at *
     clear hrows hRl
     refine zAu (fun n ts' S' => ∃ k l V nt tk,k≤m∧n=m - k∧foldT [] (rows.take k)=some l∧l.length=k∧(∀ x∈l,∀ n∈nsS x,smI n)∧Own (sgts l) l.length V nt tk∧ts'=[(0,.str s),(2,.ref 0 0),(4,.ref 1 0),(26,.slice (strs rows) m .unk),(27,.int .i64 m),(28,.int .i64 (k:Nat))]∧S'=⟨[some (.cells [.int .i64 0,.nilS]),some (.cells [.int .i64 a,V])],nt,tk⟩) m ⟨0,[],.nilS,0,[],qG _,rfl,rfl,rfl,fun x hx=>(by cases hx),Own.nil _ _,rfl,rfl⟩ ?_
     rintro n ts' S' ⟨k,l,V,nt,tk,hk,rfl,hf,hlk,hsm,ho,rfl,rfl⟩
     obtain ⟨q1,q2⟩:=ho.cells
     obtain ⟨D,hD⟩:∃ D,MC.draw [0,2,4,26,27,28] 16 [] r124_8=D:=⟨_,rfl⟩
     unfold l124_0
     rw [hD]
     by_cases h':k<m
     ·have h1:(k:Int)<m:=by omega
      have h2:0≤(k:Int)∧(k:Int)<m:=by omega
      have hkr:k<rows.length:=by omega
      have h3:rows[k]? = some rows[k]:=zF hkr
      have h4:IntKind.i64.wrap ((k:Int)+1)=(k+1:Nat):=wrap64 (by omega)
      have hsz:=hrs _ (qB hkr)
      have hfail:=fun h=>foldT_fail hkr hf h
      have hnxt:=foldT_next hkr hf
      simp only [go_sem,zAa,h1,decide_true,h2,zCr,h3,zAi,zB,zD,zC,reduceIte,reduceCtorEq,zA]
      refine cac n166 (told_ac rows[k] 1 4 (by decide) (by decide) (by omega) _) (fun v S' h => ?_) (fun v S' h => ?_)
      ·obtain ⟨⟨v',e,ns,hns,rfl⟩ | ⟨v',e,_⟩,rfl⟩:=h
       rotate_left
       ·cases e
       cases e
       have hn1:=toldB_len hns
       obtain ⟨_,hn2⟩:=zDw hns
       rw [hns] at hnxt
       match ns,hn1,hn2 with
       | [x,y,z,w],_,hn2 =>
        simp only [go_sem,zB,zD,zC,reduceIte,reduceCtorEq,zA]
        subst hD
        refine parsed_draw _ l V nt tk ho (by omega) x y z w _ _ _ _ _ _ _ fun V' tk' go => ?_
        simp only [go_sem,h4,zB,zD,zC,reduceIte,reduceCtorEq,zA]
        refine zAj (m - (k+1)) (by omega) ⟨k+1,l ++ [⟨x,y,z,w⟩],V',nt+1,tk',h',rfl,(by rw [hnxt];rfl),(by simp;omega),fun u hu n hn => ?_,go,rfl,rfl⟩
        rcases List.mem_append.1 hu with hu | hu
        ·exact hsm u hu n hn
        ·rw [List.mem_singleton.1 hu] at hn
         exact hn2 n hn
      ·obtain ⟨⟨v',e,_⟩ | ⟨v',e,hn,hg⟩,rfl⟩:=h
       ·cases e
       ·cases e
        exact .inr ⟨_,rfl,by rw [hfail hn];rfl,hg⟩
     ·have h1:¬ (k:Int)<m:=by omega
      have e:k=m:=by omega
      have ef:rows.take k=rows:=by rw [e,← hrl,yO]
      rw [ef] at hf
      rw [hf,qT]
      simp only [go_sem,h1,decide_false,q1,q2,zB,zD,zC,reduceIte,reduceCtorEq,zA]
      refine cp n122 (text_pc ⟨a,l⟩ (small_plain ⟨ha,hsm⟩ (by show l.length≤1000;omega))) (SubL.cons (sur_sub a l ho) (SubL.refl [])) ?_
      simp only [go_sem,eqS,zB,zD,zC,reduceIte,reduceCtorEq,zA]
      by_cases ht:textB ⟨a,l⟩=s
      ·rw [decide_eq_true ht,if_pos ht]
       refine cp n165 (sure_ok s) (SubL.refl _) ?_
       simp only [go_sem,q1,q2,zAd,zL,zO,zJ,splice,zI,zH,and_self,Tryz.f124,zB,zD,zC,reduceIte,reduceCtorEq,zA]
       exact .inl ⟨_,rfl,_,rfl,sur_sub a l ho⟩
      ·rw [decide_eq_false ht,if_neg ht]
       exact sn s fun v h=>.inr ⟨v,rfl,rfl,h⟩
   ·obtain ⟨⟨v',e,_⟩ | ⟨v',e,hn,h⟩,rfl⟩:=h
    ·cases e
    ·cases e
     exact .inr ⟨_,rfl,by rw [hn];rfl,h⟩
 ·rintro v S' (⟨v',e,l,h1,h2⟩ | ⟨v',e,_⟩)
  ·cases e;exact ⟨surA l,h2,.inl ⟨_,rfl,l,h1,rfl⟩⟩
  ·cases e
 ·rintro v S' (⟨v',e,_⟩ | h)
  ·cases e
  ·exact .inr h
def readA (s:ByteArray):AV:=
 if s.size≤400 then
  match parsedB s with
  | some l=>if zAp l=true then .tuple [surA l,.int .i64 0] else .tuple [.agg [.int .i64 0,.nilS],.int .i64 2]
  | none=>.tuple [.agg [.int .i64 0,.nilS],.int .i64 4]
 else .tuple [.agg [.int .i64 0,.nilS],.int .i64 3]
theorem readA_bnd (s:ByteArray):(readA s).bnd 0 0=true:=by
 unfold readA
 repeat' split
 all_goals simp [bndL,AV.bnd]
theorem Read1_ac (s:ByteArray) (hs:s.size≤900) (S:St) (i j:Nat) (z0 z1:AV) (h1:cellsAt S.heap i=some [.str s]) (h2:cellsAt S.heap j=some [z0,z1]):AC Tryz.prog 123 [.ref i 0,.ref j 0] S fun e S' =>
  (∃ l,parsedB s=some l∧e=.ret (.tuple [])∧S'=⟨setH S.heap j (.cells (surC l)),S.nt,S.toks⟩)∨(parsedB s=none∧(∃ v,e=.panic v∧Gives v)∧S'=S):=by
 refine AC.run (Es_ok _ S) mix Tryz.func123 m123 rfl rfl rfl (zE rfl) ?_
 simp only [go_sem,h1,h2,zB,zD,zC,reduceIte,reduceCtorEq,zA]
 refine zCb (E:=Es _ S) n124 (parsed_ac s hs _) (fun v S' h => ?_) (fun v S' h => ?_)
 ·obtain ⟨⟨v',e,l,hl,rfl⟩ | ⟨v',e,_⟩,rfl⟩:=h
  ·cases e
   simp only [go_sem,h2,zAd,AV.cells,AV.one,zL,zO,zJ,splice,zI,zH,and_self,zW,qE,Tryz.f123,zB,zD,zC,reduceIte,reduceCtorEq,zA]
   exact .inl ⟨l,hl,rfl,rfl⟩
  ·cases e
 ·obtain ⟨⟨v',e,_⟩ | ⟨v',e,hn,h⟩,rfl⟩:=h
  ·cases e
  ·cases e
   exact .inr ⟨hn,⟨_,rfl,h⟩,rfl⟩
theorem cellsAt_setH {h:List (Option Blk)} {b:Nat} {l l':List AV} (hb:cellsAt h b=some l):cellsAt (setH h b (.cells l')) b=some l':=by
 have:=zEe (l':=l') hb []
 rwa [List.append_nil] at this
theorem parsed_few {t:ByteArray} {s:Survey} (h:parsedB t=some s) (ht:t.size≤900):s.sights.length≤1000:=by
 obtain ⟨_,_,ns,h1,h2,h3⟩:=parsedB_some h
 have h4:=fold_len _ h3
 have h5:=splitL_len t 10
 rw [List.length_take,List.length_tail] at h4
 rw [h4]
 simp
 omega
theorem Read_pc (s:ByteArray) (hs:s.size<9223372036854775807):PC Tryz.prog 60 [.str s] (.pure (readA s)):=by
 refine PC.of_empty (AC.run (E_ok 21) mix Tryz.func60 m60 rfl rfl rfl (zE rfl) ?_) rfl (readA_bnd s)
 unfold readA
 have bd0:buildA T 24 []=some (.agg [.int .i64 0,.nilS]):=rfl
 by_cases h3:¬ s.size≤400
 ·have h3':(s.size:Int) > 400:=by omega
  rw [if_neg h3]
  simp only [go_sem,boxA,zAa,h3',decide_true,bd0,zAd,AV.cells,AV.one,zL,zO,zJ,splice,zI,zH,and_self,Tryz.f60,zB,zD,zC,reduceIte,reduceCtorEq,zA]
 have h3:s.size≤400:=Decidable.not_not.1 h3
 have h3':¬ (s.size:Int) > 400:=by omega
 rw [if_pos h3]
 simp only [go_sem,boxA,zAa,h3',decide_false,zB,zD,zC,reduceIte,reduceCtorEq,zA]
 refine cac n92 (try_ac (R:=fun e S' => ∃ k:Int,e=.ret (.int .i64 k)∧((∃ l,parsedB s=some l∧k=0∧cellsAt S'.heap 1=some [.int .i64 0,.nilS]∧cellsAt S'.heap 2=some (surC l))∨(parsedB s=none∧k=4∧cellsAt S'.heap 1=some [.int .i64 0,.nilS]))) n123 (Read1_ac s (by omega) _ 0 2 _ _ rfl rfl) ?_ ?_) ?_ ?_
 ·rintro v S' (⟨l,hl,e,rfl⟩ | ⟨_,⟨v',e,_⟩,_⟩)
  ·exact ⟨rfl,0,rfl,.inl ⟨l,hl,rfl,rfl,rfl⟩⟩
  ·cases e
 ·rintro v S' (⟨l,hl,e,rfl⟩ | ⟨hn,⟨v',e,why,rfl⟩,rfl⟩)
  ·cases e
  ·cases e
   exact ⟨rfl,.inr ⟨why,rfl,4,rfl,.inr ⟨hn,rfl,rfl⟩⟩⟩
 ·rintro v S' ⟨k,e,⟨l,hl,rfl,hc1,hc2⟩ | ⟨hn,rfl,hc1⟩⟩
  ·cases e
   rw [hl]
   have z0:¬ ((0:Int)≠0):=by decide
   simp only [go_sem,z0,decide_false,hc1,hc2,zB,zD,zC,reduceIte,reduceCtorEq,zA]
   have hfew:=parsed_few hl (by omega)
   refine cp n89 (zBn l (by show l.sights.length<9223372036854775807;omega)) (SubL.refl _) ?_
   have hp:=fun l'=>cellsAt_setH (l':=l') hc1
   cases hb:zAp l
   ·simp only [go_sem,zAg,qF,hc1,bd0,hp,zAd,AV.cells,AV.one,zL,zO,zJ,splice,zI,zH,and_self,zW,qE,Tryz.f60,zB,zD,zC,reduceIte,reduceCtorEq,zA]
   ·simp only [go_sem,zAg,zV,hc1,hc2,hp,zAd,AV.cells,AV.one,zL,zO,zJ,splice,zI,zH,and_self,zW,qE,Tryz.f60,zB,zD,zC,reduceIte,reduceCtorEq,zA]
  ·cases e
   rw [hn]
   have z0:((4:Int)≠0):=by decide
   have hp:=fun l'=>cellsAt_setH (l':=l') hc1
   simp only [go_sem,z0,decide_true,hc1,bd0,hp,zAd,AV.cells,AV.one,zL,zO,zJ,splice,zI,zH,and_self,zW,qE,Tryz.f60,zB,zD,zC,reduceIte,reduceCtorEq,zA]
 ·rintro v S' ⟨k,e,_⟩
  cases e
end Go.Av.Lx
end
section
namespace Go.Av.Lx
open Go Go.Av Go.Proofs
open Go.Lv (Sight Survey Sw Sv SightOk)


end Go.Av.Lx
end

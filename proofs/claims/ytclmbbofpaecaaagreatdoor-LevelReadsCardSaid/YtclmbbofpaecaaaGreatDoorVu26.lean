/- Part 26 of the proof. -/
import Derived.Test.YtclmbbofpaecaaaGreatDoorVu25
import Derived.Test.YtclmbbofpaecaaaGreatDoorVu17
import Derived.Test.YtclmbbofpaecaaaGreatDoorVu14
set_option linter.all false
set_option linter.unusedVariables false
set_option linter.unusedSimpArgs false
set_option linter.unusedSectionVars false
open Bool renaming and_self → zJ, and_eq_true → zR, not_true → zX, not_false → qF
open Int renaming le_refl → yF
open List renaming getElem?_eq_getElem → zF, set_cons_succ → zG, set_cons_zero → zH, all_cons → zK, all_nil → zM, mem_cons_self → zO, mem_cons_of_mem → zQ, length_cons → zT, length_nil → zZ, getElem_mem → qA, length_append → qE, take_succ_eq_append_getElem → qG, map_append → qP, all_eq_true → qX, take_length → qY, cons_append → yB, range_succ → yI, headD_cons → yM, length_take → yQ, tail_cons → yS
open Nat renaming reduceLeDiff → zA, reduceEqDiff → zB, reduceAdd → zC, reduceBEq → zD, le_of_ble_eq_true → zE, le_refl → zN, zero_le → qI
open Option renaming map_some → zV, bind_some → zY
section
set_option maxHeartbeats 8000000
namespace Go.Av.Lx
open Go Go.Av Go.Av.Tb Go.Av.Fx Go.Proofs
open Go.Lv (Sight Survey Sw Sv SightOk)
theorem next_in {x:ByteArray} {j k:Nat} {tk:List Nat} (h:j<x.size):Go.Av.nextA ⟨[some (.siter x j)],k,tk⟩ (.ref 0 0)=some (.write 0 (.siter x (j+(Utf8.decode x j).2)) (.tuple [.bool true,.int .i64 j,.int .i32 (Utf8.decode x j).1])):=by
 show (if j<x.size then _ else _)=_
 rw [if_pos h]
theorem next_out {x:ByteArray} {j k:Nat} {tk:List Nat} (h:¬ j<x.size):Go.Av.nextA ⟨[some (.siter x j)],k,tk⟩ (.ref 0 0)=some (.pure (.tuple [.bool false])):=by
 show (if j<x.size then _ else _)=_
 rw [if_neg h]
theorem wrap32 {x:Int} (h:-2147483648≤x∧x≤2147483647):IntKind.i32.wrap x=x:=by
 rw [IntKind.wrap_i32];omega
theorem body_lt (w:ByteArray):decide (((bodyW w).size:Int)<w.size)=negW w:=by
 cases h:negW w
 ·have e:bodyW w=w:=by unfold bodyW;rw [if_neg (by rw [h];decide)]
  rw [e,decide_eq_false (by omega)]
 ·have h0:0<w.size:=by
   unfold negW at h
   rw [zR,decide_eq_true_iff] at h
   exact h.1
  have e:bodyW w=w.extract 1 w.size:=by unfold bodyW;rw [if_pos h]
  rw [e,ByteArray.size_extract,decide_eq_true (by omega)]
theorem bodyW_size (w:ByteArray):(bodyW w).size≤w.size:=by
 unfold bodyW
 split
 ·rw [ByteArray.size_extract];omega
 ·exact zN _
theorem number_ac (w:ByteArray) (hw:w.size≤1000000) (S:St):AC Tryz.prog 185 [.str w] S fun e S'=>((∃ v,e=.ret v∧okW w=true∧v=.int .i64 (valW w))∨(∃ v,e=.panic v∧okW w=false∧Gives v))∧S'=S:=by
 refine AC.of_iso (AC.run (E_ok 51) mix Tryz.func185 m185 rfl rfl rfl (zE rfl) ?_) rfl (fun v ⟨_,h⟩=>by subst h;rfl) (fun v h=>h.2.bnd) S
 simp only [go_sem,zB,zD,zC,reduceIte,reduceCtorEq,zA]
 refine cp n196 (Trim_pc w hw) (SubL.refl _) ?_
 have hlt:=body_lt w
 have hxw:=bodyW_size w
 obtain ⟨x,hx⟩:∃ x,bodyW w=x:=⟨_,rfl⟩
 rw [hx] at hlt hxw ⊢
 have hV:valW w=if negW w=true then -decP x x.size else decP x x.size:=by unfold valW;rw [hx]
 simp only [go_sem,rangeA,zB,zD,zC,reduceIte,reduceCtorEq,zA]
 refine zBj x.size (fun j=>digs x j=true∧(j≠0→x.size≤4)) (fun j=>[(0,.str w),(3,.str x),(4,.int .i64 (decP x j)),(10,.ref 0 0)]) (fun j=>⟨[some (.siter x j)],0,[]⟩) ⟨rfl,fun h=>absurd rfl h⟩ rfl rfl ?_
 rintro j hj ⟨hD,hS⟩ I2 hI2
 by_cases h'':j<x.size
 ·by_cases hd:isD (x.get! j)=true
  ·have hd2:48≤(x.get! j).toNat∧(x.get! j).toNat≤57:=by simpa [isD] using hd
   have g1:=dec_lt (s:=x) (i:=j) (by omega)
   have g2:((x.get! j).toNat:Int) ≥ 48:=by omega
   have g3:((x.get! j).toNat:Int)≤57:=by omega
   have hn:=next_in (k:=0) (tk:=[]) h''
   rw [g1] at hn
   by_cases hs4:x.size≤4
   ·have g4:(x.size:Int)≤4:=by omega
    have hdb:=decP_bd hD (by omega)
    have hnext:digs x (j+1)=true:=by unfold digs at hD ⊢;rw [yI,List.all_append,hD];simp [hd]
    have w5:IntKind.i64.wrap (10 * decP x j)=10 * decP x j:=wrap64 (by omega)
    have w6:IntKind.i32.wrap (((x.get! j).toNat:Int) - 48)=((x.get! j).toNat:Int) - 48:=wrap32 (by omega)
    have w7:IntKind.i64.wrap (((x.get! j).toNat:Int) - 48)=((x.get! j).toNat:Int) - 48:=wrap64 (by omega)
    have w8:IntKind.i64.wrap (10 * decP x j+(((x.get! j).toNat:Int) - 48))=10 * decP x j+(((x.get! j).toNat:Int) - 48):=wrap64 (by omega)
    simp only [go_sem,l185_0,hn,zAc,zAd,zAa,g2,g3,g4,decide_true,zB,zD,zC,reduceIte,reduceCtorEq,zA]
    refine cp n165 (sure_ok w) (SubL.refl _) ?_
    simp only [go_sem,convA,w5,w6,w7,w8,zB,zD,zC,reduceIte,reduceCtorEq,zA]
    exact hI2 h'' ⟨hnext,fun _=>hs4⟩
   ·have g4:¬ (x.size:Int)≤4:=by omega
    have hf:okW w=false:=by unfold okW;rw [hx,decide_eq_false hs4];simp
    simp only [go_sem,l185_0,hn,zAc,zAd,zAa,g2,g3,g4,decide_true,decide_false,zB,zD,zC,reduceIte,reduceCtorEq,zA]
    exact sn w fun v h=>.inr ⟨v,rfl,hf,h⟩
  ·have hd2:¬ (48≤(x.get! j).toNat∧(x.get! j).toNat≤57):=by simpa [isD] using hd
   have hf:okW w=false:=by
    have:digs x x.size=false:=by
     unfold digs
     rw [List.all_eq_false]
     exact ⟨j,List.mem_range.2 h'',hd⟩
    unfold okW;rw [hx,this];simp
   have hr:¬ (48≤(Utf8.decode x j).1∧(Utf8.decode x j).1≤57):=by
    by_cases hb:(x.get! j).toNat<128
    ·rw [dec_lt hb];exact hd2
    ·have:=dec_ge hb;omega
   have hn:=next_in (k:=0) (tk:=[]) h''
   generalize Utf8.decode x j=D at *
   by_cases c1:(D.1:Int) ≥ 48
   ·have c2:¬ (D.1:Int)≤57:=by omega
    simp only [go_sem,l185_0,hn,zAc,zAd,zAa,c1,c2,decide_true,decide_false,zB,zD,zC,reduceIte,reduceCtorEq,zA]
    exact sn w fun v h=>.inr ⟨v,rfl,hf,h⟩
   ·simp only [go_sem,l185_0,hn,zAc,zAd,zAa,c1,decide_true,decide_false,zB,zD,zC,reduceIte,reduceCtorEq,zA]
    exact sn w fun v h=>.inr ⟨v,rfl,hf,h⟩
 have e:j=x.size:=by omega
 subst e
 clear hI2 hj
 have hn:=next_out (k:=0) (tk:=[]) h''
 have hne:=neS x ⟨#[]⟩
 by_cases h0:x.size=0
 ·have hx0:¬ x≠⟨#[]⟩:=fun hn=>hn (by
   cases x with
   | mk d=>simp only [ByteArray.mk.injEq];exact Array.eq_empty_of_size_eq_zero h0)
  have hf:okW w=false:=by unfold okW;rw [hx,decide_eq_false (p:=x.size≠0) (fun hn=>hn h0)];simp
  rw [decide_eq_false hx0] at hne
  cases hneg:negW w
  ·rw [hneg] at hlt
   simp only [go_sem,l185_0,hn,zAc,zAd,zAa,hlt,zB,zD,zC,reduceIte,reduceCtorEq,zA]
   simp only [go_sem,hne,zB,zD,zC,reduceIte,reduceCtorEq,zA]
   exact sn w fun v h=>.inr ⟨v,rfl,hf,h⟩
  ·rw [hneg] at hlt
   simp only [go_sem,l185_0,hn,zAc,zAd,zAa,hlt,un_neg,zB,zD,zC,reduceIte,reduceCtorEq,zA]
   simp only [go_sem,hne,zB,zD,zC,reduceIte,reduceCtorEq,zA]
   exact sn w fun v h=>.inr ⟨v,rfl,hf,h⟩
 have hx1:x≠⟨#[]⟩:=fun hn=>h0 (by rw [hn];rfl)
 rw [decide_eq_true hx1] at hne
 have hs4:=hS h0
 have hdb:=decP_bd hD hs4
 cases hneg:negW w
 ·rw [hneg] at hlt hV
  rw [if_neg (by decide)] at hV
  simp only [go_sem,l185_0,hn,zAc,zAd,zAa,hlt,zB,zD,zC,reduceIte,reduceCtorEq,zA]
  rw [← hV]
  rw [← hV] at hdb
  simp only [go_sem,hne,zB,zD,zC,reduceIte,reduceCtorEq,zA]
  refine cp n162 (Itoa_pc _ (by omega) (by omega)) (SubL.refl _) ?_
  simp only [go_sem,eqS,zB,zD,zC,reduceIte,reduceCtorEq,zA]
  by_cases hi:itoaB (valW w)=w
  ·have hok:okW w=true:=by unfold okW;rw [hx,decide_eq_true hs4,hD,decide_eq_true h0,decide_eq_true hi];rfl
   rw [decide_eq_true hi]
   refine cp n165 (sure_ok w) (SubL.refl _) ?_
   simp only [go_sem,Tryz.f185,zB,zD,zC,reduceIte,reduceCtorEq,zA]
   exact .inl ⟨_,rfl,hok,rfl⟩
  ·have hf:okW w=false:=by unfold okW;rw [decide_eq_false hi];simp
   rw [decide_eq_false hi]
   exact sn w fun v h=>.inr ⟨v,rfl,hf,h⟩
 ·rw [hneg] at hlt hV
  rw [if_pos rfl] at hV
  have wn:IntKind.i64.wrap (0 - decP x x.size)=valW w:=by rw [hV,Int.zero_sub];exact wrap64 (by omega)
  have hdb2:-9999≤valW w∧valW w≤0:=by omega
  simp only [go_sem,l185_0,hn,zAc,zAd,zAa,hlt,un_neg,wn,zB,zD,zC,reduceIte,reduceCtorEq,zA]
  simp only [go_sem,hne,zB,zD,zC,reduceIte,reduceCtorEq,zA]
  refine cp n162 (Itoa_pc _ (by omega) (by omega)) (SubL.refl _) ?_
  simp only [go_sem,eqS,zB,zD,zC,reduceIte,reduceCtorEq,zA]
  by_cases hi:itoaB (valW w)=w
  ·have hok:okW w=true:=by unfold okW;rw [hx,decide_eq_true hs4,hD,decide_eq_true h0,decide_eq_true hi];rfl
   rw [decide_eq_true hi]
   refine cp n165 (sure_ok w) (SubL.refl _) ?_
   simp only [go_sem,Tryz.f185,zB,zD,zC,reduceIte,reduceCtorEq,zA]
   exact .inl ⟨_,rfl,hok,rfl⟩
  ·have hf:okW w=false:=by unfold okW;rw [decide_eq_false hi];simp
   rw [decide_eq_false hi]
   exact sn w fun v h=>.inr ⟨v,rfl,hf,h⟩
set_option maxHeartbeats 8000000
theorem splitB_size (sep:ByteArray):∀ (k:Nat) (s r:ByteArray),r∈Lib.splitB sep 0 k s→r.size≤s.size
 | 0,s,r,h=>by simp [Lib.splitB] at h;subst h;exact zN _
 | k+1,s,r,h=>by
  unfold Lib.splitB at h
  split at h
  ·simp at h;subst h;exact zN _
  ·rcases List.mem_cons.1 h with h | h
   ·subst h;rw [ByteArray.size_extract];omega
   ·have:=splitB_size sep k _ r h
    rw [ByteArray.size_extract] at this;omega
theorem splitL_size {s r:ByteArray} {b:UInt8} (h:r∈splitL s b):r.size≤s.size:=splitB_size _ _ _ _ h
theorem splitL_len (s:ByteArray) (b:UInt8):(splitL s b).length≤s.size+2:=by
 have hlen:=Lib.splitB_all ⟨#[b]⟩ (zN 1) 0 _ s rfl
 have hle:=Lib.countB_le ⟨#[b]⟩ (zN 1) s.size s (zN _)
 show (Lib.splitB ⟨#[b]⟩ 0 (Lib.countB s ⟨#[b]⟩) s).length≤_
 omega
theorem slS1 (a:ByteArray) (W:List ByteArray) (t:Tail):sliceA T 171 (.slice (strs (a :: W)) (W.length+1) t) (some (.int .i64 1)) none none=some (.slice (strs W) W.length .unk):=by
 have hd:descOf T 171=some (.slice 9):=rfl
 have hb:bnd (some (.int .i64 1)) 0 (W.length+1)=some 1:=by simp [bnd];omega
 have h9:T 9=some ti9:=rfl
 simp only [sliceA,hd,h9]
 rw [if_pos (by simp [ti9]),hb]
 rfl
theorem gro_subL (ns:List Int):Sub (gro (ints ns)) (sl ns):=by
 cases ns with
 | nil=>exact Sub.nil
 | cons a l =>
  show Sub (.slice (ints (a :: l)) ((ints l).length+1) (.tok (ints l).length)) (.slice (ints (a :: l)) (l.length+1) .unk)
  rw [zCo];exact Sub.unk _ _ _
theorem told_sub {P:Program} {f:FuncId} {args:List AV} {S:St} {R R':AEnd→St→Prop} (h:AC P f args S R) (hr:∀ v S',R (.ret v) S' → ∃ v',Sub v v'∧R' (.ret v') S') (hp:∀ v S',R (.panic v) S'→R' (.panic v) S'):AC P f args S R':=by
 intro c w vs hs hl
 refine (h c w vs hs hl).mono fun e w' ⟨ae,S',c',h1,h2,h3,h4⟩ => ?_
 cases ae with
 | ret v =>
  obtain ⟨v',s1,s2⟩:=hr v S' h2
  cases e with
  | returned x=>exact ⟨.ret v',S',c',h1,s2,s1 c' x h3,h4⟩
  | panicked ch=>exact h3.elim
  | outgrown=>exact h3.elim
 | panic v=>exact ⟨.panic v,S',c',h1,hp v S' h2,h3,h4⟩
theorem told_ac (row:ByteArray) (kind many:Nat) (hk:kind<2) (hm:many≤4) (hs:row.size≤1000000) (S:St):AC Tryz.prog 166 [.str row,.int .i64 kind,.int .i64 many] S fun e S' =>
  ((∃ v,e=.ret v ∧ ∃ ns,toldB row kind many=some ns∧v=sl ns)∨(∃ v,e=.panic v∧toldB row kind many=none∧Gives v))∧S'=S:=by
 refine AC.of_iso ?_ rfl (fun v ⟨ns,_,h⟩=>by subst h;simp [AV.bnd]) (fun v h=>h.2.bnd) S
 refine told_sub (R:=fun e _=>(∃ v,e=.ret v ∧ ∃ ns,toldB row kind many=some ns∧v=gro (ints ns))∨(∃ v,e=.panic v∧toldB row kind many=none∧Gives v)) ?_ ?_ ?_
 ·refine AC.run (E_ok 45) mix Tryz.func166 m166 rfl rfl rfl (zE rfl) ?_
  simp only [go_sem,zB,zD,zC,reduceIte,reduceCtorEq,zA]
  refine cp n164 (Split_pc row 32 (by omega)) (SubL.refl _) ?_
  have w1:IntKind.i64.wrap ((many:Int)+1)=(many+1:Nat):=wrap64 (by omega)
  have hW:toldB row kind many=if (splitL row 32).length=many+1∧(splitL row 32).head? = some (wordB kind)∧(splitL row 32).tail.all okW=true then some ((splitL row 32).tail.map valW) else none:=rfl
  have hsz:∀ r∈splitL row 32,r.size≤1000000:=fun r hr=>Nat.le_trans (splitL_size hr) hs
  rw [hW]
  clear hW
  generalize splitL row 32=W at *
  by_cases hl:¬ W.length=many+1
  ·have hd:¬ ((W.length:Int)=(many+1:Nat)):=by omega
   simp only [go_sem,zAa,w1,hd,decide_false,zB,zD,zC,reduceIte,reduceCtorEq,zA]
   rw [if_neg (fun h=>hl h.1)]
   exact sn row fun v h=>.inr ⟨v,rfl,rfl,h⟩
  have hl:W.length=many+1:=Decidable.not_not.1 hl
  have hd:((W.length:Int)=(many+1:Nat)):=by omega
  cases W with
  | nil=>simp at hl
  | cons a W =>
   have hl':W.length=many:=by simpa using hl
   have hW2:(if (a :: W).length=many+1∧(a :: W).head? = some (wordB kind)∧(a :: W).tail.all okW=true then some ((a :: W).tail.map valW) else none)=if a=wordB kind∧W.all okW=true then some (W.map valW) else none:=by
    simp [hl']
   rw [hW2]
   clear hW2
   have hd:decide (((W.length+1:Nat):Int)=(many+1:Nat))=true:=decide_eq_true (by omega)
   have z:(0:Int)<((W.length+1:Nat):Int):=by omega
   have hk3:indexA T 228 (.agg [.str (wordB 0),.str (wordB 1)]) (.int .i64 kind)=some (.str (wordB kind)):=by
    match kind,hk with
    | 0,_=>rfl
    | 1,_=>rfl
   simp only [go_sem,zAa,w1,hd,decide_true,z,yF,and_true,Int.toNat_zero,zBg,zV,zB,zD,zC,reduceIte,reduceCtorEq,zA]
   refine qp n179 words_pc (SubL.refl _) ?_
   simp only [go_sem,zAa,hk3,eqS,zBg,zV,zB,zD,zC,reduceIte,reduceCtorEq,zA]
   by_cases ha:¬ a=wordB kind
   ·rw [decide_eq_false ha,if_neg (fun h=>ha h.1)]
    exact sn row fun v h=>.inr ⟨v,rfl,rfl,h⟩
   have ha:a=wordB kind:=Decidable.not_not.1 ha
   rw [decide_eq_true ha,if_congr2 (by simp [ha]:(a=wordB kind∧W.all okW=true)↔W.all okW=true)]
   refine cp n165 (sure_ok row) (SubL.refl _) ?_
   simp only [go_sem,zAa,slS1,zB,zD,zC,reduceIte,reduceCtorEq,zA]
   have hszW:∀ r∈W,r.size≤1000000:=fun r hr=>hsz r (zQ _ hr)
   clear hk3 ha hd z hl hsz
   refine zBj W.length (fun k=>(W.take k).all okW=true) (fun k=>[(8,gro (ints ((W.take k).map valW))),(31,.slice (strs W) W.length .unk),(32,.int .i64 W.length),(33,.int .i64 k)]) (fun k=>⟨[],k,toksN k⟩) rfl rfl rfl ?_
   intro k hkk hP I hI
   have elen:(ints ((W.take k).map valW)).length=k:=by simp;omega
   by_cases h':k<W.length
   ·have h1:(k:Int)<W.length:=by omega
    have h2:0≤(k:Int)∧(k:Int)<W.length:=by omega
    have h3:W[k]? = some W[k]:=zF h'
    have h4:IntKind.i64.wrap ((k:Int)+1)=(k+1:Nat):=wrap64 (by omega)
    have hz:=hszW _ (qA h')
    have hall:okW W[k]=false→(if W.all okW=true then some (W.map valW) else none)=none:=fun h=>by
     rw [if_neg]
     intro ha
     rw [qX] at ha
     have:=ha _ (qA h')
     rw [h] at this;cases this
    have hstep:okW W[k]=true→(W.take (k+1)).all okW=true:=fun h=>by
     rw [qG h',List.all_append,hP];simp [h]
    have hmap:(W.take (k+1)).map valW=(W.take k).map valW ++ [valW W[k]]:=by
     rw [qG h',qP];rfl
    rw [hmap] at hI
    simp only [go_sem,l166_0,h1,decide_true,h2,zBg,h3,zAg,zB,zD,zC,reduceIte,reduceCtorEq,zA]
    refine cac n185 (number_ac W[k] hz _) (fun v S' h => ?_) (fun v S' h => ?_)
    ·obtain ⟨⟨v',e,hok,rfl⟩ | ⟨v',e,_⟩,rfl⟩:=h
     rotate_left
     ·cases e
     cases e
     simp only [go_sem,zAa,zB,zD,zC,reduceIte,reduceCtorEq,zA]
     refine sr_gro22 _ _ _ elen (by omega) ?_
     simp only [go_sem,h4,zB,zD,zC,reduceIte,reduceCtorEq,zA]
     have hI':=hI h' (hstep hok)
     rw [show ints ((W.take k).map valW ++ [valW W[k]])=ints ((W.take k).map valW) ++ [.int .i64 (valW W[k])] by simp [ints]] at hI'
     exact hI'
    ·obtain ⟨⟨v',e,_⟩ | ⟨v',e,hf,hg⟩,rfl⟩:=h
     ·cases e
     ·cases e
      exact .inr ⟨_,rfl,hall hf,hg⟩
   ·have h1:¬ (k:Int)<W.length:=by omega
    have e:k=W.length:=by omega
    subst e
    rw [qY] at hP
    simp only [go_sem,l166_0,h1,decide_false,Tryz.f166,hP,qY,zB,zD,zC,reduceIte,reduceCtorEq,zA]
    exact .inl ⟨_,rfl,_,rfl,rfl⟩
 ·rintro v S' (⟨v',e,ns,h1,h2⟩ | ⟨v',e,_⟩)
  ·cases e;exact ⟨sl ns,by rw [h2];exact gro_subL ns,.inl ⟨_,rfl,ns,h1,rfl⟩⟩
  ·cases e
 ·rintro v S' (⟨v',e,_⟩ | h)
  ·cases e
  ·exact .inr h
set_option maxHeartbeats 8000000
theorem slS2 (a:ByteArray) (W:List ByteArray) (t:Tail) (m:Nat) (h:W.length=m+2):sliceA T 171 (.slice (strs (a :: W)) (m+2+1) t) (some (.int .i64 1)) (some (.int .i64 (m+1:Nat))) none=some (.slice (strs (W.take m)) m .unk):=by
 have hd:descOf T 171=some (.slice 9):=rfl
 have h9:T 9=some ti9:=rfl
 have hb:bnd (some (.int .i64 1)) 0 (m+1)=some 1:=by simp [bnd];omega
 have hb2:bnd (some (.int .i64 (m+1:Nat))) (m+2+1) (m+2+1)=some (m+1):=by
  simp only [bnd]
  rw [if_pos (by omega)]
  rfl
 simp only [sliceA,hd,h9]
 rw [if_pos (by simp [ti9,h]),hb2]
 simp only [zY,hb,zV]
 simp [strs,ti9]
theorem foldT_app:∀ (l:List Sight) (xs ys:List ByteArray),foldT l (xs ++ ys)=(foldT l xs).bind fun l'=>foldT l' ys
 | l,[],ys=>rfl
 | l,x :: xs,ys=>by
  simp only [yB,foldT]
  cases toldB x 1 4 with
  | none=>rfl
  | some ns=>simp only [zY];exact foldT_app _ xs ys
theorem foldT_one (l:List Sight) (x:ByteArray):foldT l [x]=(toldB x 1 4).map fun ns=>l ++ [sgtN ns]:=by
 simp only [foldT];cases toldB x 1 4 <;> rfl
theorem foldT_next {l0 l:List Sight} {rows:List ByteArray} {k:Nat} (hk:k<rows.length) (h:foldT l0 (rows.take k)=some l):foldT l0 (rows.take (k+1))=(toldB rows[k] 1 4).map fun ns=>l ++ [sgtN ns]:=by
 rw [qG hk,foldT_app,h,zY,foldT_one]
theorem foldT_fail {l0 l:List Sight} {rows:List ByteArray} {k:Nat} (hk:k<rows.length) (h:foldT l0 (rows.take k)=some l) (h2:toldB rows[k] 1 4=none):foldT l0 rows=none:=by
 rw [show rows=rows.take (k+1) ++ rows.drop (k+1) by simp,foldT_app,foldT_next hk h,h2];rfl
theorem toldB_len {r:ByteArray} {kind many:Nat} {ns:List Int} (h:toldB r kind many=some ns):ns.length=many:=by
 unfold toldB at h
 split at h
 ·rename_i hc
  cases h
  simp;omega
 ·cases h
theorem parsed_draw (a:AV) (l:List Sight) (V:AV) (nt:Nat) (tk:List Nat) (ho:Own (sgts l) l.length V nt tk) (hl:l.length≤1000) (x y z w:Int) (t0 t2 t26 t27 t28:AV) (z0:List AV) (Q:AQ)
  (h:∀ V' tk',Own (sgts (l ++ [⟨x,y,z,w⟩])) (l ++ [(⟨x,y,z,w⟩:Sight)]).length V' (nt+1) tk'→Q .normal [(0,t0),(2,t2),(4,.ref 1 0),(26,t26),(27,t27),(28,t28)] ⟨[some (.cells z0),some (.cells [a,V'])],nt+1,tk'⟩) :
  WC (E 60) (.draw [0,2,4,26,27,28] 16 [] r124_8) Q [(0,t0),(2,t2),(4,.ref 1 0),(26,t26),(27,t27),(28,t28),(7,sl [x,y,z,w])] ⟨[some (.cells z0),some (.cells [a,V])],nt,tk⟩:=by
 obtain ⟨q1,q2⟩:=ho.cells
 have i0:0≤(0:Int)∧(0:Int)<((4:Nat):Int):=by decide
 have i1:0≤(1:Int)∧(1:Int)<((4:Nat):Int):=by decide
 have i2:0≤(2:Int)∧(2:Int)<((4:Nat):Int):=by decide
 have i3:0≤(3:Int)∧(3:Int)<((4:Nat):Int):=by decide
 have bs:zAe T 22 1 [(0,.agg (sgtC ⟨x,y,z,w⟩))]=some (.slice (sgtC ⟨x,y,z,w⟩) 1 .exact):=rfl
 simp only [go_sem,q1,q2,i0,i1,i2,i3,ints,List.map_cons,List.map_nil,zT,zZ,Int.reduceToNat,yF,and_self,zAa,bs,zB,zD,zC,reduceIte,reduceCtorEq,zA]
 refine zCr (lx:=sgtC ⟨x,y,z,w⟩) zDr ho (by rw [zAx];omega) rfl (by decide) rfl (by omega) fun V2 tk2 g => ?_
 have go:=g.own
 obtain ⟨p1,p2⟩:=go.cells
 rw [zFb] at go
 have hh:=h V2 tk2 (by rw [qE];exact go)
 simp only [go_sem,p1,p2,zAd,zK,zM,zJ,splice,zH,zG,and_self,zB,zD,zC,reduceIte,reduceCtorEq,zA]
 exact hh
set_option maxHeartbeats 8000000
theorem sur_sub (a:Int) (l:List Sight) {V:AV} {nt:Nat} {tk:List Nat} (h:Own (sgts l) l.length V nt tk):Sub (.agg [.int .i64 a,V]) (surA ⟨a,l⟩):=
 Sub.agg (SubL.cons (Sub.refl _) (SubL.cons h.sub (SubL.refl [])))
theorem sm_i64 {n:Int} (h:smI n):i64 n:=⟨by have:=h.1;omega,by have:=h.2;omega⟩
theorem zEi {s:Survey} (h:Small s) (hl:s.sights.length≤1000):PlainS s:=⟨hl,sm_i64 h.1,fun x hx n hn=>sm_i64 (h.2 x hx n hn)⟩
theorem parsed_ac (s:ByteArray) (hs:s.size≤900) (S:St):AC Tryz.prog 124 [.str s] S fun e S' =>
  ((∃ v,e=.ret v ∧ ∃ l,parsedB s=some l∧v=surA l)∨(∃ v,e=.panic v∧parsedB s=none∧Gives v))∧S'=S:=by
 refine AC.of_iso ?_ rfl (fun v ⟨ns,_,h⟩=>by subst h;simp [AV.bnd,bndL]) (fun v h=>h.2.bnd) S
 refine told_sub (R:=fun e _=>(∃ v,e=.ret v ∧ ∃ l,parsedB s=some l∧Sub v (surA l))∨(∃ v,e=.panic v∧parsedB s=none∧Gives v)) ?_ ?_ ?_
 ·refine AC.run (E_ok 60) mix Tryz.func124 m124 rfl rfl rfl (zE rfl) ?_
  have hR:=splitL_len s 10
  have hsz:∀ r∈splitL s 10,r.size≤900:=fun r hr=>Nat.le_trans (splitL_size hr) hs
  have hP:parsedB s=if 3≤(splitL s 10).length then
   (toldB ((splitL s 10).headD ByteArray.empty) 0 1).bind fun ns =>
    (foldT [] ((splitL s 10).tail.take ((splitL s 10).length - 3))).bind fun l =>
     if textB ⟨ns.getD 0 0,l⟩=s then some ⟨ns.getD 0 0,l⟩ else none
   else none:=rfl
  rw [hP]
  clear hP
  simp only [go_sem,zB,zD,zC,reduceIte,reduceCtorEq,zA]
  refine cp n164 (Split_pc s 10 (by omega)) (SubL.refl _) ?_
  generalize splitL s 10=R at *
  by_cases h3:¬ 3≤R.length
  ·have h3':¬ (R.length:Int) ≥ 3:=by omega
   simp only [go_sem,zAa,h3',decide_false,zB,zD,zC,reduceIte,reduceCtorEq,zA]
   rw [if_neg h3]
   exact sn s fun v h=>.inr ⟨v,rfl,rfl,h⟩
  have h3:3≤R.length:=Decidable.not_not.1 h3
  have h3':(R.length:Int) ≥ 3:=by omega
  rw [if_pos h3]
  simp only [go_sem,zAa,h3',decide_true,zB,zD,zC,reduceIte,reduceCtorEq,zA]
  refine cp n165 (sure_ok s) (SubL.refl _) ?_
  cases R with
  | nil=>simp at h3
  | cons r0 R =>
   have z:(0:Int)<((R.length+1:Nat):Int):=by omega
   obtain ⟨m,hm⟩:∃ m,R.length=m+2:=⟨R.length - 2,by simp at h3;omega⟩
   have hm3:(r0 :: R).length - 3=m:=by simp [hm]
   rw [hm3,yS,yM]
   simp only [go_sem,zAa,z,yF,and_true,Int.toNat_zero,zBg,zV,yM,yS,zB,zD,zC,reduceIte,reduceCtorEq,zA]
   have h0:=hsz r0 zO
   refine cac n166 (told_ac r0 0 1 (by decide) (by decide) (by omega) _) (fun v S' h => ?_) (fun v S' h => ?_)
   ·obtain ⟨⟨v',e,ns,hns,rfl⟩ | ⟨v',e,_⟩,rfl⟩:=h
    rotate_left
    ·cases e
    cases e
    have hn1:=toldB_len hns
    obtain ⟨_,hn2⟩:=zDw hns
    rw [hns]
    match ns,hn1,hn2 with
    | [a],_,hn2 =>
     simp only [zY,List.getD_cons_zero]
     clear hns
     have q0:0≤(0:Int)∧(0:Int)<((1:Nat):Int):=by decide
     have bd24:buildA T 24 [(0,.int .i64 a)]=some (.agg [.int .i64 a,.nilS]):=rfl
     simp only [go_sem,q0,bd24,ints,List.map_cons,List.map_nil,zT,zZ,yF,Int.reduceToNat,zAd,AV.cells,AV.one,zK,zM,zJ,splice,zH,zG,and_self,zB,zD,zC,reduceIte,reduceCtorEq,zA]
     have hRl:R.length≤902:=by simp at hR;omega
     have w1:IntKind.i64.wrap (((R.length+1:Nat):Int) - 2)=(m+1:Nat):=by rw [wrap64 (by omega)];omega
     have hsl:=slS2 r0 R .exact m hm
     rw [hm] at w1
     simp only [go_sem,zAa,hm,w1,hsl,zB,zD,zC,reduceIte,reduceCtorEq,zA]
     have hrs:∀ r∈R.take m,r.size≤900:=fun r hr=>hsz r (zQ _ (List.mem_of_mem_take hr))
     have hrl:(R.take m).length=m:=by simp [hm]
     have hm9:m≤900:=by omega
     have ha:smI a:=hn2 a zO
     clear hsl w1 hm hm3 hsz hR h3 h3' z h0 q0 hn2
     generalize hrows:R.take m=rows at *
     clear hrows hRl
     refine zAs (fun n ts' S' => ∃ k l V nt tk,k≤m∧n=m - k∧foldT [] (rows.take k)=some l∧l.length=k∧(∀ x∈l,∀ n∈nsS x,smI n)∧Own (sgts l) l.length V nt tk∧ts'=[(0,.str s),(2,.ref 0 0),(4,.ref 1 0),(26,.slice (strs rows) m .unk),(27,.int .i64 m),(28,.int .i64 (k:Nat))]∧S'=⟨[some (.cells [.int .i64 0,.nilS]),some (.cells [.int .i64 a,V])],nt,tk⟩) m ⟨0,[],.nilS,0,[],qI _,rfl,rfl,rfl,fun x hx=>(by cases hx),Own.nil _ _,rfl,rfl⟩ ?_
     rintro n ts' S' ⟨k,l,V,nt,tk,hk,rfl,hf,hlk,hsm,ho,rfl,rfl⟩
     obtain ⟨q1,q2⟩:=ho.cells
     obtain ⟨D,hD⟩:∃ D,MC.draw [0,2,4,26,27,28] 16 [] r124_8=D:=⟨_,rfl⟩
     unfold l124_0
     rw [hD]
     by_cases h':k<m
     ·have h1:(k:Int)<m:=by omega
      have h2:0≤(k:Int)∧(k:Int)<m:=by omega
      have hkr:k<rows.length:=by omega
      have h3:rows[k]? = some rows[k]:=zF hkr
      have h4:IntKind.i64.wrap ((k:Int)+1)=(k+1:Nat):=wrap64 (by omega)
      have hsz:=hrs _ (qA hkr)
      have hfail:=fun h=>foldT_fail hkr hf h
      have hnxt:=foldT_next hkr hf
      simp only [go_sem,zAa,h1,decide_true,h2,zBg,h3,zAg,zB,zD,zC,reduceIte,reduceCtorEq,zA]
      refine cac n166 (told_ac rows[k] 1 4 (by decide) (by decide) (by omega) _) (fun v S' h => ?_) (fun v S' h => ?_)
      ·obtain ⟨⟨v',e,ns,hns,rfl⟩ | ⟨v',e,_⟩,rfl⟩:=h
       rotate_left
       ·cases e
       cases e
       have hn1:=toldB_len hns
       obtain ⟨_,hn2⟩:=zDw hns
       rw [hns] at hnxt
       match ns,hn1,hn2 with
       | [x,y,z,w],_,hn2 =>
        simp only [go_sem,zB,zD,zC,reduceIte,reduceCtorEq,zA]
        subst hD
        refine parsed_draw _ l V nt tk ho (by omega) x y z w _ _ _ _ _ _ _ fun V' tk' go => ?_
        simp only [go_sem,h4,zB,zD,zC,reduceIte,reduceCtorEq,zA]
        refine zAh (m - (k+1)) (by omega) ⟨k+1,l ++ [⟨x,y,z,w⟩],V',nt+1,tk',h',rfl,(by rw [hnxt];rfl),(by simp;omega),fun u hu n hn => ?_,go,rfl,rfl⟩
        rcases List.mem_append.1 hu with hu | hu
        ·exact hsm u hu n hn
        ·rw [List.mem_singleton.1 hu] at hn
         exact hn2 n hn
      ·obtain ⟨⟨v',e,_⟩ | ⟨v',e,hn,hg⟩,rfl⟩:=h
       ·cases e
       ·cases e
        exact .inr ⟨_,rfl,by rw [hfail hn];rfl,hg⟩
     ·have h1:¬ (k:Int)<m:=by omega
      have e:k=m:=by omega
      have ef:rows.take k=rows:=by rw [e,← hrl,qY]
      rw [ef] at hf
      rw [hf,zY]
      simp only [go_sem,h1,decide_false,q1,q2,zB,zD,zC,reduceIte,reduceCtorEq,zA]
      refine cp n122 (text_pc ⟨a,l⟩ (zEi ⟨ha,hsm⟩ (by show l.length≤1000;omega))) (SubL.cons (sur_sub a l ho) (SubL.refl [])) ?_
      simp only [go_sem,eqS,zB,zD,zC,reduceIte,reduceCtorEq,zA]
      by_cases ht:textB ⟨a,l⟩=s
      ·rw [decide_eq_true ht,if_pos ht]
       refine cp n165 (sure_ok s) (SubL.refl _) ?_
       simp only [go_sem,q1,q2,zAd,zK,zM,zJ,splice,zH,zG,and_self,Tryz.f124,zB,zD,zC,reduceIte,reduceCtorEq,zA]
       exact .inl ⟨_,rfl,_,rfl,sur_sub a l ho⟩
      ·rw [decide_eq_false ht,if_neg ht]
       exact sn s fun v h=>.inr ⟨v,rfl,rfl,h⟩
   ·obtain ⟨⟨v',e,_⟩ | ⟨v',e,hn,h⟩,rfl⟩:=h
    ·cases e
    ·cases e
     exact .inr ⟨_,rfl,by rw [hn];rfl,h⟩
 ·rintro v S' (⟨v',e,l,h1,h2⟩ | ⟨v',e,_⟩)
  ·cases e;exact ⟨surA l,h2,.inl ⟨_,rfl,l,h1,rfl⟩⟩
  ·cases e
 ·rintro v S' (⟨v',e,_⟩ | h)
  ·cases e
  ·exact .inr h
def readA (s:ByteArray):AV:=
 if s.size≤400 then
  match parsedB s with
  | some l=>if zAp l=true then .tuple [surA l,.int .i64 0] else .tuple [.agg [.int .i64 0,.nilS],.int .i64 2]
  | none=>.tuple [.agg [.int .i64 0,.nilS],.int .i64 4]
 else .tuple [.agg [.int .i64 0,.nilS],.int .i64 3]
theorem readA_bnd (s:ByteArray):(readA s).bnd 0 0=true:=by
 unfold readA
 repeat' split
 all_goals simp [bndL,AV.bnd]
theorem Read1_ac (s:ByteArray) (hs:s.size≤900) (S:St) (i j:Nat) (z0 z1:AV) (h1:cellsAt S.heap i=some [.str s]) (h2:cellsAt S.heap j=some [z0,z1]):AC Tryz.prog 123 [.ref i 0,.ref j 0] S fun e S' =>
  (∃ l,parsedB s=some l∧e=.ret (.tuple [])∧S'=⟨setH S.heap j (.cells (surC l)),S.nt,S.toks⟩)∨(parsedB s=none∧(∃ v,e=.panic v∧Gives v)∧S'=S):=by
 refine AC.run (Es_ok _ S) mix Tryz.func123 m123 rfl rfl rfl (zE rfl) ?_
 simp only [go_sem,h1,h2,zB,zD,zC,reduceIte,reduceCtorEq,zA]
 refine zCe (E:=Es _ S) n124 (parsed_ac s hs _) (fun v S' h => ?_) (fun v S' h => ?_)
 ·obtain ⟨⟨v',e,l,hl,rfl⟩ | ⟨v',e,_⟩,rfl⟩:=h
  ·cases e
   simp only [go_sem,h2,zAd,AV.cells,AV.one,zK,zM,zJ,splice,zH,zG,and_self,zT,zZ,Tryz.f123,zB,zD,zC,reduceIte,reduceCtorEq,zA]
   exact .inl ⟨l,hl,rfl,rfl⟩
  ·cases e
 ·obtain ⟨⟨v',e,_⟩ | ⟨v',e,hn,h⟩,rfl⟩:=h
  ·cases e
  ·cases e
   exact .inr ⟨hn,⟨_,rfl,h⟩,rfl⟩
theorem cellsAt_setH {h:List (Option Blk)} {b:Nat} {l l':List AV} (hb:cellsAt h b=some l):cellsAt (setH h b (.cells l')) b=some l':=by
 have:=zEg (l':=l') hb []
 rwa [List.append_nil] at this
theorem parsed_few {t:ByteArray} {s:Survey} (h:parsedB t=some s) (ht:t.size≤900):s.sights.length≤1000:=by
 obtain ⟨_,_,ns,h1,h2,h3⟩:=zDn h
 have h4:=fold_len _ h3
 have h5:=splitL_len t 10
 rw [yQ,List.length_tail] at h4
 rw [h4]
 simp
 omega
theorem Read_pc (s:ByteArray) (hs:s.size<9223372036854775807):PC Tryz.prog 60 [.str s] (.pure (readA s)):=by
 refine PC.of_empty (AC.run (E_ok 21) mix Tryz.func60 m60 rfl rfl rfl (zE rfl) ?_) rfl (readA_bnd s)
 unfold readA
 have bd0:buildA T 24 []=some (.agg [.int .i64 0,.nilS]):=rfl
 by_cases h3:¬ s.size≤400
 ·have h3':(s.size:Int) > 400:=by omega
  rw [if_neg h3]
  simp only [go_sem,boxA,zAa,h3',decide_true,bd0,zAd,AV.cells,AV.one,zK,zM,zJ,splice,zH,zG,and_self,Tryz.f60,zB,zD,zC,reduceIte,reduceCtorEq,zA]
 have h3:s.size≤400:=Decidable.not_not.1 h3
 have h3':¬ (s.size:Int) > 400:=by omega
 rw [if_pos h3]
 simp only [go_sem,boxA,zAa,h3',decide_false,zB,zD,zC,reduceIte,reduceCtorEq,zA]
 refine cac n92 (try_ac (R:=fun e S' => ∃ k:Int,e=.ret (.int .i64 k)∧((∃ l,parsedB s=some l∧k=0∧cellsAt S'.heap 1=some [.int .i64 0,.nilS]∧cellsAt S'.heap 2=some (surC l))∨(parsedB s=none∧k=4∧cellsAt S'.heap 1=some [.int .i64 0,.nilS]))) n123 (Read1_ac s (by omega) _ 0 2 _ _ rfl rfl) ?_ ?_) ?_ ?_
 ·rintro v S' (⟨l,hl,e,rfl⟩ | ⟨_,⟨v',e,_⟩,_⟩)
  ·exact ⟨rfl,0,rfl,.inl ⟨l,hl,rfl,rfl,rfl⟩⟩
  ·cases e
 ·rintro v S' (⟨l,hl,e,rfl⟩ | ⟨hn,⟨v',e,why,rfl⟩,rfl⟩)
  ·cases e
  ·cases e
   exact ⟨rfl,.inr ⟨why,rfl,4,rfl,.inr ⟨hn,rfl,rfl⟩⟩⟩
 ·rintro v S' ⟨k,e,⟨l,hl,rfl,hc1,hc2⟩ | ⟨hn,rfl,hc1⟩⟩
  ·cases e
   rw [hl]
   have z0:¬ ((0:Int)≠0):=by decide
   simp only [go_sem,z0,decide_false,hc1,hc2,zB,zD,zC,reduceIte,reduceCtorEq,zA]
   have hfew:=parsed_few hl (by omega)
   refine cp n89 (zBp l (by show l.sights.length<9223372036854775807;omega)) (SubL.refl _) ?_
   have hp:=fun l'=>cellsAt_setH (l':=l') hc1
   cases hb:zAp l
   ·simp only [go_sem,zAi,qF,hc1,bd0,hp,zAd,AV.cells,AV.one,zK,zM,zJ,splice,zH,zG,and_self,zT,zZ,Tryz.f60,zB,zD,zC,reduceIte,reduceCtorEq,zA]
   ·simp only [go_sem,zAi,zX,hc1,hc2,hp,zAd,AV.cells,AV.one,zK,zM,zJ,splice,zH,zG,and_self,zT,zZ,Tryz.f60,zB,zD,zC,reduceIte,reduceCtorEq,zA]
  ·cases e
   rw [hn]
   have z0:((4:Int)≠0):=by decide
   have hp:=fun l'=>cellsAt_setH (l':=l') hc1
   simp only [go_sem,z0,decide_true,hc1,bd0,hp,zAd,AV.cells,AV.one,zK,zM,zJ,splice,zH,zG,and_self,zT,zZ,Tryz.f60,zB,zD,zC,reduceIte,reduceCtorEq,zA]
 ·rintro v S' ⟨k,e,_⟩
  cases e
end Go.Av.Lx
end

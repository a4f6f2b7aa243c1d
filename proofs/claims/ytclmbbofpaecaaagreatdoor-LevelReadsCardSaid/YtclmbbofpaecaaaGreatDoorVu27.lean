/- Part 27 of the proof. -/
import Derived.Test.YtclmbbofpaecaaaGreatDoorVu25
import Derived.Test.YtclmbbofpaecaaaGreatDoorVu26
set_option linter.all false
set_option linter.unusedVariables false
set_option linter.unusedSimpArgs false
set_option linter.unusedSectionVars false
open Bool renaming and_self → zJ, not_true → zX, not_false → qF
open List renaming getElem?_eq_getElem → zF, set_cons_succ → zG, set_cons_zero → zH, all_cons → zK, all_nil → zM, mem_cons_of_mem → zQ, length_cons → zT, length_nil → zZ, getElem_mem → qA, length_append → qE, take_succ_eq_append_getElem → qG, mem_singleton → qL, take_length → qY, cons_append → yB, nil_append → yJ, length_take → yQ
open Nat renaming reduceLeDiff → zA, reduceEqDiff → zB, reduceAdd → zC, reduceBEq → zD, le_of_ble_eq_true → zE, le_refl → zN, zero_le → qI
open Option renaming map_some → zV, bind_some → zY
section
set_option maxHeartbeats 8000000
namespace Go.Av.Lx
open Go Go.Av Go.Av.Tb Go.Av.Fx Go.Proofs
open Go.Lv (Sight Survey Sw Sv SightOk)
open Go.Fw (Sq ent Bd Mat)
def rstepT (k:Nat) (s:Survey) (r:ByteArray):Option Survey:=(rNums (splitL r 32).tail).bind fun ns=>if k=0 then (if ns.length=1 then some ⟨ns.getD 0 0,[]⟩ else none) else (if ns.length=4 then some ⟨s.stations,s.sights ++ [sgtN ns]⟩ else none)
theorem rfold_app:∀ (l:List Sight) (xs ys:List ByteArray),rfoldT l (xs ++ ys)=(rfoldT l xs).bind fun l'=>rfoldT l' ys
 | l,[],ys=>rfl
 | l,x :: xs,ys=>by
  simp only [yB,rfoldT]
  cases rNums (splitL x 32).tail with
  | none=>rfl
  | some ns =>
   simp only [zY]
   split
   ·exact rfold_app _ xs ys
   ·rfl
theorem rfold_one (l:List Sight) (x:ByteArray):rfoldT l [x]=(rNums (splitL x 32).tail).bind fun ns=>if ns.length=4 then some (l ++ [sgtN ns]) else none:=by
 simp only [rfoldT]
theorem rhead_snoc (R:List ByteArray) (x:ByteArray) {s:Survey} (h:rheadT R=some s):rheadT (R ++ [x])=rstepT R.length s x:=by
 cases R with
 | nil =>
  simp only [yJ,rheadT,rstepT,zZ,if_true]
  cases rNums (splitL x 32).tail with
  | none=>rfl
  | some ns =>
   simp only [zY,rfoldT,zV]
 | cons r R =>
  simp only [rheadT] at h
  simp only [yB,rheadT,rstepT,zT]
  cases hr:rNums (splitL r 32).tail with
  | none=>rw [hr] at h;cases h
  | some ms =>
   rw [hr] at h
   simp only [zY] at h ⊢
   by_cases hm:ms.length=1
   ·rw [if_pos hm] at h ⊢
    cases hf:rfoldT [] R with
    | none=>rw [hf] at h;cases h
    | some l =>
     rw [hf] at h
     cases h
     rw [rfold_app,hf,zY,rfold_one]
     cases rNums (splitL x 32).tail with
     | none=>rfl
     | some ns =>
      simp only [zY,if_neg (Nat.succ_ne_zero R.length)]
      by_cases h4:ns.length=4
      ·rw [if_pos h4,if_pos h4];rfl
      ·rw [if_neg h4,if_neg h4];rfl
   ·rw [if_neg hm] at h;cases h
theorem rfold_none:∀ (l:List Sight) (xs ys:List ByteArray),rfoldT l xs=none→rfoldT l (xs ++ ys)=none:=fun l xs ys h=>by rw [rfold_app,h];rfl
theorem rhead_none {R:List ByteArray} (h:rheadT R=none) (ys:List ByteArray):rheadT (R ++ ys)=none:=by
 cases R with
 | nil=>cases h
 | cons r R =>
  simp only [rheadT] at h
  simp only [yB,rheadT]
  cases hr:rNums (splitL r 32).tail with
  | none=>rfl
  | some ms =>
   rw [hr] at h
   simp only [zY] at h ⊢
   by_cases hm:ms.length=1
   ·rw [if_pos hm] at h ⊢
    cases hf:rfoldT [] R with
    | none=>rw [rfold_none _ _ _ hf];rfl
    | some l=>rw [hf] at h;cases h
   ·rw [if_neg hm]
theorem rhead_next {R:List ByteArray} {k:Nat} (hk:k<R.length) {s:Survey} (h:rheadT (R.take k)=some s):rheadT (R.take (k+1))=rstepT k s R[k]:=by
 have:=rhead_snoc (R.take k) R[k] h
 rw [qG hk,this,yQ,Nat.min_eq_left (by omega)]
theorem rhead_fail {R:List ByteArray} {k:Nat} (hk:k<R.length) {s:Survey} (h:rheadT (R.take k)=some s) (h2:rstepT k s R[k]=none):rheadT R=none:=by
 have e:=rhead_next hk h
 rw [h2] at e
 have:=rhead_none e (R.drop (k+1))
 rwa [List.take_append_drop] at this
theorem splitB_ne (sep:ByteArray):∀ (k:Nat) (s:ByteArray),Lib.splitB sep 0 k s≠[]
 | 0,s=>by simp [Lib.splitB]
 | k+1,s=>by
  unfold Lib.splitB
  split <;> simp
theorem splitL_ne (s:ByteArray) (b:UInt8):∃ a W,splitL s b=a :: W:=by
 cases h:splitL s b with
 | nil=>exact (splitB_ne _ _ _ h).elim
 | cons a W=>exact ⟨a,W,rfl⟩
theorem split10 (s:ByteArray) (hs:s.size≤10000):PC Tryz.prog 127 [.str s,.int .u8 10] (.pure (.slice (strs (splitL s 10)) (splitL s 10).length .unk)):=rSplit_pc s 10 (by omega)
theorem split32 (s:ByteArray) (hs:s.size≤10000):PC Tryz.prog 127 [.str s,.int .u8 32] (.pure (.slice (strs (splitL s 32)) (splitL s 32).length .unk)):=rSplit_pc s 32 (by omega)
theorem spl_small (s:ByteArray) (b:UInt8):(splitL s b).length≤s.size+1 ∧ ∀ w∈splitL s b,w.size≤s.size:=by
 obtain ⟨h1,h2,h3,h4⟩:=spl_inv s b s.size (zN _)
 have key:∀ k,k≤s.size → ∀ w∈(splS s b k).1,w.size≤s.size:=by
  intro k
  induction k with
  | zero=>intro _ w hw;cases hw
  | succ k ih =>
   intro hk w hw
   simp only [splS] at hw
   split at hw
   ·rcases List.mem_append.1 hw with hw | hw
    ·exact ih (by omega) w hw
    ·rw [qL] at hw;subst hw;rw [ByteArray.size_extract];omega
   ·exact ih (by omega) w hw
 rw [spl_end]
 refine ⟨by simp;omega,fun w hw => ?_⟩
 rcases List.mem_append.1 hw with hw | hw
 ·exact key _ (zN _) w hw
 ·rw [qL] at hw;subst hw;rw [ByteArray.size_extract];omega
theorem sl_tail {a:ByteArray} {W:List ByteArray}:sliceA T 171 (.slice (strs (a :: W)) (a :: W).length .unk) (some (.int .i64 1)) none none=some (.slice (strs W) W.length .unk):=by
 have e:∀ (cs:List AV) (n:Nat) (x:AV),sliceA T 171 (.slice cs n .unk) (some x) none none=(if cs.length=n * 1 then (Go.Av.bnd (some x) 0 n).map fun l=>if l=0 then .slice cs n .unk else .slice (cs.drop (l * 1)) (n - l) .unk else none):=fun _ _ _=>rfl
 rw [e,if_pos (by simp [strs])]
 have b1:Go.Av.bnd (some (.int .i64 1)) 0 (a :: W).length=some 1:=by
  unfold Go.Av.bnd
  simp only []
  rw [if_pos (by simp;omega)]
  rfl
 rw [b1]
 simp [strs]
def rReadA (t:ByteArray):AV:=match rreadB t with
 | some s=>.tuple [surA s,.bool true]
 | none=>.tuple [surA ⟨0,[]⟩,.bool false]
theorem rReadA_bnd (t:ByteArray):(rReadA t).bnd 0 0=true:=by
 unfold rReadA
 split
 ·simp [bndL,AV.bnd,sgts_bnd]
 ·rfl
theorem rfold_len:∀ (R:List ByteArray) {l l':List Sight},rfoldT l R=some l'→l'.length=l.length+R.length
 | [],l,l',h=>by cases h;simp
 | r :: R,l,l',h=>by
  simp only [rfoldT] at h
  cases hr:rNums (splitL r 32).tail with
  | none=>rw [hr] at h;cases h
  | some ns =>
   rw [hr] at h
   simp only [zY] at h
   split at h
   ·have:=rfold_len R h
    simp at this ⊢
    omega
   ·cases h
theorem rhead_len {R:List ByteArray} {s:Survey} (h:rheadT R=some s):s.sights.length≤R.length:=by
 cases R with
 | nil=>cases h;simp
 | cons r R =>
  simp only [rheadT] at h
  cases hr:rNums (splitL r 32).tail with
  | none=>rw [hr] at h;cases h
  | some ns =>
   rw [hr] at h
   simp only [zY] at h
   split at h
   ·cases hf:rfoldT [] R with
    | none=>rw [hf] at h;cases h
    | some l =>
     rw [hf] at h
     cases h
     have:=rfold_len R hf
     simp at this ⊢
     omega
   ·cases h
theorem read_d12 (t:ByteArray) (L:List ByteArray) (k:Nat) (ns:List Int) (h4:ns.length=4) (st:Int) (l:List Sight) (hl:l.length≤100000) (W:AV) (nt:Nat) (tk:List Nat) (ho:Own (sgts l) l.length W nt tk) (v:AV) (Q:AQ)
  (hQ:∀ W nt tk,Own (sgts (l ++ [sgtN ns])) (l ++ [sgtN ns]).length W nt tk→Q .normal [(0,.str t),(2,.ref 0 0),(4,.ref 1 0),(5,.slice (strs L) L.length .unk),(6,.int .i64 (k:Nat))] ⟨[some (.cells [.int .i64 0,.nilS]),some (.cells [.int .i64 st,W])],nt,tk⟩) :
  WC (E 81) (.draw [0,2,4,5,6] 16 [] r63_12) Q [(0,.str t),(2,.ref 0 0),(4,.ref 1 0),(5,.slice (strs L) L.length .unk),(6,.int .i64 (k:Nat)),(8,sl ns),(52,v)] ⟨[some (.cells [.int .i64 0,.nilS]),some (.cells [.int .i64 st,W])],nt,tk⟩:=by
 obtain ⟨a,b,c,d,rfl⟩:∃ a b c d,ns=[a,b,c,d]:=by
  match ns,h4 with
  | [a,b,c,d],_=>exact ⟨a,b,c,d,rfl⟩
 have e0:sgtN [a,b,c,d]=⟨a,b,c,d⟩:=rfl
 rw [e0] at hQ
 have i0:0≤(0:Int)∧(0:Int)<([a,b,c,d]:List Int).length:=by simp
 have i1:0≤(1:Int)∧(1:Int)<([a,b,c,d]:List Int).length:=by simp
 have i2:0≤(2:Int)∧(2:Int)<([a,b,c,d]:List Int).length:=by simp
 have i3:0≤(3:Int)∧(3:Int)<([a,b,c,d]:List Int).length:=by simp
 have n0:(0:Int).toNat=0:=rfl
 have n1:(1:Int).toNat=1:=rfl
 have n2:(2:Int).toNat=2:=rfl
 have n3:(3:Int).toNat=3:=rfl
 have bA:∀ x y z w:Int,buildA T 85 [(0,.int .i64 x),(1,.int .i64 y),(2,.int .i64 z),(3,.int .i64 w)]=some (.agg [.int .i64 x,.int .i64 y,.int .i64 z,.int .i64 w]):=fun _ _ _ _=>rfl
 obtain ⟨q1,q2⟩:=ho.cells
 have g0:(ints [a,b,c,d])[0]? = some (.int .i64 a):=rfl
 have g1:(ints [a,b,c,d])[1]? = some (.int .i64 b):=rfl
 have g2:(ints [a,b,c,d])[2]? = some (.int .i64 c):=rfl
 have g3:(ints [a,b,c,d])[3]? = some (.int .i64 d):=rfl
 generalize hns:([a,b,c,d]:List Int)=ns at *
 simp only [go_sem,i0,i1,i2,i3,n0,n1,n2,n3,and_self,g0,g1,g2,g3,bA,zAa,zB,zD,zC,reduceIte,reduceCtorEq,zA]
 refine zCr (lx:=sgtC ⟨a,b,c,d⟩) zDr ho (by rw [zAx];omega) rfl (by decide) rfl (by omega) fun W' tk' g => ?_
 obtain ⟨q3,q4⟩:=g.own.cells
 simp only [go_sem,q3,q4,zAd,zK,zM,zJ,splice,zH,zG,and_self,zB,zD,zC,reduceIte,reduceCtorEq,zA]
 refine hQ W' _ _ ?_
 have:=g.own
 rw [zFb] at this
 rw [qE,List.length_singleton]
 exact this
theorem read_loop (t:ByteArray) (ht:t.size≤10000) (L R:List ByteArray) (hL:L=splitL t 10) (hR:R=L.take (L.length - 2)) (Q:AQ)
  (hNo:rheadT R=none → ∀ st W nt tk,Q .ret [(2,.ref 0 0),(3,.bool false)] ⟨[some (.cells [.int .i64 0,.nilS]),some (.cells [.int .i64 st,W])],nt,tk⟩)
  (hQ:∀ st l W nt tk,rheadT R=some ⟨st,l⟩→Own (sgts l) l.length W nt tk→l.length≤10001→Q .normal [(0,.str t),(2,.ref 0 0),(4,.ref 1 0),(5,.slice (strs L) L.length .unk),(6,.int .i64 (R.length:Nat)),(16,.bool false)] ⟨[some (.cells [.int .i64 0,.nilS]),some (.cells [.int .i64 st,W])],nt,tk⟩) :
  WC (E 81) (.loop l63_0) (blockQ 0 Q) [(0,.str t),(2,.ref 0 0),(4,.ref 1 0),(5,.slice (strs L) L.length .unk),(6,.int .i64 0)] ⟨[some (.cells [.int .i64 0,.nilS]),some (.cells [.int .i64 0,.nilS])],0,[]⟩:=by
 have hc2:∀ a b:AV,AV.cells (.agg [a,b])=[a,b]:=fun _ _=>rfl
 have oI:∀ n:Int,AV.one (.int .i64 n)=true:=fun _=>rfl
 have oS:∀ (l:List AV) (n:Nat) (u:Tail),AV.one (.slice l n u)=true:=fun _ _ _=>rfl
 obtain ⟨D,hD⟩:∃ D,MC.draw [0,2,4,5,6] 16 [] r63_12=D:=⟨_,rfl⟩
 have hsm:=spl_small t 10
 rw [← hL] at hsm
 have hRl:R.length=L.length - 2:=by rw [hR,yQ];omega
 refine zAs (fun m ts' S' => ∃ k st l W nt tk,k≤R.length∧m=R.length - k∧ts'=[(0,.str t),(2,.ref 0 0),(4,.ref 1 0),(5,.slice (strs L) L.length .unk),(6,.int .i64 (k:Nat))]∧S'=⟨[some (.cells [.int .i64 0,.nilS]),some (.cells [.int .i64 st,W])],nt,tk⟩∧rheadT (R.take k)=some ⟨st,l⟩∧Own (sgts l) l.length W nt tk∧l.length≤k) R.length ⟨0,0,[],.nilS,0,[],qI _,rfl,rfl,rfl,rfl,Own.nil _ _,zN _⟩ ?_
 rintro m ts' S' ⟨k,st,l,W,nt,tk,hk,rfl,rfl,rfl,hh,ho,hlk⟩
 have w2:IntKind.i64.wrap ((L.length:Int) - 2)=(L.length:Int) - 2:=wrap64 (by omega)
 by_cases hlt:k<R.length
 rotate_left
 ·have he:k=R.length:=by omega
  subst he
  rw [qY] at hh
  have k1:¬ ((R.length:Int)<(L.length:Int) - 2):=by omega
  unfold l63_0
  rw [hD]
  simp only [go_sem,zAa,w2,k1,decide_false,zB,zD,zC,reduceIte,reduceCtorEq,zA]
  exact hQ st l W nt tk hh ho (by omega)
 have k1:(k:Int)<(L.length:Int) - 2:=by omega
 have hkL:k<L.length:=by omega
 have k2:0≤(k:Int)∧(k:Int)<L.length:=by omega
 have k4:IntKind.i64.wrap ((k:Int)+1)=(k+1:Nat):=wrap64 (by omega)
 have k3:L[k]? = some L[k]:=zF hkL
 have hRk:R[k]=L[k]:=by
  have:R[k]? = L[k]?:=by rw [hR,List.getElem?_take,if_pos (by omega)]
  rw [zF hlt,zF hkL] at this
  exact Option.some.inj this
 have hnext:=rhead_next hlt hh
 have hfail:=fun h=>rhead_fail hlt hh h
 rw [hRk] at hnext hfail
 have hsz:=hsm.2 _ (qA hkL)
 have hsp:=split32 L[k] (by omega)
 obtain ⟨a,ws,hsw⟩:=splitL_ne L[k] 32
 have hws:=spl_small L[k] 32
 rw [hsw] at hsp hws
 have htl:(splitL L[k] 32).tail=ws:=by rw [hsw];rfl
 unfold rstepT at hnext hfail
 rw [htl] at hnext hfail
 have hN:=rNumbers_pc ws (by have:=hws.1;simp at this;omega) (fun w hw=>by have:=hws.2 w (zQ _ hw);omega)
 generalize L[k]=r at *
 have hst:sliceA T 171 (.slice (strs (a :: ws)) (ws.length+1) .unk) (some (.int .i64 1)) none none=some (.slice (strs ws) ws.length .unk):=@sl_tail a ws
 unfold numsA at hN
 unfold l63_0
 rw [hD]
 have hb0:buildA T 24 []=some (.agg [.int .i64 0,.nilS]):=rfl
 have o1:AV.one .nilS=true:=rfl
 have z0:decide ((0:Int)=0)=true:=rfl
 cases hn:rNums ws with
 | none =>
  rw [hn] at hN hfail
  have hno:=hNo (hfail rfl)
  simp only [go_sem,zAa,w2,k1,decide_true,k2,zBg,k3,zV,zAg,zB,zD,zC,reduceIte,reduceCtorEq,zA]
  refine cp n127 hsp (SubL.refl _) ?_
  simp only [go_sem,hst,zB,zD,zC,reduceIte,reduceCtorEq,zA]
  refine cp n128 hN (SubL.refl _) ?_
  simp only [go_sem,zAc,zAi,qF,hb0,o1,zAd,hc2,oI,oS,zK,zM,zJ,splice,zH,zG,and_self,zT,zZ,zB,zD,zC,reduceIte,reduceCtorEq,zA]
  exact hno _ _ _ _
 | some ns =>
  rw [hn] at hN hfail hnext
  simp only [zY] at hnext hfail
  by_cases hk0:k=0
  ·subst hk0
   have hl0:l=[]:=List.length_eq_zero_iff.1 (by omega)
   have c1:¬ (((0:Nat):Int) > 0):=by decide
   have z0':decide (((0:Nat):Int)=0)=true:=rfl
   by_cases h1:ns.length=1
   ·rw [if_pos rfl,if_pos h1] at hnext
    have d1:¬ ((ns.length:Int)≠1):=by omega
    have i0:0≤(0:Int)∧(0:Int)<ns.length:=by omega
    have n0:(0:Int).toNat=0:=rfl
    have g0:(ints ns)[0]? = some (.int .i64 (ns.getD 0 0)):=by
     match ns,h1 with
     | [a],_=>rfl
    simp only [go_sem,zAa,w2,k1,decide_true,k2,zBg,k3,zV,zAg,zB,zD,zC,reduceIte,reduceCtorEq,zA]
    refine cp n127 hsp (SubL.refl _) ?_
    simp only [go_sem,hst,zB,zD,zC,reduceIte,reduceCtorEq,zA]
    refine cp n128 hN (SubL.refl _) ?_
    simp only [go_sem,zAc,zAi,zX,z0',c1,d1,decide_true,decide_false,zAa,i0,n0,and_self,g0,o1,zAd,hc2,oI,oS,zK,zM,zJ,splice,zH,zG,and_self,zT,zZ,k4,zB,zD,zC,reduceIte,reduceCtorEq,zA]
    exact zAh (R.length - (0+1)) (by omega) ⟨0+1,ns.getD 0 0,[],W,nt,tk,hlt,rfl,rfl,rfl,hnext,by rw [hl0] at ho;exact ho,by simp⟩
   ·have hno:=hNo (hfail (by rw [if_pos rfl,if_neg h1]))
    have d1:decide ((ns.length:Int)≠1)=true:=decide_eq_true (by omega)
    simp only [go_sem,zAa,w2,k1,decide_true,k2,zBg,k3,zV,zAg,zB,zD,zC,reduceIte,reduceCtorEq,zA]
    refine cp n127 hsp (SubL.refl _) ?_
    simp only [go_sem,hst,zB,zD,zC,reduceIte,reduceCtorEq,zA]
    refine cp n128 hN (SubL.refl _) ?_
    simp only [go_sem,zAc,zAi,zX,z0',c1,d1,decide_true,decide_false,zAa,hb0,o1,zAd,hc2,oI,oS,zK,zM,zJ,splice,zH,zG,and_self,zT,zZ,zB,zD,zC,reduceIte,reduceCtorEq,zA]
    exact hno _ _ _ _
  ·have z0':decide (((k:Nat):Int)=0)=false:=decide_eq_false (by omega)
   have c1:(((k:Nat):Int) > 0):=by omega
   by_cases h1:ns.length=4
   ·rw [if_neg hk0,if_pos h1] at hnext
    have d1:¬ ((ns.length:Int)≠4):=by omega
    simp only [go_sem,zAa,w2,k1,decide_true,k2,zBg,k3,zV,zAg,zB,zD,zC,reduceIte,reduceCtorEq,zA]
    refine cp n127 hsp (SubL.refl _) ?_
    simp only [go_sem,hst,zB,zD,zC,reduceIte,reduceCtorEq,zA]
    refine cp n128 hN (SubL.refl _) ?_
    simp only [go_sem,zAc,zAi,zX,z0',c1,d1,decide_true,decide_false,zAa,zB,zD,zC,reduceIte,reduceCtorEq,zA]
    subst hD
    refine read_d12 t L k ns h1 st l (by omega) W nt tk ho _ _ ?_
    intro W' nt' tk' ho'
    simp only [go_sem,k4,zB,zD,zC,reduceIte,reduceCtorEq,zA]
    exact zAh (R.length - (k+1)) (by omega) ⟨k+1,st,l ++ [sgtN ns],W',nt',tk',hlt,rfl,rfl,rfl,hnext,ho',by simp;omega⟩
   ·have hno:=hNo (hfail (by rw [if_neg hk0,if_neg h1]))
    have d1:decide ((ns.length:Int)≠4)=true:=decide_eq_true (by omega)
    simp only [go_sem,zAa,w2,k1,decide_true,k2,zBg,k3,zV,zAg,zB,zD,zC,reduceIte,reduceCtorEq,zA]
    refine cp n127 hsp (SubL.refl _) ?_
    simp only [go_sem,hst,zB,zD,zC,reduceIte,reduceCtorEq,zA]
    refine cp n128 hN (SubL.refl _) ?_
    simp only [go_sem,zAc,zAi,zX,z0',c1,d1,decide_true,decide_false,zAa,hb0,o1,zAd,hc2,oI,oS,zK,zM,zJ,splice,zH,zG,and_self,zT,zZ,zB,zD,zC,reduceIte,reduceCtorEq,zA]
    exact hno _ _ _ _
theorem rRead_pc (t:ByteArray) (ht:t.size≤900):PC Tryz.prog 63 [.str t] (.pure (rReadA t)):=by
 refine PC.of_frz (AC.run (E_ok _) mix Tryz.func63 m63 rfl rfl rfl (zE rfl) ?_) (by simp [bndL,AV.bnd]) (rReadA_bnd t)
 have hc2:∀ a b:AV,AV.cells (.agg [a,b])=[a,b]:=fun _ _=>rfl
 have oI:∀ n:Int,AV.one (.int .i64 n)=true:=fun _=>rfl
 have oS:∀ (l:List AV) (n:Nat) (u:Tail),AV.one (.slice l n u)=true:=fun _ _ _=>rfl
 have o1:AV.one .nilS=true:=rfl
 have hb0:buildA T 24 []=some (.agg [.int .i64 0,.nilS]):=rfl
 have hz:∀ H,Frz H (.agg [.int .i64 0,.nilS]) (surA ⟨0,[]⟩):=fun H=>zDk (.same _) .nil
 have eN:rreadB t=none→rReadA t=.tuple [surA ⟨0,[]⟩,.bool false]:=fun h=>by unfold rReadA;rw [h]
 have eR:rreadB t=(rheadT ((splitL t 10).take ((splitL t 10).length - 2))).bind fun s=>if textB s=t then some s else none:=rfl
 simp only [go_sem,zAd,hc2,oI,oS,zK,zM,zJ,splice,zH,zG,and_self,zT,zZ,o1,zB,zD,zC,reduceIte,reduceCtorEq,zA]
 refine cp n127 (split10 t (by omega)) (SubL.refl _) ?_
 simp only [go_sem,zB,zD,zC,reduceIte,reduceCtorEq,zA]
 refine read_loop t (by omega) _ _ rfl rfl _ (fun hno st W nt tk => ?_) (fun st l W nt tk hh ho hl => ?_)
 ·have e:=eN (by rw [eR,hno];rfl)
  rw [e]
  simp only [go_sem,Tryz.f63,zB,zD,zC,reduceIte,reduceCtorEq,zA]
  exact ⟨_,rfl,Frz.two (hz _) (.same _)⟩
 ·have hsm:=rhead_small hh
  have hP:=rPrint_pc ⟨st,l⟩ (zEi hsm (by
   show l.length≤1000
   have:l.length≤((splitL t 10).take ((splitL t 10).length - 2)).length:=rhead_len hh
   have h2:=(spl_small t 10).1
   rw [yQ] at this
   omega))
  obtain ⟨q1,q2⟩:=ho.cells
  by_cases htx:textB ⟨st,l⟩=t
  ·have d1:decide (textB ⟨st,l⟩≠t)=false:=decide_eq_false (fun h=>h htx)
   have e:rReadA t=.tuple [surA ⟨st,l⟩,.bool true]:=by unfold rReadA;rw [eR,hh,zY,if_pos htx]
   rw [e]
   simp only [go_sem,zB,zD,zC,reduceIte,reduceCtorEq,zA]
   refine cp n61 hP (SubL.cons (sur_sub st l ho) (SubL.refl [])) ?_
   have nes:=neS
   simp only [go_sem,nes,d1,zAd,hc2,oI,q1,q2,zK,zM,zJ,splice,zH,zG,and_self,zT,zZ,Tryz.f63,zB,zD,zC,reduceIte,reduceCtorEq,zA]
   exact ⟨_,rfl,Frz.two (zDk (.same _) (ho.frz _)) (.same _)⟩
  ·have d1:decide (textB ⟨st,l⟩≠t)=true:=decide_eq_true htx
   have e:=eN (by rw [eR,hh,zY,if_neg htx])
   rw [e]
   simp only [go_sem,zB,zD,zC,reduceIte,reduceCtorEq,zA]
   refine cp n61 hP (SubL.cons (sur_sub st l ho) (SubL.refl [])) ?_
   have nes:=neS
   simp only [go_sem,nes,d1,hb0,o1,zAd,hc2,oI,oS,zK,zM,zJ,splice,zH,zG,and_self,zT,zZ,Tryz.f63,zB,zD,zC,reduceIte,reduceCtorEq,zA]
   exact ⟨_,rfl,Frz.two (hz _) (.same _)⟩
end Go.Av.Lx
end

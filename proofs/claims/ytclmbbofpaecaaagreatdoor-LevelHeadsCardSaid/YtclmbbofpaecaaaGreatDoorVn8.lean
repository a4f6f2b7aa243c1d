/- Part 8 of the proof. -/
import Derived.Test.YtclmbbofpaecaaaGreatDoorVn7
import Derived.Orders
set_option linter.all false
set_option linter.unusedVariables false
set_option linter.unusedSimpArgs false
set_option linter.unusedSectionVars false
open Array renaming getD_eq_getD_getElem? → zZ, getElem?_eq_getElem → qA
open Bool renaming and_eq_true → zT, not_true → zV, not_eq_true' → yE
open List renaming getElem?_eq_none → zN, mem_cons_self → zP, mem_cons_of_mem → zR, all_eq_true → yG
open Nat renaming le_refl → zM, lt_or_ge → zU, zero_le → qG, lt_of_lt_of_le → qL
open Option renaming map_some → zX, getD_some → qD, bind_some → qT
open Option.some renaming injEq → yT
section
namespace Go.Av
open Go
theorem StRel.same {c:Cx} {S S':St} {w:World} (h:StRel c S w) (hb:∀ (p:Nat) (B:Blk),S'.heap[p]? = some (some B)→S.heap[p]? = some (some B)) (hl:S.heap.length≤S'.heap.length) (hn:S.nt≤S'.nt) (ht:∀ k∈S'.toks,k∈S.toks):StRel c S' w where
  sz:=h.sz
  tab:=h.tab
  tsh:=h.tsh
  fr:=h.fr
  K:=h.K
  X:=h.X
  XO:=h.XO
  F:=h.F
  dom i n e:=⟨qL (h.dom i n e).1 hl,(h.dom i n e).2⟩
  tdom k x e:=⟨qL (h.tdom k x e).1 hn,(h.tdom k x e).2⟩
  blk i B x:=h.blk i B (hb i B x)
  inj i j Bi Bj n x x' e e':=h.inj i j Bi Bj n (hb _ _ x) (hb _ _ x') e e'
  tok k hk:=h.tok k (ht k hk)
  tinj k k' b lo hi lo' hi' hk hk':=h.tinj k k' b lo hi lo' hi' (ht k hk) (ht k' hk')
  tblk k i b lo hi B hk x:=h.tblk k i b lo hi B (ht k hk) (hb _ _ x)
  tfr k b lo hi hk:=h.tfr k b lo hi (ht k hk)
theorem wantedA_same {ops:Array Oper} {ts ts':TS} {o:Oper} (h:SameAt (seenBy ops o) ts ts'):wantedA ops ts o=wantedA ops ts' o:=by
  unfold wantedA
  split
  · rfl
  · rename_i j b hg
    unfold yieldedA
    cases hd:(ops[j]?).bind (·.dst) with
    | none=>rfl
    | some t =>
      simp only [qT]
      rw [h t (by unfold seenBy;rw [hg];simp [hd])]
theorem SameAt.ops {ops:Array Oper} {ts ts':TS} {o:Oper} (h:SameAt (seenBy ops o) ts ts'):SameAt (tmpsOf o.op.operands.toList) ts ts':=
  fun t ht=>h t (by unfold seenBy;exact List.mem_append_left _ ht)
structure Lex (E:Env) (Z:List Nat) (ops:Array Oper) (hs:List Bool) (m:Nat) (ts0:TS) (S0:St) (q:Nat→Tr):Prop where
  d1:m≤ops.size
  d2:∀ (j:Nat) (o:Oper),ops[j]? = some o → ∀ e∈o.after.toList,Region.binds .any e=true→e.on<j
  d3:∀ (i j:Nat) (oi oj:Oper),ops[i]? = some oi→ops[j]? = some oj→i≠j → ∀ d,oi.dst=some d→(oj.dst=some d∨d∈seenBy ops oj)→reach ops (min i j) (max i j)=true
  d4:∀ j,m≤j→j<ops.size → ∀ i,i<j→reach ops i j=true
  d5:∀ (i:Nat) (oi:Oper),ops[i]? = some oi→isW oi.op=true→i<m → ∀ j,j<m→hs.getD j false=false→j≠i→reach ops (min j i) (max j i)=true
  h0:(q 0).ts=ts0∧(q 0).S=S0∧(q 0).b=S0
  tk0:∀ k∈S0.toks,k<S0.nt
  z0:∀ p∈Z,p<S0.heap.length
  hq:∀ j,j<m → ∃ o,ops[j]? = some o∧StepOk E Z ops (hs.getD j false) (q j).b o (q j).ts (q j).S (q j).r ∧
        (q (j+1)).ts=setT (q j).ts o.dst ((q j).r.app (q j).S).1∧(q (j+1)).S=((q j).r.app (q j).S).2 ∧
        (q (j+1)).b=nextB (hs.getD j false) o (wantedA ops (q j).ts o) (q j).b (q (j+1)).S
theorem lex_of {E:Env} {Z:List Nat} {ops:Array Oper} {hs:List Bool} {m:Nat} (h:drawOk ops hs m=true) {K:TS→St→Prop} {ts0:TS} {S0:St} (ht:∀ k∈S0.toks,k<S0.nt) (hz:∀ p∈Z,p<S0.heap.length) (hp:QPreZ E Z ops K m ops.toList hs S0 ts0 S0):∃ q,Lex E Z ops hs m ts0 S0 q∧K (q m).ts (q m).S:=by
  obtain ⟨q,q1,q2,q3,q4,q5⟩:=run_of (ops:=ops) hs m 0 ops.toList S0 ts0 S0 (by simp) (by simpa using hp)
  rw [Nat.zero_add] at q4
  unfold drawOk at h
  simp only [zT,decide_eq_true_eq] at h
  obtain ⟨⟨⟨⟨a1,a2⟩,a3⟩,a4⟩,a5⟩:=h
  have zi:∀ (j:Nat) (o:Oper),ops[j]? = some o→(o,j)∈ops.toList.zipIdx:=by
    intro j o ho
    rw [List.mem_zipIdx_iff_getElem?]
    simpa using ho
  refine ⟨q,⟨a1, ?_, ?_, ?_, ?_,⟨q1,q2,q3⟩,ht,hz,fun j hj=>q5 j (qG _) (by omega)⟩,q4⟩
  · intro j o ho e he hb
    have:=List.all_eq_true.1 (List.all_eq_true.1 a2 _ (zi j o ho)) e he
    simpa [hb] using this
  · intro i j oi oj hi hj hne d hd hx
    have:=List.all_eq_true.1 (List.all_eq_true.1 a3 _ (zi j oj hj)) _ (zi i oi hi)
    simp only [hd,Bool.or_eq_true,yE,decide_eq_true_eq] at this
    have h2:((oj.dst == some d) || (seenBy ops oj).contains d)=true:=by
      rcases hx with hx | hx
      · simp [hx]
      · simp [hx]
    rcases this with h3 | h3 | h3
    · exact absurd h3.symm hne
    · rw [h2] at h3;cases h3
    · rw [Nat.min_comm,Nat.max_comm];exact h3
  · intro j h1 h2 i hi
    have:=List.all_eq_true.1 a4 j (List.mem_range.2 h2)
    simp only [Bool.or_eq_true,decide_eq_true_eq] at this
    rcases this with h3 | h3
    · omega
    · exact List.all_eq_true.1 h3 i (List.mem_range.2 hi)
  · intro i oi hi hW him j hj hf hne
    have:=List.all_eq_true.1 a5 _ (zi i oi hi)
    simp only [hW,zV,Bool.false_or,Bool.or_eq_true,decide_eq_true_eq] at this
    rcases this with h3 | h3
    · omega
    · have:=List.all_eq_true.1 h3 j (List.mem_range.2 hj)
      simp only [hf,Bool.false_or,Bool.or_eq_true,decide_eq_true_eq] at this
      rcases this with h4 | h4
      · exact absurd h4 hne
      · exact h4
def tkey (ops:Array Oper) (j:Nat):Option Nat:=(ops[j]?).bind (·.dst)
def tval (q:Nat→Tr) (j:Nat):AV:=((q j).r.app (q j).S).1
def bkey (q:Nat→Tr) (j:Nat):Option Nat:=wk (q j).S (q j).r
def bval (q:Nat→Tr) (j:Nat):Blk:=wv (q j).r
def ckey (q:Nat→Tr) (j:Nat):Option Nat:=ck (q j).S (q j).r
def kkey (q:Nat→Tr) (j:Nat):Option Nat:=kk (q j).r
section
variable {E:Env} {Z:List Nat} {ops:Array Oper} {hs:List Bool} {m:Nat} {ts0:TS} {S0:St} {q:Nat→Tr} (L:Lex E Z ops hs m ts0 S0 q)
include L
theorem Lex.ts_at:∀ {j:Nat},j≤m → ∀ d,(q j).ts.get d=lastW (tkey ops) (tval q) (fun _=>true) d (ts0.get d) j
  | 0,_,d=>by rw [L.h0.1];rfl
  | j + 1,h,d=>by
    obtain ⟨o,h1,h2,h3,h4,h5⟩:=L.hq j (by omega)
    rw [h3]
    simp only [lastW,tkey,h1,qT,true_and]
    cases hd:o.dst with
    | none=>simp only [setT,reduceCtorEq,if_false];exact Lex.ts_at (by omega) d
    | some t =>
      simp only [setT,TS.get_set,yT]
      split
      · rfl
      · exact Lex.ts_at (by omega) d
theorem Lex.hp_at:∀ {j:Nat},j≤m → ∀ p,hp (q j).S p=lastW (bkey q) (bval q) (fun _=>true) p (hp S0 p) j
  | 0,_,p=>by rw [L.h0.2.1];rfl
  | j+1,h,p=>by
    obtain ⟨o,h1,h2,h3,h4,h5⟩:=L.hq j (by omega)
    rw [h4,hp_app]
    simp only [lastW,bkey,true_and]
    split
    · rfl
    · exact Lex.hp_at (by omega) p
theorem Lex.len_le : ∀ {i j:Nat},i≤j→j≤m→(q i).S.heap.length≤(q j).S.heap.length∧(q i).S.nt≤(q j).S.nt
  | i, 0, h, _ => by have:i=0:=by omega
                     subst this;exact ⟨zM _,zM _⟩
  | i,j+1,h,hj=>by
    by_cases e:i=j+1
    · subst e;exact ⟨zM _,zM _⟩
    · obtain ⟨o,h1,h2,h3,h4,h5⟩:=L.hq j (by omega)
      have ih:=Lex.len_le (i:=i) (j:=j) (by omega) (by omega)
      rw [h4]
      exact ⟨Nat.le_trans ih.1 (len_app _ _).1,Nat.le_trans ih.2 (nt_app _ _).1⟩
theorem Lex.bkey_lt {j p:Nat} (hj:j<m) (h:bkey q j=some p):p<(q (j+1)).S.heap.length:=by
  obtain ⟨o,h1,h2,h3,h4,h5⟩:=L.hq j hj
  rw [h4];exact (len_app _ _).2 p h
theorem Lex.ckey_lt {j p:Nat} (hj:j<m) (h:ckey q j=some p):p<(q (j+1)).S.nt:=by
  obtain ⟨o,h1,h2,h3,h4,h5⟩:=L.hq j hj
  rw [h4];exact (nt_app _ _).2 p h
theorem Lex.tok_lt:∀ {j:Nat},j≤m → ∀ k∈(q j).S.toks,k<(q j).S.nt∧(k∈S0.toks ∨ ∃ i,i<j∧ckey q i=some k)
  | 0,_,k,hk=>by rw [L.h0.2.1] at hk ⊢;exact ⟨L.tk0 k hk,.inl hk⟩
  | j + 1,h,k,hk=>by
    obtain ⟨o,h1,h2,h3,h4,h5⟩:=L.hq j (by omega)
    rw [h4] at hk
    rcases (toks_app _ _ _ hk).1 with h6 | h6
    · have ih:=Lex.tok_lt (j:=j) (by omega) k h6
      refine ⟨by rw [h4];exact qL ih.1 (nt_app _ _).1, ?_⟩
      rcases ih.2 with h7 | ⟨i,h7,h8⟩
      · exact .inl h7
      · exact .inr ⟨i,by omega,h8⟩
    · exact ⟨by rw [h4];exact (nt_app _ _).2 k h6,.inr ⟨j,by omega,h6⟩⟩
theorem Lex.kill_ok {j k:Nat} (hj:j<m) (h:kkey q j=some k):k∈(q j).S.toks:=by
  obtain ⟨o,h1,h2,h3,h4,h5⟩:=L.hq j hj
  unfold kkey kk at h
  rcases h2.how with ⟨_,hr⟩ | ⟨_,hok,_⟩
  · rw [hr] at h;cases h
  · split at h
    · rename_i kl mk hr
      subst h
      rw [hr] at hok
      exact hok
    · cases h
theorem Lex.killed {i k:Nat} (h:kkey q i=some k):∀ {j:Nat},i<j→j≤m→k ∉ (q j).S.toks
  | 0,h1,_=>by omega
  | j + 1,h1,h2=>by
    intro hk
    have hki:=(L.tok_lt (j:=i) (by omega) k (L.kill_ok (by omega) h)).1
    have hle:=(L.len_le (i:=i) (j:=j) (by omega) (by omega)).2
    obtain ⟨o,g1,g2,g3,g4,g5⟩:=L.hq j (by omega)
    rw [g4] at hk
    have ht:=toks_app _ _ _ hk
    have hno:ck (q j).S (q j).r≠some k:=by
      intro hc
      cases hr:(q j).r <;> rw [hr] at hc <;> simp [ck] at hc
      omega
    by_cases e:i=j
    · subst e;exact hno (ht.2 h)
    · rcases ht.1 with h6 | h6
      · exact Lex.killed h (by omega) (by omega) h6
      · exact hno h6
theorem Lex.unfree {j p:Nat} (hj:j<m) (h:bkey q j=some p):hs.getD j false=false∧((∃ B mk,(q j).r=.alloc B mk∧p=(q j).S.heap.length) ∨ ∃ o,ops[j]? = some o∧isW o.op=true):=by
  obtain ⟨o,h1,h2,h3,h4,h5⟩:=L.hq j hj
  unfold bkey at h
  rcases h2.how with ⟨_,hr⟩ | ⟨hw,hok,hh | hh | hh⟩
  · rw [hr] at h;cases h
  · obtain ⟨g1,g2,g3⟩:=hh
    cases hr:(q j).r <;> rw [hr] at h g2 <;> simp [wk,Res.calm] at h g2
  · exact ⟨hh.1,.inr ⟨o,h1,hh.2.1⟩⟩
  · refine ⟨hh.1,.inl ?_⟩
    have hqu:=hh.2.2.1
    cases hr:(q j).r <;> rw [hr] at h hqu <;> simp [wk,Res.quiet] at h hqu
    exact ⟨_,_,rfl,h.symm⟩
theorem Lex.noZ {j p:Nat} (hj:j<m) (hp:p∈Z):bkey q j≠some p:=fun h=>by
  have hz:=L.z0 p hp
  rcases L.unfree hj h with ⟨hf,⟨B,mk,_,h2⟩ | ⟨o,h1,h2⟩⟩
  · have:=(L.len_le (i:=0) (j:=j) (by omega) (by omega)).1
    rw [L.h0.2.1] at this
    omega
  · obtain ⟨o',g1,g2,_⟩:=L.hq j hj
    rw [h1] at g1
    cases g1
    unfold bkey at h
    rcases g2.how with ⟨_,hr⟩ | ⟨hw,hok,hh | hh | hh⟩
    · rw [hr] at h;cases h
    · rw [hf] at hh;cases hh.1
    · have hav:=hh.2.2.2
      cases hr:(q j).r with
      | write i B v =>
        rw [hr] at h
        simp only [wk,yT] at h
        subst h
        exact hav _ B v hr hp
      | alloc B mk =>
        rw [hr] at h
        simp only [wk,yT] at h
        have:=(L.len_le (i:=0) (j:=j) (by omega) (by omega)).1
        rw [L.h0.2.1] at this
        omega
      | pure v=>rw [hr] at h;cases h
      | tok k mk=>rw [hr] at h;cases h
    · rw [h2] at hh;cases hh.2.1
theorem Lex.base:∀ {j:Nat},j≤m → ∃ b,b≤j∧(q j).b=(q b).S∧(b=0 ∨ ∃ o,ops[b - 1]? = some o∧isW o.op=true) ∧ ∀ i,b≤i→i<j→(q i).r.quiet=true
  | 0,_=>⟨0,zM _,by rw [L.h0.2.2,L.h0.2.1],.inl rfl,fun i h1 h2=>by omega⟩
  | j + 1,h=>by
    obtain ⟨b,b1,b2,b3,b4⟩:=Lex.base (j:=j) (by omega)
    obtain ⟨o,h1,h2,h3,h4,h5⟩:=L.hq j (by omega)
    unfold nextB at h5
    split at h5
    · rename_i hc
      exact ⟨j+1,zM _,h5,.inr ⟨o,by simpa using h1,hc.2.2⟩,fun i h1 h2=>by omega⟩
    · rename_i hc
      refine ⟨b,by omega,by rw [h5,b2],b3,fun i g1 g2 => ?_⟩
      by_cases e:i=j
      · subst e
        rcases h2.how with ⟨_,hr⟩ | ⟨hw,hok,hh | hh | hh⟩
        · rw [hr];rfl
        · have:=hh.2.1
          cases hr:(q i).r <;> rw [hr] at this <;> simp [Res.calm] at this
          rfl
        · exact absurd ⟨hw,hh.1,hh.2.1⟩ hc
        · exact hh.2.2.1
      · exact b4 i g1 (by omega)
end
structure Inv (E:Env) (ops:Array Oper) (m:Nat) (ts0:TS) (S0:St) (q:Nat→Tr) (c0:Cx) (ds:List Deferred) (D:Nat→Bool) (ts:TS) (S:St) (c:Cx) (a:Act) (w:World):Prop where
 dn:∀ i,D i=true→i<m
 sim:Sim E c0 c ds ts S a w
 tsD:∀ d,ts.get d=lastW (tkey ops) (tval q) D d (ts0.get d) m
 hpD:∀ p,hp S p=lastW (bkey q) (bval q) D p (hp S0 p) m
 len:S.heap.length≤(q m).S.heap.length
 nt:S.nt≤(q m).S.nt
 tok:∀ k,(k∈S0.toks ∨ ∃ i,i<m∧D i=true∧ckey q i=some k)→(∀ i,i<m→D i=true→kkey q i≠some k)→k∈S.toks
 mu:∀ i,i<m→D i=false → ∀ B mk,(q i).r=.alloc B mk→c.μ (q i).S.heap.length=none
 ta:∀ i,i<m→D i=false → ∀ k mk,(q i).r=.tok k mk→c.τ (q i).S.nt=none
structure Can (ops:Array Oper) (D:Nat→Bool) (j:Nat):Prop where
 no:D j=false
 pre:∀ i,reach ops i j=true→D i=true
 post:∀ i,reach ops j i=true→D i=false
 cl:∀ i i',D i'=true→reach ops i i'=true→D i=true
section
variable {E:Env} {Z:List Nat} {ops:Array Oper} {hs:List Bool} {m:Nat} {ts0:TS} {S0:St} {q:Nat→Tr} (L:Lex E Z ops hs m ts0 S0 q)
variable {c0:Cx} {ds:List Deferred} {D:Nat→Bool} {ts:TS} {S:St} {c:Cx} {a:Act} {w:World} (I:Inv E ops m ts0 S0 q c0 ds D ts S c a w) {j:Nat} (hj:j<m) (C:Can ops D j)
include L C hj
theorem Can.order {i:Nat} (h:reach ops (min i j) (max i j)=true) (hne:i≠j):D i=decide (i<j):=by
 by_cases e:i<j
 ·rw [Nat.min_eq_left (by omega),Nat.max_eq_right (by omega)] at h
  rw [C.pre i h,decide_eq_true e]
 ·rw [Nat.min_eq_right (by omega),Nat.max_eq_left (by omega)] at h
  rw [C.post i h,decide_eq_false e]
theorem bkey_later {p i:Nat} (h:bkey q j=some p) (hi:i<m) (h':bkey q i=some p) (hlt:j<i):D i=false:=by
 obtain ⟨f1,_⟩:=L.unfree hj h
 obtain ⟨f2,g2⟩:=L.unfree hi h'
 rcases g2 with ⟨B,mk,g2,g3⟩ | ⟨o,ho,hW⟩
 ·have h1:=L.bkey_lt hj h
  have h2:=(L.len_le (i:=j+1) (j:=i) (by omega) (by omega)).1
  omega
 ·have:=L.d5 i o ho hW hi j hj f1 (by omega)
  rw [Nat.min_eq_left (by omega),Nat.max_eq_right (by omega)] at this
  exact C.post i this
include I
theorem Inv.sameAt {o:Oper} (ho:ops[j]? = some o):SameAt (seenBy ops o) ts (q j).ts:=by
 intro t ht
 rw [I.tsD t,L.ts_at (by omega) t,← zEl (n:=j) (m:=m) (by omega)]
 refine zAy fun i hi hk => ?_
 by_cases e:i=j
 ·subst e;rw [C.no];simp
 ·have hil:i<ops.size:=qL hi L.d1
  have hoi:ops[i]? = some ops[i]:=qA hil
  have hdi:(ops[i]).dst=some t:=by simpa [tkey,hoi] using hk
  exact Can.order L hj C (L.d3 i j _ _ hoi ho e t hdi (.inr ht)) e
theorem Inv.adv {o:Oper} (ho:ops[j]? = some o) {c':Cx} {S':St} {w':World} {v:Value} (hdst:dstOk E.N o.dst=true) (hle:c.le c') (hst:StRel c' S' w') (hv:VRel c' (tval q j) v)
  (hhp:∀ p,hp S' p=if bkey q j=some p then some (bval q j) else hp S p) (hlen:S'.heap.length≤(q m).S.heap.length) (hnt:S'.nt≤(q m).S.nt)
  (htk:∀ k,ckey q j=some k∨(k∈S.toks∧kkey q j≠some k)→k∈S'.toks)
  (hmu:∀ i,bkey q j≠some i→c'.μ i=c.μ i) (hta:∀ k,ckey q j≠some k→c'.τ k=c.τ k) :
  Inv E ops m ts0 S0 q c0 ds (addD D j) (setT ts o.dst (tval q j)) S' c' (a.put o.dst v) w' where
 dn i h:=by
  simp only [addD] at h
  split at h
  ·omega
  ·exact I.dn i h
 sim:=I.sim.put hle hst hv hdst
 tsD d:=by
  have hstep:(setT ts o.dst (tval q j)).get d=if o.dst=some d then some (tval q j) else ts.get d:=by
   cases hd:o.dst with
   | none=>simp [setT]
   | some t=>simp only [setT,TS.get_set,yT]
  rw [hstep]
  by_cases e:o.dst=some d
  ·rw [if_pos e]
   refine (lastW_at (j:=j) (by simp [addD]) (by simp [tkey,ho,e]) hj fun i h1 h2 h3 => ?_).symm
   have hil:i<ops.size:=qL h2 L.d1
   have hoi:ops[i]? = some ops[i]:=qA hil
   have hdi:(ops[i]).dst=some d:=by simpa [tkey,hoi] using h3
   have:=L.d3 i j _ _ hoi ho (by omega) d hdi (.inl e)
   rw [Nat.min_eq_right (by omega),Nat.max_eq_left (by omega)] at this
   simp only [addD,if_neg (show ¬ i=j by omega)]
   exact C.post i this
  ·rw [if_neg e,I.tsD d]
   refine zAy fun i hi hk => ?_
   have:i≠j:=by
    intro e';subst e'
    simp [tkey,ho] at hk
    exact e hk
   simp only [addD,if_neg this]
 hpD p:=by
  rw [hhp]
  by_cases e:bkey q j=some p
  ·rw [if_pos e]
   refine (lastW_at (j:=j) (by simp [addD]) e hj fun i h1 h2 h3 => ?_).symm
   simp only [addD,if_neg (show ¬ i=j by omega)]
   exact bkey_later L hj C e h2 h3 h1
  ·rw [if_neg e,I.hpD p]
   refine zAy fun i hi hk => ?_
   have:i≠j:=by intro e';subst e';exact e hk
   simp only [addD,if_neg this]
 len:=hlen
 nt:=hnt
 tok k h1 h2:=by
  refine htk k ?_
  by_cases e:ckey q j=some k
  ·exact .inl e
  ·refine .inr ⟨I.tok k ?_ fun i hi hD=>h2 i hi (by simp only [addD];split;rfl;exact hD),h2 j hj (by simp [addD])⟩
   rcases h1 with h1 | ⟨i,g1,g2,g3⟩
   ·exact .inl h1
   ·have:i≠j:=by intro e';subst e';exact e g3
    simp only [addD,if_neg this] at g2
    exact .inr ⟨i,g1,g2,g3⟩
 mu i hi hD B mk hr:=by
  have hne:i≠j:=by intro e;subst e;simp [addD] at hD
  simp only [addD,if_neg hne] at hD
  rw [hmu,I.mu i hi hD B mk hr]
  intro hb
  have hbi:bkey q i=some (q i).S.heap.length:=by simp [bkey,hr,wk]
  rcases zU i j with h1 | h1
  ·obtain ⟨f1,g1⟩:=L.unfree hj hb
   rcases g1 with ⟨B',mk',g1,g2⟩ | ⟨o',ho',hW⟩
   ·have:=L.bkey_lt hi hbi
    have:=(L.len_le (i:=i+1) (j:=j) (by omega) (by omega)).1
    omega
   ·have:=L.d5 j o' ho' hW hj i hi (L.unfree hi hbi).1 (by omega)
    rw [Nat.min_eq_left (by omega),Nat.max_eq_right (by omega)] at this
    rw [C.pre i this] at hD;cases hD
  ·have:=L.bkey_lt hj hb
   have:=(L.len_le (i:=j+1) (j:=i) (by omega) (by omega)).1
   omega
 ta i hi hD k mk hr:=by
  have hne:i≠j:=by intro e;subst e;simp [addD] at hD
  simp only [addD,if_neg hne] at hD
  rw [hta,I.ta i hi hD k mk hr]
  intro hb
  have hci:ckey q i=some (q i).S.nt:=by simp [ckey,hr,ck]
  rcases zU i j with h1 | h1
  ·have h2:=L.ckey_lt hi hci
   have h3:=(L.len_le (i:=i+1) (j:=j) (by omega) (by omega)).2
   have h4:(q j).S.nt=(q i).S.nt:=by
    unfold ckey ck at hb
    split at hb
    ·simp only [yT] at hb;exact hb
    ·cases hb
   omega
  ·have h2:=L.ckey_lt hj hb
   have h3:=(L.len_le (i:=j+1) (j:=i) (by omega) (by omega)).2
   omega
theorem Inv.post {o:Oper} (ho:ops[j]? = some o) {w':World} {v:Value} (hdst:dstOk E.N o.dst=true) (hpo:Post c S (q j).r v w') :
  ∃ c' S',Inv E ops m ts0 S0 q c0 ds (addD D j) (setT ts o.dst (tval q j)) S' c' (a.put o.dst v) w':=by
 have hl1:=L.len_le (i:=j+1) (j:=m) (by omega) (by omega)
 cases hr:(q j).r with
 | pure x =>
  rw [hr] at hpo
  obtain ⟨c',h1,h2,h3,h4,h5⟩:=hpo
  exact ⟨c',S,I.adv L hj C ho hdst h1 h4 (by simpa [tval,hr,Res.app] using h5) (fun p=>by simp [bkey,hr,wk]) I.len I.nt (fun k hk=>by
   rcases hk with hk | hk
   ·simp [ckey,hr,ck] at hk
   ·exact hk.1) (fun i _=>by rw [h2]) (fun k _=>by rw [h3])⟩
 | alloc B mk =>
  rw [hr] at hpo
  have hb:bkey q j=some (q j).S.heap.length:=by simp [bkey,hr,wk]
  have hnone:hp S (q j).S.heap.length=none:=by
   rw [I.hpD,zCv]
   ·have:=(L.len_le (i:=0) (j:=j) (by omega) (by omega)).1
    rw [L.h0.2.1] at this
    unfold hp;rw [zN this];rfl
   ·intro i hi hk
    by_cases e:i=j
    ·subst e;exact C.no
    ·rcases zU i j with h1 | h1
     ·have:=L.bkey_lt hi hk
      have:=(L.len_le (i:=i+1) (j:=j) (by omega) (by omega)).1
      omega
     ·exact bkey_later L hj C hb hi hk (by omega)
  obtain ⟨c',h1,h2,h3,h4,h5⟩:=hpo _ (I.mu j hj C.no B mk hr) (fun B' e=>by
   have:=hp_some.2 e
   rw [hnone] at this;cases this)
  refine ⟨c',_,I.adv L hj C ho hdst h1 h4 (by simpa [tval,hr,Res.app] using h5) (fun p=>by simp only [hp_put,bkey,hr,wk,bval,wv,yT]) ?_ I.nt (fun k hk=>by
   rcases hk with hk | hk
   ·simp [ckey,hr,ck] at hk
   ·exact hk.1) (fun i hi=>h2 i (fun e=>hi (by rw [hb,e]))) (fun k _=>by rw [h3])⟩
  rw [len_put]
  have:=L.bkey_lt hj hb
  have:=I.len
  omega
 | tok kill mk =>
  rw [hr] at hpo
  have hc:ckey q j=some (q j).S.nt:=by simp [ckey,hr,ck]
  obtain ⟨c',h1,h2,h3,h4,h5⟩:=hpo _ (I.ta j hj C.no kill mk hr)
  refine ⟨c',_,I.adv L hj C ho hdst h1 h4 (by simpa [tval,hr,Res.app] using h5) (fun p=>by simp [bkey,hr,wk,Go.Av.hp]) I.len ?_ (fun k hk => ?_) (fun i _=>by rw [h2]) (fun k hk=>h3 k (fun e=>hk (by rw [hc,e])))⟩
  ·have:=L.ckey_lt hj hc
   have:=I.nt
   show max S.nt ((q j).S.nt+1)≤_
   omega
  ·rcases hk with hk | ⟨hk,hk2⟩
   ·rw [hc] at hk;cases hk;exact zP
   ·refine zR _ ?_
    cases kill with
    | none=>exact hk
    | some k0 =>
     simp only [killTok,List.mem_filter]
     refine ⟨hk, ?_⟩
     simp only [kkey,hr,kk,ne_eq,yT] at hk2
     simp only [bne_iff_ne,ne_eq]
     exact fun e=>hk2 e.symm
 | write i B x =>
  rw [hr] at hpo
  obtain ⟨c',h1,h2,h3,h4,h5⟩:=hpo
  have hb:bkey q j=some i:=by simp [bkey,hr,wk]
  refine ⟨c',_,I.adv L hj C ho hdst h1 h4 (by simpa [tval,hr,Res.app] using h5) (fun p=>by simp only [hp_put,bkey,hr,wk,bval,wv,yT]) ?_ I.nt (fun k hk=>by
   rcases hk with hk | hk
   ·simp [ckey,hr,ck] at hk
   ·exact hk.1) (fun i _=>by rw [h2]) (fun k _=>by rw [h3])⟩
  rw [len_put]
  have:=L.bkey_lt hj hb
  have:=I.len
  omega
theorem Inv.seesW {o:Oper} (ho:ops[j]? = some o) (hW:isW o.op=true):Sees (q j).S S:=by
 intro p B h
 rw [← hp_some] at h ⊢
 rw [← h,I.hpD p,L.hp_at (by omega) p,← zEl (n:=j) (m:=m) (by omega)]
 refine zAy fun i hi hk => ?_
 by_cases e:i=j
 ·subst e;rw [C.no];simp
 ·have:=L.d5 j o ho hW hj i hi (L.unfree hi hk).1 e
  exact Can.order L hj C this e
theorem Inv.seesZ {F:St} (hF:∀ (p:Nat) (B:Blk),F.heap[p]? = some (some B)→p∈Z∧(q j).S.heap[p]? = some (some B)):Sees F S:=by
 intro p B e
 obtain ⟨hz,hB⟩:=hF p B e
 rw [← hp_some] at hB ⊢
 rw [L.hp_at (by omega) p] at hB
 rw [I.hpD p,← hB]
 have a:∀ (D':Nat→Bool) (n:Nat),n≤m→lastW (bkey q) (bval q) D' p (hp S0 p) n=hp S0 p:=fun D' n hn=>by
  rw [zAy (D':=fun _=>false) (fun i hi hk=>absurd hk (L.noZ (by omega) hz))]
  exact zCv fun i _ _=>rfl
 rw [a _ _ (zM _),a _ _ (by omega)]
theorem Inv.seesB (hf:hs.getD j false=false):Sees (q j).b S:=by
 obtain ⟨b,b1,b2,b3,b4⟩:=L.base (j:=j) (by omega)
 rw [b2]
 intro p B h
 have hp:=hp_some.2 h
 rw [← hp_some,← hp,I.hpD p,L.hp_at (by omega) p,← zEl (n:=b) (m:=m) (by omega)]
 have hlt:p<(q b).S.heap.length:=by
  rcases zU p (q b).S.heap.length with h' | h'
  ·exact h'
  ·rw [zN h'] at h;cases h
 refine zAy fun i hi hk => ?_
 have hu:=L.unfree hi hk
 have hlate:b≤i→(∃ B mk,(q i).r=.alloc B mk∧p=(q i).S.heap.length)→False:=fun h1 ⟨B,mk',_,h2⟩=>by
  have:=(L.len_le (i:=b) (j:=i) h1 (by omega)).1
  omega
 rcases zU i b with h1 | h1
 ·rw [decide_eq_true h1]
  rcases b3 with b3 | ⟨o,b3,hW⟩
  ·omega
  ·have hbm:b - 1<m:=by omega
   have hDb:D (b - 1)=true:=by
    have:=L.d5 (b - 1) o b3 hW hbm j hj hf (by omega)
    rw [Nat.min_eq_right (by omega),Nat.max_eq_left (by omega)] at this
    exact C.pre _ this
   by_cases e:i=b - 1
   ·rw [e];exact hDb
   ·have:=L.d5 (b - 1) o b3 hW hbm i hi hu.1 e
    rw [Nat.min_eq_left (by omega),Nat.max_eq_right (by omega)] at this
    exact C.cl _ _ hDb this
 ·rw [decide_eq_false (by omega)]
  by_cases e:i=j
  ·subst e;exact C.no
  ·rcases hu.2 with hu2 | ⟨o,hoi,hW⟩
   ·exact (hlate h1 hu2).elim
   ·have hr:=L.d5 i o hoi hW hi j hj hf (fun e'=>e e'.symm)
    rcases zU i j with h2 | h2
    ·have hq:=b4 i h1 h2
     exfalso
     unfold bkey at hk
     cases hr:(q i).r <;> rw [hr] at hk hq <;> simp [wk,Res.quiet] at hk hq
     exact hlate h1 ⟨_,_,hr,hk.symm⟩
    ·rw [Nat.min_eq_left (by omega),Nat.max_eq_right (by omega)] at hr
     exact C.post _ hr
theorem Inv.okS (hok:(q j).r.ok (q j).S) (hk:∀ k mk,(q j).r=.tok (some k) mk→c.τ k≠none):(q j).r.ok S:=by
 cases hr:(q j).r with
 | tok kill mk =>
  cases kill with
  | none=>trivial
  | some k =>
   rw [hr] at hok
   have hkk:kkey q j=some k:=by simp [kkey,hr,kk]
   show k∈S.toks
   refine I.tok k ?_ ?_
   ·rcases (L.tok_lt (j:=j) (by omega) k hok).2 with h | ⟨i,h1,h2⟩
    ·exact .inl h
    ·refine .inr ⟨i,by omega, ?_,h2⟩
     cases hD:D i with
     | true=>rfl
     | false =>
      exfalso
      unfold ckey ck at h2
      split at h2
      ·rename_i kl mk' hri
       simp only [yT] at h2
       exact hk k mk hr (h2 ▸ I.ta i (by omega) hD _ _ hri)
      ·cases h2
   ·intro i hi hD hki
    rcases zU i j with h1 | h1
    ·exact L.killed hki h1 (by omega) hok
    ·by_cases e:i=j
     ·subst e;rw [C.no] at hD;cases hD
     ·exact L.killed hkk (show j<i by omega) (by omega) (L.kill_ok hi hki)
 | _=>trivial
theorem Inv.step (hE:E.Ok) (hd:∀ (j:Nat) (oj:Oper),ops[j]? = some oj→dstOk E.N oj.dst=true) {QQ:Exit→Act→World→Prop} {is:List Nat}
  (next:∀ ts' S' c' a' w',Inv E ops m ts0 S0 q c0 ds (addD D j) ts' S' c' a' w'→wpOpsIn E.F 0 E.P ops QQ is a' w'):wpOpsIn E.F 0 E.P ops QQ (j :: is) a w:=by
 obtain ⟨o,ho,hst,_⟩:=L.hq j hj
 have same:=I.sameAt L hj C ho
 have hw:=wantedA_same same
 simp only [wpOpsIn,ho]
 rcases hst.how with ⟨hw0,hr⟩ | ⟨hw1,hok,hh⟩
 ·rw [if_neg (by rw [zDp I.sim hd (hw.trans hw0)];simp)]
  obtain ⟨c',S',h⟩:=I.post L hj C ho hst.dst (v:=Go.undef) (w':=w) (by rw [hr];exact Post.same I.sim.st (VRel.undef c))
  exact ⟨fun _ _=>trivial,next _ _ _ _ _ h⟩
 ·rw [if_pos (zDp I.sim hd (hw.trans hw1))]
  have fin:∀ {R:St},Sees R S→astepO E.T R (q j).ts o.op=some (q j).r→o.wpIn E.F 0 E.P a w (wpOpsIn E.F 0 E.P ops QQ is) QQ:=by
   intro R hS e
   rw [← astepO_same same.ops] at e
   have e2:=astepO_mono hS e
   have hokS:=I.okS L hj C hok (fun k mk hk=>by
    rw [hk] at e2
    obtain ⟨x,l,n,hx⟩:=astepO_kill e2
    have hv:=zAh I.sim.ts hx
    generalize a.eval x=u at hv
    cases hv with
    | slice _ _ _ b off cap vs hc hk hr he ht =>
     obtain ⟨_,_,z,_,h2⟩:=ht k rfl
     rw [h2];simp
    | sliceNil _ ht=>exact absurd rfl (ht k))
   obtain ⟨v,w',hy,hp⟩:=astep_ok hE.T I.sim.st I.sim.ts (o:=o) e2 hokS
   obtain ⟨c',S',h⟩:=I.post L hj C ho hst.dst hp
   have nx:=next _ _ _ _ _ h
   have hnd:∀ c,o.op ≠ .defer c:=fun cl hcl=>by rw [hcl] at e;simp [astepO] at e
   unfold Oper.wpIn
   refine ⟨fun _ _=>trivial, ?_⟩
   rw [Oper.semAt_eq _ _ _ hnd]
   rcases hy with hy | ⟨hy,rfl⟩
   ·rw [hy];exact nx
   ·rw [hy];exact nx
  rcases hh with ⟨f1,f2,f3⟩ | ⟨f1,f2,f3⟩ | ⟨f1,f2,f3,f4⟩
  ·obtain ⟨F,hF,f3⟩:=f3
   exact fin (I.seesZ L hj C hF) f3
  ·exact fin (I.seesW L hj C ho f2) f3.1
  ·rcases f4 with f4 | ⟨cl,f,args,args',g1,g2,g3,g4,g5,g6,g7⟩
   ·exact fin (I.seesB L hj C f1) f4
   ·have hcl:callee E ts cl=some (f,args):=by
     rw [← g3]
     refine callee_same (fun t ht=>same t ?_)
     have:=ht
     unfold seenBy
     rw [g1]
     exact List.mem_append_left _ ht
    obtain ⟨vs,hx,hvs⟩:=callee_ok hE I.sim.ts g4 hcl o g1 w
    unfold Oper.wpIn
    refine ⟨fun _ _=>trivial, ?_⟩
    rw [Oper.semAt_eq _ _ _ (fun c hc=>by rw [g1] at hc;cases hc),hx,Oper.uponIn_enter]
    refine ⟨fun hh=>by simp [Env.F,Fence.wide] at hh,zEi ((g6 c S w vs I.sim.st (g5 c vs hvs)).mono fun e w' ⟨x,he,hp⟩ => ?_)⟩
    subst he
    obtain ⟨c',S',h⟩:=I.post L hj C ho hst.dst hp
    exact next _ _ _ _ _ h
end
theorem lin_step {F:Fence} {nn:Nat} {P:Program} {ops:Array Oper} {Q:Exit→Act→World→Prop} {fuel t:Nat} {listed:Array Bool} {a:Act} {w:World}
  (h0:Region.ready .any ops listed=[]→Q .normal a w)
  (h1:∀ i∈Region.ready .any ops listed,∀ t',wpOpsIn F nn P ops Q (i :: Region.linearise.go .any ops fuel t' (listed.setIfInBounds i true) []) a w) :
  wpOpsIn F nn P ops Q (Region.linearise.go .any ops (fuel+1) t listed []) a w:=by
 simp only [Region.linearise.go]
 change wpOpsIn F nn P ops Q (match (Region.ready .any ops listed)[t % (Region.ready .any ops listed).length]? with
  | some i=>Region.linearise.go .any ops fuel (t / (Region.ready .any ops listed).length) (listed.setIfInBounds i true) [i]
  | none=>[].reverse) a w
 cases hi:(Region.ready .any ops listed)[t % (Region.ready .any ops listed).length]? with
 | none =>
  have hnil:Region.ready .any ops listed=[]:=by
   cases hr:Region.ready .any ops listed with
   | nil=>rfl
   | cons x xs =>
    rw [hr] at hi
    have hlt:t % (x :: xs).length<(x :: xs).length:=Nat.mod_lt _ (by simp)
    simp at hi
    simp at hlt
    omega
  simpa [wpOpsIn] using h0 hnil
 | some i =>
  simp only []
  rw [linearise_go_acc,List.reverse_singleton,List.singleton_append]
  exact h1 i (List.mem_of_getElem? hi) _
def Dl (listed:Array Bool) (i:Nat):Bool:=listed.getD i false
def undone (n:Nat) (D:Nat→Bool):Nat:=((List.range n).filter (fun i => !D i)).length
theorem filter_le {p p':Nat→Bool} (h:∀ i,p' i=true→p i=true):∀ (l:List Nat),(l.filter p').length≤(l.filter p).length
 | []=>zM _
 | x :: l=>by
  have ih:=filter_le h l
  by_cases h1:p' x=true
  ·simp [h1,h x h1,ih]
  ·by_cases h2:p x=true
   ·simp [h1,h2];omega
   ·simp [h1,h2,ih]
theorem filter_lt {p p':Nat→Bool} (h:∀ i,p' i=true→p i=true) {j:Nat} (hj:p j=true) (hj':p' j=false):∀ (l:List Nat),j∈l→(l.filter p').length<(l.filter p).length
 | [],h=>by cases h
 | x :: l,hm=>by
  have hle:=filter_le h l
  rcases List.mem_cons.1 hm with rfl | hm
  ·simp [hj,hj'];omega
  ·have ih:=filter_lt h hj hj' l hm
   by_cases h1:p' x=true
   ·simp [h1,h x h1,ih]
   ·by_cases h2:p x=true
    ·simp [h1,h2];omega
    ·simp [h1,h2,ih]
theorem undone_add {n j:Nat} {D:Nat→Bool} (hj:j<n) (hD:D j=false):undone n (addD D j)<undone n D:=by
 refine filter_lt (j:=j) (fun i hi => ?_) (by simp [hD]) (by simp [addD]) _ (List.mem_range.2 hj)
 simp only [addD] at hi
 split at hi
 ·simp at hi
 ·exact hi
theorem undone_zero {n:Nat} {D:Nat→Bool} (h:undone n D=0) {i:Nat} (hi:i<n):D i=true:=by
 cases hD:D i with
 | true=>rfl
 | false =>
  have:=List.length_eq_zero_iff.1 h
  have h2:i∈(List.range n).filter (fun i => !D i):=List.mem_filter.2 ⟨List.mem_range.2 hi,by simp [hD]⟩
  rw [this] at h2;cases h2
theorem Dl_set {listed:Array Bool} {i:Nat} (hi:i<listed.size):Dl (listed.setIfInBounds i true)=addD (Dl listed) i:=by
 funext k
 simp only [Dl,addD,zZ,Array.getElem?_setIfInBounds]
 by_cases e:i=k
 ·subst e;simp [hi]
 ·simp [e,Ne.symm e]
theorem zCx {ops:Array Oper} {listed:Array Bool} (hsz:listed.size=ops.size) {i:Nat}:i∈Region.ready .any ops listed↔i<ops.size∧Dl listed i=false ∧ ∀ o,ops[i]? = some o → ∀ e∈o.after.toList,Region.binds .any e=true→Dl listed e.on=true:=by
 unfold Region.ready
 rw [List.mem_filter,List.mem_range]
 constructor
 ·intro ⟨h1,h2⟩
  simp only [zT,yE] at h2
  obtain ⟨h2,h3⟩:=h2
  refine ⟨h1, ?_,fun o ho e he hb => ?_⟩
  ·rw [zZ,qA (by omega),qD] at h2
   rw [Dl,zZ,qA (by omega),qD];exact h2
  ·rw [ho] at h3
   simp only [zX,qD] at h3
   rw [← Array.all_toList,yG] at h3
   have:=h3 e he
   simpa [hb,Dl] using this
 ·intro ⟨h1,h2,h3⟩
  refine ⟨h1, ?_⟩
  have ho:ops[i]? = some ops[i]:=qA h1
  simp only [zT,yE]
  refine ⟨?_, ?_⟩
  ·rw [zZ,qA (by omega),qD]
   rw [Dl,zZ,qA (by omega),qD] at h2;exact h2
  ·rw [ho]
   simp only [zX,qD]
   rw [← Array.all_toList,yG]
   intro e he
   cases hb:Region.binds .any e with
   | false=>simp
   | true=>simpa [Dl] using h3 _ ho e he hb
theorem least {D:Nat→Bool}:∀ n,(∃ i,i<n∧D i=false) → ∃ j,j<n∧D j=false ∧ ∀ i,i<j→D i=true
 | 0,⟨i,h,_⟩=>by omega
 | n+1,⟨i,h,hi⟩=>by
  by_cases hx:∃ i,i<n∧D i=false
  ·obtain ⟨j,h1,h2,h3⟩:=least n hx
   exact ⟨j,by omega,h2,h3⟩
  ·refine ⟨i,h,hi,fun k hk => ?_⟩
   cases hD:D k with
   | true=>rfl
   | false=>exact absurd ⟨k,by omega,hD⟩ hx
section
variable {E:Env} {Z:List Nat} (hE:E.Ok) {ops:Array Oper} {hs:List Bool} {m:Nat} {ts0:TS} {S0:St} {q:Nat→Tr} (L:Lex E Z ops hs m ts0 S0 q) (hd:∀ (j:Nat) (oj:Oper),ops[j]? = some oj→dstOk E.N oj.dst=true)
variable {Q:AQ} {c0:Cx} {ds:List Deferred}
def Closed (ops:Array Oper) (D:Nat→Bool):Prop:=∀ (j:Nat) (o:Oper),ops[j]? = some o→D j=true → ∀ e∈o.after.toList,Region.binds .any e=true→D e.on=true
theorem Closed.add {ops:Array Oper} {D:Nat→Bool} (h:Closed ops D) {i:Nat} (hi:∀ o,ops[i]? = some o → ∀ e∈o.after.toList,Region.binds .any e=true→D e.on=true):Closed ops (addD D i):=by
 intro j o ho hj e he hb
 simp only [addD] at hj ⊢
 split
 ·rfl
 ·split at hj
  ·rename_i e';subst e';exact hi o ho e he hb
  ·exact h j o ho hj e he hb
include hE L hd
theorem tail_ok:∀ (fuel n t:Nat) (listed:Array Bool) (ts:TS) (S:St) (c:Cx) (a:Act) (w:World),m≤n→listed.size=ops.size→(∀ i,i<ops.size→Dl listed i=decide (i<n))→Closed ops (Dl listed)→undone ops.size (Dl listed)≤fuel →
  WOps E ops Q (ops.toList.drop n) ts S→Sim E c0 c ds ts S a w→wpOpsIn E.F 0 E.P ops (lft E c0 ds Q) (Region.linearise.go .any ops fuel t listed []) a w:=by
 intro fuel
 have fin:∀ (n:Nat) (ts:TS) (S:St) (c:Cx) (a:Act) (w:World),ops.size≤n→WOps E ops Q (ops.toList.drop n) ts S→Sim E c0 c ds ts S a w→lft E c0 ds Q .normal a w:=by
  intro n ts S c a w hn h hs
  rw [List.drop_eq_nil_of_le (by simpa using hn)] at h
  exact ⟨.normal,ts,S,c,trivial,h,hs⟩
 induction fuel with
 | zero =>
  intro n t listed ts S c a w hmn hsz hl hcl hu h hs
  have hn:ops.size≤n:=by
   rcases zU n ops.size with h' | h'
   ·have h1:=undone_zero (Nat.le_zero.1 hu) h'
    rw [hl n h'] at h1;simp at h1
   ·exact h'
  simpa [Region.linearise.go,wpOpsIn] using fin n ts S c a w hn h hs
 | succ fuel ih =>
  intro n t listed ts S c a w hmn hsz hl hcl hu h hs
  have only:∀ i∈Region.ready .any ops listed,i=n:=by
   intro i hi
   obtain ⟨h1,h2,h3⟩:=(zCx hsz).1 hi
   rw [hl i h1] at h2
   have hni:n≤i:=by simpa using h2
   rcases zU n i with h4 | h4
   ·have ho:ops[i]? = some ops[i]:=qA h1
    have:=zCw L.d2 hcl i n _ ho (h3 _ ho) (L.d4 i (by omega) h1 n h4)
    rw [hl n (by omega)] at this;simp at this
   ·omega
  by_cases hn:n<ops.size
  ·have ho:ops[n]? = some ops[n]:=qA hn
   have hin:n∈Region.ready .any ops listed:=(zCx hsz).2 ⟨hn,by rw [hl n hn];simp,fun o ho e he hb=>by
    have:=L.d2 n o ho e he hb
    rw [hl _ (by omega)];simpa using this⟩
   refine lin_step (fun hnil=>by rw [hnil] at hin;cases hin) fun i hi t' => ?_
   have e:=only i hi
   subst e
   have hdrop:ops.toList.drop i=ops[i] :: ops.toList.drop (i+1):=by
    rw [List.drop_eq_getElem_cons (by simpa using hn)];simp
   rw [hdrop] at h
   obtain ⟨_,_,h3⟩:=(zCx hsz).1 hi
   refine wops_step hE hd ho h hs fun ts' S' c' a' w' h' hs'=>ih (i+1) t' _ ts' S' c' a' w' (by omega) (by simpa using hsz) (fun k hk => ?_) ?_ ?_ h' hs'
   ·rw [Dl_set (by omega)]
    simp only [addD]
    split
    ·rename_i e;subst e;simp
    ·rename_i e;rw [hl k hk];simp;omega
   ·rw [Dl_set (by omega)];exact hcl.add h3
   ·rw [Dl_set (by omega)]
    have:=undone_add (n:=ops.size) (D:=Dl listed) hn (by rw [hl i hn];simp)
    omega
  ·refine lin_step (fun _=>fin n ts S c a w (by omega) h hs) fun i hi t' => ?_
   have:=only i hi
   have:=((zCx hsz).1 hi).1
   omega
theorem anyEnd (hK:WOps E ops Q (ops.toList.drop m) (q m).ts (q m).S) (fuel t:Nat) (listed:Array Bool) (ts:TS) (S:St) (c:Cx) (a:Act) (w:World) (hsz:listed.size=ops.size) (hcl:Closed ops (Dl listed)) (hu:undone ops.size (Dl listed)≤fuel)
  (I:Inv E ops m ts0 S0 q c0 ds (Dl listed) ts S c a w) (hall:∀ i,i<m→Dl listed i=true):wpOpsIn E.F 0 E.P ops (lft E c0 ds Q) (Region.linearise.go .any ops fuel t listed []) a w:=by
 refine tail_ok hE L hd fuel m t listed (q m).ts (q m).S c a w (zM _) hsz (fun i hi => ?_) hcl hu hK ⟨I.sim.le,I.sim.hC,I.sim.b0,I.sim.st.same ?_ I.len I.nt ?_,fun d v hv => ?_,I.sim.ds,I.sim.size⟩
 ·by_cases h:i<m
  ·rw [hall i h,decide_eq_true h]
  ·cases hD:Dl listed i with
   | true=>exact absurd (I.dn i hD) h
   | false=>rw [decide_eq_false h]
 ·intro p B h
  rw [← hp_some] at h ⊢
  rw [← h,I.hpD p,L.hp_at (zM _) p]
  exact zAy fun i hi _=>hall i hi
 ·intro k hk
  refine I.tok k ?_ fun i hi _ hki=>L.killed hki hi (zM _) hk
  rcases (L.tok_lt (zM _) k hk).2 with h | ⟨i,h1,h2⟩
  ·exact .inl h
  ·exact .inr ⟨i,h1,hall i h1,h2⟩
 ·refine I.sim.ts d v ?_
  rw [← hv,I.tsD d,L.ts_at (zM _) d]
  exact zAy fun i hi _=>hall i hi
theorem any_ok (hK:WOps E ops Q (ops.toList.drop m) (q m).ts (q m).S):∀ (fuel t:Nat) (listed:Array Bool) (ts:TS) (S:St) (c:Cx) (a:Act) (w:World),listed.size=ops.size→Closed ops (Dl listed)→undone ops.size (Dl listed)≤fuel →
  Inv E ops m ts0 S0 q c0 ds (Dl listed) ts S c a w→wpOpsIn E.F 0 E.P ops (lft E c0 ds Q) (Region.linearise.go .any ops fuel t listed []) a w:=by
 intro fuel
 induction fuel with
 | zero =>
  intro t listed ts S c a w hsz hcl hu I
  refine anyEnd hE L hd hK 0 t listed ts S c a w hsz hcl hu I fun i hi=>undone_zero (Nat.le_zero.1 hu) (qL hi L.d1)
 | succ fuel ih =>
  intro t listed ts S c a w hsz hcl hu I
  by_cases hall:∀ i,i<m→Dl listed i=true
  ·exact anyEnd hE L hd hK _ t listed ts S c a w hsz hcl hu I hall
  ·have hall':∃ i,i<m∧Dl listed i=false:=by
    refine Classical.byContradiction fun hne=>hall fun i hi => ?_
    cases hD:Dl listed i with
    | true=>rfl
    | false=>exact absurd ⟨i,hi,hD⟩ hne
   obtain ⟨j,j1,j2,j3⟩:=least m hall'
   have hjs:j<ops.size:=qL j1 L.d1
   have hjr:j∈Region.ready .any ops listed:=(zCx hsz).2 ⟨hjs,j2,fun o ho e he hb=>j3 _ (L.d2 j o ho e he hb)⟩
   refine lin_step (fun hnil=>by rw [hnil] at hjr;cases hjr) fun i hi t' => ?_
   obtain ⟨h1,h2,h3⟩:=(zCx hsz).1 hi
   have hoi:ops[i]? = some ops[i]:=qA h1
   have him:i<m:=by
    rcases zU i m with h | h
    ·exact h
    ·have:=zCw L.d2 hcl i j _ hoi (h3 _ hoi) (L.d4 i h h1 j (by omega))
     rw [j2] at this;cases this
   have C:Can ops (Dl listed) i:=by
    refine ⟨h2,fun k hk=>zCw L.d2 hcl i k _ hoi (h3 _ hoi) hk,fun k hk => ?_,fun k k' hk' hr => ?_⟩
    ·cases hD:Dl listed k with
     | false=>rfl
     | true =>
      have hkm:=I.dn k hD
      have hks:k<ops.size:=qL hkm L.d1
      have hok:ops[k]? = some ops[k]:=qA hks
      have:=zCw L.d2 hcl k i _ hok (fun e he hb=>hcl k _ hok hD e he hb) hk
      rw [h2] at this;cases this
    ·have hks:k'<ops.size:=qL (I.dn k' hk') L.d1
     have hok:ops[k']? = some ops[k']:=qA hks
     exact zCw L.d2 hcl k' k _ hok (fun e he hb=>hcl k' _ hok hk' e he hb) hr
   refine I.step L him C hE hd fun ts' S' c' a' w' I'=>ih t' _ ts' S' c' a' w' (by simpa using hsz) ?_ ?_ ?_
   ·rw [Dl_set (by omega)];exact hcl.add h3
   ·rw [Dl_set (by omega)]
    have:=undone_add (n:=ops.size) (D:=Dl listed) h1 h2
    omega
   ·rw [Dl_set (by omega)];exact I'
end
theorem draw_ok {E:Env} (hE:E.Ok) (hm:E.P.follows .mixedOrders=true) (id:Nat) (ops:Array Oper) (hs:List Bool) (m:Nat) (Q:AQ) (ts:TS) (S:St) (c0 c:Cx) (ds:List Deferred) (a:Act) (w:World)
  (hd:dstsOk E.N ops=true) (hdr:drawOk ops hs m=true) (Z:List Nat) (hz:∀ p∈Z,p<S.heap.length) (hp:QPreZ E Z ops (WOps E ops Q (ops.toList.drop m)) m ops.toList hs S ts S) (sim:Sim E c0 c ds ts S a w):(Code.region id ops true).wpIn E.F 0 E.P (lft E c0 ds Q) a w:=by
 have htk:∀ k∈S.toks,k<S.nt:=fun k hk=>by
  obtain ⟨b,lo,hi,h,_⟩:=sim.st.tok k hk
  exact (sim.st.tdom k _ h).1
 obtain ⟨q,L,hK⟩:=lex_of hdr htk hz hp
 refine wpIn_region_draw fun t => ?_
 simp only [Region.schedule,hm,Bool.true_or,if_true]
 have hno:∀ i,Dl (Array.replicate ops.size false) i=false:=by
  intro i
  simp only [Dl,zZ,Array.getElem?_replicate]
  split <;> rfl
 have hS0:=L.h0.2.1
 refine any_ok hE L (dstsOk_get hd) hK _ t _ ts S c a { w with drawn:=w.drawn+1 } (by simp) (fun j o ho hj=>absurd ((hno j).symm.trans hj) (by simp)) ?_ ⟨fun i hi=>absurd ((hno i).symm.trans hi) (by simp), ?_, ?_, ?_, ?_, ?_, ?_, ?_, ?_⟩
 ·exact Nat.le_trans (List.length_filter_le _ _) (by simp)
 ·exact ⟨sim.le,sim.hC,sim.b0,sim.st.drew,sim.ts,sim.ds,sim.size⟩
 ·intro d;exact (zCv fun i _ _=>hno i).symm
 ·intro p;exact (zCv fun i _ _=>hno i).symm
 ·have:=(L.len_le (i:=0) (j:=m) (by omega) (by omega)).1
  rw [hS0] at this;exact this
 ·have:=(L.len_le (i:=0) (j:=m) (by omega) (by omega)).2
  rw [hS0] at this;exact this
 ·intro k h1 h2
  rcases h1 with h1 | ⟨i,_,g,_⟩
  ·exact h1
  ·rw [hno] at g;cases g
 ·intro i hi _ B mk hr
  cases hx:c.μ (q i).S.heap.length with
  | none=>rfl
  | some n =>
   have h1:=(sim.st.dom _ _ hx).1
   have h2:=(L.len_le (i:=0) (j:=i) (by omega) (by omega)).1
   rw [hS0] at h2;omega
 ·intro i hi _ k mk hr
  cases hx:c.τ (q i).S.nt with
  | none=>rfl
  | some n =>
   have h1:=(sim.st.tdom _ _ hx).1
   have h2:=(L.len_le (i:=0) (j:=i) (by omega) (by omega)).2
   rw [hS0] at h2;omega
theorem AC.run {E:Env} (hE:E.Ok) (hmix:E.P.follows .mixedOrders=true) {f:FuncId} {fn:Func} {ks:Nat→List Nat} {dm:Nat→Nat × List Bool} {mc:MC} (hf:E.P.funcs[f]? = some fn) (hm:fn.body.bind (toMC E.N ks dm)=some mc) (hN:fn.ntmps=E.N) {args:List AV} {S:St} {R:AEnd→St→Prop}
  (hbase:E.base=S.heap.length) (hbt:E.bt=S.nt) (hargs:args.length≤E.N)
  (h:WC E mc (bodyQ E fn.results.toList R) (argTS 0 args) S) (hR:E.R=none:=by rfl) (hC:∀ c,E.C c:=by intro _;trivial):AC E.P f args S R:=
 AC.of hE hf hm hN hbase hbt hargs (fun E' hE' hP=>draw_ok hE' (hP ▸ hmix)) h hR hC
end Go.Av
end

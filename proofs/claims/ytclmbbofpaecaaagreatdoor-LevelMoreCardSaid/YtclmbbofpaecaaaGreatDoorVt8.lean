/- Part 8 of the proof. -/
import Derived.Test.YtclmbbofpaecaaaGreatDoorVt7
import Derived.Orders
set_option linter.all false
set_option linter.unusedVariables false
set_option linter.unusedSimpArgs false
set_option linter.unusedSectionVars false
open Array renaming getD_eq_getD_getElem? → qA, getElem?_eq_getElem → qC, getElem?_eq_none → qO
open Bool renaming and_eq_true → zU, not_true → zX
open List renaming getElem?_eq_getElem → zF, getD_eq_getElem?_getD → zI, getElem?_eq_none → zO, mem_cons_self → zP, mem_cons_of_mem → zR, length_nil → qB, getElem?_set → yA, getElem?_replicate → yB, mem_cons → yD
open Nat renaming le_refl → zN, lt_or_ge → zV, zero_le → qH, lt_of_lt_of_le → qM, zero_add → yK, le_trans → yW
open Option renaming getD_some → qE, bind_some → qU
open Option.some renaming injEq → yX
section
namespace Go.Av
open Go
section
variable {α:Type}
def lastW (key:Nat→Option Nat) (val:Nat→α) (D:Nat→Bool) (k:Nat) (init:Option α):Nat→Option α
  | 0=>init
  | n+1=>if D n=true∧key n=some k then some (val n) else lastW key val D k init n
variable {key:Nat→Option Nat} {val:Nat→α} {D D':Nat→Bool} {k:Nat} {init:Option α}
theorem zBa:∀ {n:Nat},(∀ i,i<n→key i=some k→D i=D' i)→lastW key val D k init n=lastW key val D' k init n
  | 0,_=>rfl
  | n+1,h=>by
    simp only [lastW]
    rw [zBa (n:=n) fun i hi hk=>h i (by omega) hk]
    by_cases hk:key n=some k
    · rw [h n (by omega) hk]
    · simp only [hk,and_false]
theorem zCt:∀ {n:Nat},(∀ i,i<n→key i=some k→D i=false)→lastW key val D k init n=init
  | 0,_=>rfl
  | n+1,h=>by
    simp only [lastW]
    rw [if_neg (fun hh=>by rw [h n (by omega) hh.2] at hh;exact Bool.false_ne_true hh.1),zCt (n:=n) fun i hi hk=>h i (by omega) hk]
theorem lastW_at {j:Nat} (hD:D j=true) (hk:key j=some k):∀ {n:Nat},j<n→(∀ i,j<i→i<n→key i=some k→D i=false)→lastW key val D k init n=some (val j)
  | 0,hn,_=>by omega
  | n + 1,hn,h=>by
    simp only [lastW]
    by_cases e:j=n
    · subst e;rw [if_pos ⟨hD,hk⟩]
    · rw [if_neg (fun hh=>by rw [h n (by omega) (by omega) hh.2] at hh;exact Bool.false_ne_true hh.1)]
      exact lastW_at hD hk (by omega) fun i h1 h2 h3=>h i h1 (by omega) h3
theorem zEo:∀ {n m:Nat},n≤m→lastW key val (fun i=>decide (i<n)) k init m=lastW key val (fun _=>true) k init n
  | n, 0, h => by have:n=0:=by omega
                  subst this;rfl
  | n,m+1,h=>by
    by_cases e:n=m+1
    · subst e
      exact zBa fun i hi _=>by simpa using hi
    · simp only [lastW]
      rw [if_neg (by simp;omega)]
      exact zEo (by omega)
end
def addD (D:Nat→Bool) (j:Nat):Nat→Bool:=fun i=>if i=j then true else D i
theorem before_list (l:List Oper):∀ (acc:Array Nat) (j:Nat),j<acc.size →
    (l.foldl (fun acc o=>acc.push (o.after.foldl (fun s e=>if Region.binds .any e then s ||| 2 ^ e.on ||| acc.getD e.on 0 else s) 0)) acc).getD j 0=acc.getD j 0:=by
  induction l with
  | nil=>intro acc j _;rfl
  | cons o l ih =>
    intro acc j hj
    rw [List.foldl_cons,ih _ j (by simp;omega)]
    simp only [qA,Array.getElem?_push,if_neg (show ¬ j=acc.size by omega)]
theorem before_size (l:List Oper):∀ (acc:Array Nat),
    (l.foldl (fun acc o=>acc.push (o.after.foldl (fun s e=>if Region.binds .any e then s ||| 2 ^ e.on ||| acc.getD e.on 0 else s) 0)) acc).size=acc.size+l.length:=by
  induction l with
  | nil=>intro acc;rfl
  | cons o l ih=>intro acc;rw [List.foldl_cons,ih];simp;omega
theorem after_bit (acc:Array Nat) (i:Nat):∀ (l:List Edge) (s:Nat),(l.foldl (fun s e=>if Region.binds .any e then s ||| 2 ^ e.on ||| acc.getD e.on 0 else s) s).testBit i=true →
    s.testBit i=true ∨ ∃ e∈l,Region.binds .any e=true∧(i=e.on∨(acc.getD e.on 0).testBit i=true)
  | [],s,h=>.inl h
  | e :: l,s,h=>by
    rw [List.foldl_cons] at h
    rcases after_bit acc i l _ h with h | ⟨e',h1,h2⟩
    · split at h
      · rename_i hb
        simp only [Nat.testBit_or,Nat.testBit_two_pow,Bool.or_eq_true,decide_eq_true_eq] at h
        rcases h with (h | h) | h
        · exact .inl h
        · exact .inr ⟨e,zP,hb,.inl h.symm⟩
        · exact .inr ⟨e,zP,hb,.inr h⟩
      · exact .inl h
    · exact .inr ⟨e',zR _ h1,h2⟩
theorem reach_edge {ops:Array Oper} {i j:Nat} {o:Oper} (hj:ops[j]? = some o) (he:∀ e∈o.after.toList,Region.binds .any e=true→e.on<j) (h:reach ops i j=true) :
    ∃ e∈o.after.toList,Region.binds .any e=true∧(i=e.on∨reach ops i e.on=true):=by
  unfold reach at h ⊢
  unfold Region.before at h ⊢
  rw [← Array.foldl_toList] at h ⊢
  have hlt:j<ops.toList.length:=by
    rcases zV j ops.toList.length with h' | h'
    · exact h'
    · rw [qO (by simpa using h')] at hj;cases hj
  have hsplit:ops.toList=ops.toList.take j ++ o :: ops.toList.drop (j+1):=by
    conv=>lhs;rw [← List.take_append_drop j ops.toList]
    congr 1
    rw [List.drop_eq_getElem_cons hlt]
    congr 1
    have:ops.toList[j]? = some o:=by simpa using hj
    rw [zF hlt] at this
    exact Option.some.inj this
  generalize hacc:(ops.toList.take j).foldl (fun acc o=>acc.push (o.after.foldl (fun s e=>if Region.binds .any e then s ||| 2 ^ e.on ||| acc.getD e.on 0 else s) 0)) #[]=acc at *
  have hsz:acc.size=j:=by rw [← hacc,before_size];simp only [List.length_take,List.size_toArray,qB];omega
  rw [hsplit,List.foldl_append,hacc,List.foldl_cons] at h
  rw [before_list _ _ j (by simp;omega)] at h
  simp only [qA,Array.getElem?_push,hsz,if_true,qE] at h
  rw [← Array.foldl_toList] at h
  have h':=after_bit acc i o.after.toList 0 (by simpa only [qA] using h)
  rcases h' with h' | ⟨e,h1,h2,h3⟩
  · simp at h'
  · refine ⟨e,h1,h2, ?_⟩
    rcases h3 with h3 | h3
    · exact .inl h3
    · refine .inr ?_
      rw [hsplit,List.foldl_append,hacc,List.foldl_cons,before_list _ _ _ (by have:=he e h1 h2;simp;omega)]
      simp only [qA,Array.getElem?_push,if_neg (show ¬ e.on=acc.size by have:=he e h1 h2;omega)]
      simpa only [qA] using h3
theorem zCu {ops:Array Oper} {D:Nat→Bool} (he:∀ (j:Nat) (o:Oper),ops[j]? = some o → ∀ e∈o.after.toList,Region.binds .any e=true→e.on<j)
    (hD:∀ (j:Nat) (o:Oper),ops[j]? = some o→D j=true → ∀ e∈o.after.toList,Region.binds .any e=true→D e.on=true) :
    ∀ (j i:Nat) (o:Oper),ops[j]? = some o→(∀ e∈o.after.toList,Region.binds .any e=true→D e.on=true)→reach ops i j=true→D i=true:=by
  intro j
  induction j using Nat.strongRecOn with
  | _ j ih =>
    intro i o hj hr h
    obtain ⟨e,h1,h2,h3⟩:=reach_edge hj (he j o hj) h
    have hlt:=he j o hj e h1 h2
    rcases h3 with rfl | h3
    · exact hr e h1 h2
    · have hjl:j<ops.size:=by
        rcases zV j ops.size with h' | h'
        · exact h'
        · rw [qO h'] at hj;cases hj
      have ho:ops[e.on]? = some ops[e.on]:=qC (by omega)
      exact ih e.on hlt i _ ho (hD e.on _ ho (hr e h1 h2)) h3
def hp (S:St) (p:Nat):Option Blk:=(S.heap[p]?).join
theorem hp_some {S:St} {p:Nat} {B:Blk}:hp S p=some B↔S.heap[p]? = some (some B):=by
  unfold hp
  cases h:S.heap[p]? with
  | none=>simp
  | some x=>cases x <;> simp
theorem hp_put (S:St) (i:Nat) (B:Blk) (p:Nat):hp (S.put i B) p=if i=p then some B else hp S p:=by
  unfold hp
  simp only [St.put,yA]
  by_cases e:i=p
  · subst e
    have:i<(S.heap ++ List.replicate (i+1 - S.heap.length) none).length:=by simp;omega
    simp only [this,if_true,Option.join_some]
  · simp only [if_neg e,List.getElem?_append]
    split
    · rfl
    · rename_i hl
      rw [yB]
      split
      · rw [zO (by omega)];rfl
      · rw [zO (by omega)]
theorem len_put (S:St) (i:Nat) (B:Blk):(S.put i B).heap.length=max S.heap.length (i+1):=by
  simp [St.put];omega
def wk (S:St):Res→Option Nat
  | .alloc _ _=>some S.heap.length
  | .write i _ _=>some i
  | _=>none
def wv:Res→Blk
  | .alloc B _=>B
  | .write _ B _=>B
  | _=>.cells []
def ck (S:St):Res→Option Nat
  | .tok _ _=>some S.nt
  | _=>none
def kk:Res→Option Nat
  | .tok k _=>k
  | _=>none
theorem hp_app (S:St) (r:Res) (p:Nat):hp (r.app S).2 p=if wk S r=some p then some (wv r) else hp S p:=by
  cases r with
  | pure v=>simp [Res.app,wk]
  | alloc B mk =>
    simp only [Res.app,wk,wv,yX]
    rw [← put_len,hp_put]
  | tok k mk=>simp [Res.app,wk,hp]
  | write i B v=>simp only [Res.app,wk,wv,yX,hp_put]
theorem len_app (S:St) (r:Res):S.heap.length≤(r.app S).2.heap.length∧(∀ p,wk S r=some p→p<(r.app S).2.heap.length):=by
  cases r with
  | pure v=>simp [Res.app,wk]
  | alloc B mk=>simp [Res.app,wk]
  | tok k mk=>simp [Res.app,wk]
  | write i B v=>simp only [Res.app,wk,len_put];exact ⟨by omega,fun p hp=>by cases hp;omega⟩
theorem nt_app (S:St) (r:Res):S.nt≤(r.app S).2.nt∧(∀ p,ck S r=some p→p<(r.app S).2.nt):=by
  cases r <;> simp [Res.app,ck,St.put]
theorem toks_app (S:St) (r:Res) (k:Nat) (h:k∈(r.app S).2.toks):(k∈S.toks∨ck S r=some k)∧(kk r=some k→ck S r=some k):=by
  cases r with
  | pure v=>exact ⟨.inl h,by simp [kk]⟩
  | alloc B mk=>exact ⟨.inl h,by simp [kk]⟩
  | write i B v=>exact ⟨.inl h,by simp [kk]⟩
  | tok kill mk =>
    simp only [Res.app,yD] at h
    simp only [ck,kk]
    rcases h with rfl | h
    · exact ⟨.inr rfl,fun _=>rfl⟩
    · refine ⟨.inl (zEe _ h),fun e => ?_⟩
      subst e
      simp [killTok] at h
structure StepOk (E:Env) (Z:List Nat) (ops:Array Oper) (free:Bool) (b:St) (o:Oper) (ts:TS) (S:St) (r:Res):Prop where
  dst:dstOk E.N o.dst=true
  how : (wantedA ops ts o=some false∧r=.pure .undef) ∨
    (wantedA ops ts o=some true∧r.ok S ∧
      ((free=true∧r.calm=true ∧ ∃ F,(∀ (p:Nat) (B:Blk),F.heap[p]? = some (some B)→p∈Z∧S.heap[p]? = some (some B))∧astepO E.T F ts o.op=some r) ∨
       (free=false∧isW o.op=true∧astepO E.T S ts o.op=some r∧(∀ i B v,r=.write i B v→i ∉ Z)) ∨
       (free=false∧isW o.op=false∧r.quiet=true∧(astepO E.T b ts o.op=some r ∨
          ∃ c f args args',o.op=.call c∧astepO E.T b ts o.op=none∧callee E ts c=some (f,args)∧Callable E.P f∧SubL args args'∧PC E.P f args' r∧r.noKill=true))))
def nextB (free:Bool) (o:Oper) (w:Option Bool) (b S':St):St:=if w=some true∧free=false∧isW o.op=true then S' else b
structure Tr where
  ts:TS
  S:St
  b:St
  r:Res
def Run (E:Env) (Z:List Nat) (ops:Array Oper) (K:TS→St→Prop) (hs:List Bool) (n k:Nat) (b:St) (ts:TS) (S:St):Prop:=
  ∃ q : Nat→Tr,(q k).ts=ts∧(q k).S=S∧(q k).b=b∧K (q (k+n)).ts (q (k+n)).S ∧
      ∀ j,k≤j→j<k+n → ∃ o,ops[j]? = some o∧StepOk E Z ops (hs.getD j false) (q j).b o (q j).ts (q j).S (q j).r ∧
        (q (j+1)).ts=setT (q j).ts o.dst ((q j).r.app (q j).S).1∧(q (j+1)).S=((q j).r.app (q j).S).2 ∧
        (q (j+1)).b=nextB (hs.getD j false) o (wantedA ops (q j).ts o) (q j).b (q (j+1)).S
theorem run_of {E:Env} {Z:List Nat} {ops:Array Oper} {K:TS→St→Prop} (hs:List Bool):∀ (n k:Nat) (l:List Oper) (b:St) (ts:TS) (S:St),l=ops.toList.drop k→QPreZ E Z ops K n l (hs.drop k) b ts S→Run E Z ops K hs n k b ts S:=by
  intro n
  induction n with
  | zero =>
    intro k l b ts S hl h
    exact ⟨fun _=>⟨ts,S,b,.pure .undef⟩,rfl,rfl,rfl,h,fun j h1 h2=>by omega⟩
  | succ n ih =>
    intro k l b ts S hl h
    cases l with
    | nil=>exact h.elim
    | cons o rest =>
      have ho:ops[k]? = some o:=by
        have:(ops.toList.drop k)[0]? = some o:=by rw [← hl];rfl
        simpa using this
      have hrest:rest=ops.toList.drop (k+1):=by
        have:(o :: rest).tail=(ops.toList.drop k).tail:=by rw [hl]
        simpa using this
      have hhd:(hs.drop k).headD false=hs.getD k false:=by
        rw [List.headD_eq_head?_getD,List.head?_drop,zI]
      have htl:(hs.drop k).tail=hs.drop (k+1):=by simp
      obtain ⟨hd,h⟩:=h
      have go:∀ (r:Res) (b':St),StepOk E Z ops (hs.getD k false) b o ts S r→b'=nextB (hs.getD k false) o (wantedA ops ts o) b (r.app S).2 →
          QPreZ E Z ops K n rest (hs.drop k).tail b' (setT ts o.dst (r.app S).1) (r.app S).2→Run E Z ops K hs (n+1) k b ts S:=by
        intro r b' hst hb' hq
        rw [htl] at hq
        obtain ⟨q,h1,h2,h3,h4,h5⟩:=ih (k+1) rest b' _ _ hrest hq
        refine ⟨fun j=>if j=k then ⟨ts,S,b,r⟩ else q j,by simp,by simp,by simp, ?_, ?_⟩
        · have:¬ (k+(n+1)=k):=by omega
          simp only [this,if_false]
          rw [show k+(n+1)=k+1+n by omega];exact h4
        · intro j hj1 hj2
          by_cases e:j=k
          · subst e
            refine ⟨o,ho,by simpa using hst, ?_⟩
            have:¬ (j+1=j):=by omega
            simp only [this,if_false,if_true,h1,h2,h3]
            exact ⟨trivial,trivial,hb'⟩
          · have e':¬ (j+1=k):=by omega
            simp only [e,e',if_false]
            exact h5 j (by omega) (by omega)
      split at h
      · rename_i hw
        exact go (.pure .undef) b ⟨hd,.inl ⟨hw,rfl⟩⟩ (by simp [nextB,hw]) h
      · rename_i hw
        rw [hhd] at h
        unfold QOpZ at h
        split at h
        · rename_i hf
          obtain ⟨F,r,hF,hr,hc,h⟩:=h
          have:(r.app S).2=S:=by cases r <;> simp [Res.calm] at hc;rfl
          refine go r b ⟨hd,.inr ⟨hw, ?_,.inl ⟨hf,hc,F,hF,hr⟩⟩⟩ (by unfold nextB;rw [if_neg (by rw [hf];simp)]) (by rw [this];exact h)
          cases r <;> simp [Res.calm] at hc;trivial
        · rename_i hf
          have hf':hs.getD k false=false:=by simpa using hf
          split at h
          · rename_i hW
            split at h
            · rename_i r hr
              obtain ⟨hk,hav,h⟩:=h
              exact go r _ ⟨hd,.inr ⟨hw,hk,.inr (.inl ⟨hf',hW,hr,hav⟩)⟩⟩ (by unfold nextB;rw [if_pos ⟨hw,hf',hW⟩]) h
            · exact h.elim
          · rename_i hW
            have hW':isW o.op=false:=by simpa using hW
            split at h
            · rename_i r hr
              obtain ⟨hq,hk,h⟩:=h
              exact go r b ⟨hd,.inr ⟨hw,hk,.inr (.inr ⟨hf',hW',hq,.inl hr⟩)⟩⟩ (by simp [nextB,hW']) h
            · rename_i hn
              split at h
              · rename_i c hop
                split at h
                · rename_i f args hcl
                  obtain ⟨a1,args',r,a2,a3,a4,a5,h⟩:=h
                  refine go r b ⟨hd,.inr ⟨hw, ?_,.inr (.inr ⟨hf',hW',a4,.inr ⟨c,f,args,args',hop,hn,hcl,a1,a2,a3,a5⟩⟩)⟩⟩ (by simp [nextB,hW']) h
                  cases r with
                  | tok k mk=>cases k with
                    | none=>trivial
                    | some k=>simp [Res.noKill] at a5
                  | _=>trivial
                · exact h.elim
              · exact h.elim
      · exact h.elim
theorem StRel.same {c:Cx} {S S':St} {w:World} (h:StRel c S w) (hb:∀ (p:Nat) (B:Blk),S'.heap[p]? = some (some B)→S.heap[p]? = some (some B)) (hl:S.heap.length≤S'.heap.length) (hn:S.nt≤S'.nt) (ht:∀ k∈S'.toks,k∈S.toks):StRel c S' w where
  sz:=h.sz
  tab:=h.tab
  tsh:=h.tsh
  fr:=h.fr
  K:=h.K
  X:=h.X
  XO:=h.XO
  F:=h.F
  dom i n e:=⟨qM (h.dom i n e).1 hl,(h.dom i n e).2⟩
  tdom k x e:=⟨qM (h.tdom k x e).1 hn,(h.tdom k x e).2⟩
  blk i B x:=h.blk i B (hb i B x)
  inj i j Bi Bj n x x' e e':=h.inj i j Bi Bj n (hb _ _ x) (hb _ _ x') e e'
  tok k hk:=h.tok k (ht k hk)
  tinj k k' b lo hi lo' hi' hk hk':=h.tinj k k' b lo hi lo' hi' (ht k hk) (ht k' hk')
  tblk k i b lo hi B hk x:=h.tblk k i b lo hi B (ht k hk) (hb _ _ x)
  tfr k b lo hi hk:=h.tfr k b lo hi (ht k hk)
theorem wantedA_same {ops:Array Oper} {ts ts':TS} {o:Oper} (h:SameAt (seenBy ops o) ts ts'):wantedA ops ts o=wantedA ops ts' o:=by
  unfold wantedA
  split
  · rfl
  · rename_i j b hg
    unfold yieldedA
    cases hd:(ops[j]?).bind (·.dst) with
    | none=>rfl
    | some t =>
      simp only [qU]
      rw [h t (by unfold seenBy;rw [hg];simp [hd])]
theorem SameAt.ops {ops:Array Oper} {ts ts':TS} {o:Oper} (h:SameAt (seenBy ops o) ts ts'):SameAt (tmpsOf o.op.operands.toList) ts ts':=
  fun t ht=>h t (by unfold seenBy;exact List.mem_append_left _ ht)
structure Lex (E:Env) (Z:List Nat) (ops:Array Oper) (hs:List Bool) (m:Nat) (ts0:TS) (S0:St) (q:Nat→Tr):Prop where
  d1:m≤ops.size
  d2:∀ (j:Nat) (o:Oper),ops[j]? = some o → ∀ e∈o.after.toList,Region.binds .any e=true→e.on<j
  d3:∀ (i j:Nat) (oi oj:Oper),ops[i]? = some oi→ops[j]? = some oj→i≠j → ∀ d,oi.dst=some d→(oj.dst=some d∨d∈seenBy ops oj)→reach ops (min i j) (max i j)=true
  d4:∀ j,m≤j→j<ops.size → ∀ i,i<j→reach ops i j=true
  d5:∀ (i:Nat) (oi:Oper),ops[i]? = some oi→isW oi.op=true→i<m → ∀ j,j<m→hs.getD j false=false→j≠i→reach ops (min j i) (max j i)=true
  h0:(q 0).ts=ts0∧(q 0).S=S0∧(q 0).b=S0
  tk0:∀ k∈S0.toks,k<S0.nt
  z0:∀ p∈Z,p<S0.heap.length
  hq:∀ j,j<m → ∃ o,ops[j]? = some o∧StepOk E Z ops (hs.getD j false) (q j).b o (q j).ts (q j).S (q j).r ∧
        (q (j+1)).ts=setT (q j).ts o.dst ((q j).r.app (q j).S).1∧(q (j+1)).S=((q j).r.app (q j).S).2 ∧
        (q (j+1)).b=nextB (hs.getD j false) o (wantedA ops (q j).ts o) (q j).b (q (j+1)).S
theorem lex_of {E:Env} {Z:List Nat} {ops:Array Oper} {hs:List Bool} {m:Nat} (h:drawOk ops hs m=true) {K:TS→St→Prop} {ts0:TS} {S0:St} (ht:∀ k∈S0.toks,k<S0.nt) (hz:∀ p∈Z,p<S0.heap.length) (hp:QPreZ E Z ops K m ops.toList hs S0 ts0 S0):∃ q,Lex E Z ops hs m ts0 S0 q∧K (q m).ts (q m).S:=by
  obtain ⟨q,q1,q2,q3,q4,q5⟩:=run_of (ops:=ops) hs m 0 ops.toList S0 ts0 S0 (by simp) (by simpa using hp)
  rw [yK] at q4
  unfold drawOk at h
  simp only [zU,decide_eq_true_eq] at h
  obtain ⟨⟨⟨⟨a1,a2⟩,a3⟩,a4⟩,a5⟩:=h
  have zi:∀ (j:Nat) (o:Oper),ops[j]? = some o→(o,j)∈ops.toList.zipIdx:=by
    intro j o ho
    rw [List.mem_zipIdx_iff_getElem?]
    simpa using ho
  refine ⟨q,⟨a1, ?_, ?_, ?_, ?_,⟨q1,q2,q3⟩,ht,hz,fun j hj=>q5 j (qH _) (by omega)⟩,q4⟩
  · intro j o ho e he hb
    have:=List.all_eq_true.1 (List.all_eq_true.1 a2 _ (zi j o ho)) e he
    simpa [hb] using this
  · intro i j oi oj hi hj hne d hd hx
    have:=List.all_eq_true.1 (List.all_eq_true.1 a3 _ (zi j oj hj)) _ (zi i oi hi)
    simp only [hd,Bool.or_eq_true,Bool.not_eq_true',decide_eq_true_eq] at this
    have h2:((oj.dst == some d) || (seenBy ops oj).contains d)=true:=by
      rcases hx with hx | hx
      · simp [hx]
      · simp [hx]
    rcases this with h3 | h3 | h3
    · exact absurd h3.symm hne
    · rw [h2] at h3;cases h3
    · rw [Nat.min_comm,Nat.max_comm];exact h3
  · intro j h1 h2 i hi
    have:=List.all_eq_true.1 a4 j (List.mem_range.2 h2)
    simp only [Bool.or_eq_true,decide_eq_true_eq] at this
    rcases this with h3 | h3
    · omega
    · exact List.all_eq_true.1 h3 i (List.mem_range.2 hi)
  · intro i oi hi hW him j hj hf hne
    have:=List.all_eq_true.1 a5 _ (zi i oi hi)
    simp only [hW,zX,Bool.false_or,Bool.or_eq_true,decide_eq_true_eq] at this
    rcases this with h3 | h3
    · omega
    · have:=List.all_eq_true.1 h3 j (List.mem_range.2 hj)
      simp only [hf,Bool.false_or,Bool.or_eq_true,decide_eq_true_eq] at this
      rcases this with h4 | h4
      · exact absurd h4 hne
      · exact h4
def tkey (ops:Array Oper) (j:Nat):Option Nat:=(ops[j]?).bind (·.dst)
def tval (q:Nat→Tr) (j:Nat):AV:=((q j).r.app (q j).S).1
def bkey (q:Nat→Tr) (j:Nat):Option Nat:=wk (q j).S (q j).r
def bval (q:Nat→Tr) (j:Nat):Blk:=wv (q j).r
def ckey (q:Nat→Tr) (j:Nat):Option Nat:=ck (q j).S (q j).r
def kkey (q:Nat→Tr) (j:Nat):Option Nat:=kk (q j).r
section
variable {E:Env} {Z:List Nat} {ops:Array Oper} {hs:List Bool} {m:Nat} {ts0:TS} {S0:St} {q:Nat→Tr} (L:Lex E Z ops hs m ts0 S0 q)
include L
theorem Lex.ts_at:∀ {j:Nat},j≤m → ∀ d,(q j).ts.get d=lastW (tkey ops) (tval q) (fun _=>true) d (ts0.get d) j
  | 0,_,d=>by rw [L.h0.1];rfl
  | j + 1,h,d=>by
    obtain ⟨o,h1,h2,h3,h4,h5⟩:=L.hq j (by omega)
    rw [h3]
    simp only [lastW,tkey,h1,qU,true_and]
    cases hd:o.dst with
    | none=>simp only [setT,reduceCtorEq,if_false];exact Lex.ts_at (by omega) d
    | some t =>
      simp only [setT,TS.get_set,yX]
      split
      · rfl
      · exact Lex.ts_at (by omega) d
theorem Lex.hp_at:∀ {j:Nat},j≤m → ∀ p,hp (q j).S p=lastW (bkey q) (bval q) (fun _=>true) p (hp S0 p) j
  | 0,_,p=>by rw [L.h0.2.1];rfl
  | j+1,h,p=>by
    obtain ⟨o,h1,h2,h3,h4,h5⟩:=L.hq j (by omega)
    rw [h4,hp_app]
    simp only [lastW,bkey,true_and]
    split
    · rfl
    · exact Lex.hp_at (by omega) p
theorem Lex.len_le : ∀ {i j:Nat},i≤j→j≤m→(q i).S.heap.length≤(q j).S.heap.length∧(q i).S.nt≤(q j).S.nt
  | i, 0, h, _ => by have:i=0:=by omega
                     subst this;exact ⟨zN _,zN _⟩
  | i,j+1,h,hj=>by
    by_cases e:i=j+1
    · subst e;exact ⟨zN _,zN _⟩
    · obtain ⟨o,h1,h2,h3,h4,h5⟩:=L.hq j (by omega)
      have ih:=Lex.len_le (i:=i) (j:=j) (by omega) (by omega)
      rw [h4]
      exact ⟨yW ih.1 (len_app _ _).1,yW ih.2 (nt_app _ _).1⟩
theorem Lex.bkey_lt {j p:Nat} (hj:j<m) (h:bkey q j=some p):p<(q (j+1)).S.heap.length:=by
  obtain ⟨o,h1,h2,h3,h4,h5⟩:=L.hq j hj
  rw [h4];exact (len_app _ _).2 p h
theorem Lex.ckey_lt {j p:Nat} (hj:j<m) (h:ckey q j=some p):p<(q (j+1)).S.nt:=by
  obtain ⟨o,h1,h2,h3,h4,h5⟩:=L.hq j hj
  rw [h4];exact (nt_app _ _).2 p h
theorem Lex.tok_lt:∀ {j:Nat},j≤m → ∀ k∈(q j).S.toks,k<(q j).S.nt∧(k∈S0.toks ∨ ∃ i,i<j∧ckey q i=some k)
  | 0,_,k,hk=>by rw [L.h0.2.1] at hk ⊢;exact ⟨L.tk0 k hk,.inl hk⟩
  | j + 1,h,k,hk=>by
    obtain ⟨o,h1,h2,h3,h4,h5⟩:=L.hq j (by omega)
    rw [h4] at hk
    rcases (toks_app _ _ _ hk).1 with h6 | h6
    · have ih:=Lex.tok_lt (j:=j) (by omega) k h6
      refine ⟨by rw [h4];exact qM ih.1 (nt_app _ _).1, ?_⟩
      rcases ih.2 with h7 | ⟨i,h7,h8⟩
      · exact .inl h7
      · exact .inr ⟨i,by omega,h8⟩
    · exact ⟨by rw [h4];exact (nt_app _ _).2 k h6,.inr ⟨j,by omega,h6⟩⟩
theorem Lex.kill_ok {j k:Nat} (hj:j<m) (h:kkey q j=some k):k∈(q j).S.toks:=by
  obtain ⟨o,h1,h2,h3,h4,h5⟩:=L.hq j hj
  unfold kkey kk at h
  rcases h2.how with ⟨_,hr⟩ | ⟨_,hok,_⟩
  · rw [hr] at h;cases h
  · split at h
    · rename_i kl mk hr
      subst h
      rw [hr] at hok
      exact hok
    · cases h
theorem Lex.killed {i k:Nat} (h:kkey q i=some k):∀ {j:Nat},i<j→j≤m→k ∉ (q j).S.toks
  | 0,h1,_=>by omega
  | j + 1,h1,h2=>by
    intro hk
    have hki:=(L.tok_lt (j:=i) (by omega) k (L.kill_ok (by omega) h)).1
    have hle:=(L.len_le (i:=i) (j:=j) (by omega) (by omega)).2
    obtain ⟨o,g1,g2,g3,g4,g5⟩:=L.hq j (by omega)
    rw [g4] at hk
    have ht:=toks_app _ _ _ hk
    have hno:ck (q j).S (q j).r≠some k:=by
      intro hc
      cases hr:(q j).r <;> rw [hr] at hc <;> simp [ck] at hc
      omega
    by_cases e:i=j
    · subst e;exact hno (ht.2 h)
    · rcases ht.1 with h6 | h6
      · exact Lex.killed h (by omega) (by omega) h6
      · exact hno h6
theorem Lex.unfree {j p:Nat} (hj:j<m) (h:bkey q j=some p):hs.getD j false=false∧((∃ B mk,(q j).r=.alloc B mk∧p=(q j).S.heap.length) ∨ ∃ o,ops[j]? = some o∧isW o.op=true):=by
  obtain ⟨o,h1,h2,h3,h4,h5⟩:=L.hq j hj
  unfold bkey at h
  rcases h2.how with ⟨_,hr⟩ | ⟨hw,hok,hh | hh | hh⟩
  · rw [hr] at h;cases h
  · obtain ⟨g1,g2,g3⟩:=hh
    cases hr:(q j).r <;> rw [hr] at h g2 <;> simp [wk,Res.calm] at h g2
  · exact ⟨hh.1,.inr ⟨o,h1,hh.2.1⟩⟩
  · refine ⟨hh.1,.inl ?_⟩
    have hqu:=hh.2.2.1
    cases hr:(q j).r <;> rw [hr] at h hqu <;> simp [wk,Res.quiet] at h hqu
    exact ⟨_,_,rfl,h.symm⟩
theorem Lex.noZ {j p:Nat} (hj:j<m) (hp:p∈Z):bkey q j≠some p:=fun h=>by
  have hz:=L.z0 p hp
  rcases L.unfree hj h with ⟨hf,⟨B,mk,_,h2⟩ | ⟨o,h1,h2⟩⟩
  · have:=(L.len_le (i:=0) (j:=j) (by omega) (by omega)).1
    rw [L.h0.2.1] at this
    omega
  · obtain ⟨o',g1,g2,_⟩:=L.hq j hj
    rw [h1] at g1
    cases g1
    unfold bkey at h
    rcases g2.how with ⟨_,hr⟩ | ⟨hw,hok,hh | hh | hh⟩
    · rw [hr] at h;cases h
    · rw [hf] at hh;cases hh.1
    · have hav:=hh.2.2.2
      cases hr:(q j).r with
      | write i B v =>
        rw [hr] at h
        simp only [wk,yX] at h
        subst h
        exact hav _ B v hr hp
      | alloc B mk =>
        rw [hr] at h
        simp only [wk,yX] at h
        have:=(L.len_le (i:=0) (j:=j) (by omega) (by omega)).1
        rw [L.h0.2.1] at this
        omega
      | pure v=>rw [hr] at h;cases h
      | tok k mk=>rw [hr] at h;cases h
    · rw [h2] at hh;cases hh.2.1
theorem Lex.base:∀ {j:Nat},j≤m → ∃ b,b≤j∧(q j).b=(q b).S∧(b=0 ∨ ∃ o,ops[b - 1]? = some o∧isW o.op=true) ∧ ∀ i,b≤i→i<j→(q i).r.quiet=true
  | 0,_=>⟨0,zN _,by rw [L.h0.2.2,L.h0.2.1],.inl rfl,fun i h1 h2=>by omega⟩
  | j + 1,h=>by
    obtain ⟨b,b1,b2,b3,b4⟩:=Lex.base (j:=j) (by omega)
    obtain ⟨o,h1,h2,h3,h4,h5⟩:=L.hq j (by omega)
    unfold nextB at h5
    split at h5
    · rename_i hc
      exact ⟨j+1,zN _,h5,.inr ⟨o,by simpa using h1,hc.2.2⟩,fun i h1 h2=>by omega⟩
    · rename_i hc
      refine ⟨b,by omega,by rw [h5,b2],b3,fun i g1 g2 => ?_⟩
      by_cases e:i=j
      · subst e
        rcases h2.how with ⟨_,hr⟩ | ⟨hw,hok,hh | hh | hh⟩
        · rw [hr];rfl
        · have:=hh.2.1
          cases hr:(q i).r <;> rw [hr] at this <;> simp [Res.calm] at this
          rfl
        · exact absurd ⟨hw,hh.1,hh.2.1⟩ hc
        · exact hh.2.2.1
      · exact b4 i g1 (by omega)
end
structure Inv (E:Env) (ops:Array Oper) (m:Nat) (ts0:TS) (S0:St) (q:Nat→Tr) (c0:Cx) (ds:List Deferred) (D:Nat→Bool) (ts:TS) (S:St) (c:Cx) (a:Act) (w:World):Prop where
 dn:∀ i,D i=true→i<m
 sim:Sim E c0 c ds ts S a w
 tsD:∀ d,ts.get d=lastW (tkey ops) (tval q) D d (ts0.get d) m
 hpD:∀ p,hp S p=lastW (bkey q) (bval q) D p (hp S0 p) m
 len:S.heap.length≤(q m).S.heap.length
 nt:S.nt≤(q m).S.nt
 tok:∀ k,(k∈S0.toks ∨ ∃ i,i<m∧D i=true∧ckey q i=some k)→(∀ i,i<m→D i=true→kkey q i≠some k)→k∈S.toks
 mu:∀ i,i<m→D i=false → ∀ B mk,(q i).r=.alloc B mk→c.μ (q i).S.heap.length=none
 ta:∀ i,i<m→D i=false → ∀ k mk,(q i).r=.tok k mk→c.τ (q i).S.nt=none
structure Can (ops:Array Oper) (D:Nat→Bool) (j:Nat):Prop where
 no:D j=false
 pre:∀ i,reach ops i j=true→D i=true
 post:∀ i,reach ops j i=true→D i=false
 cl:∀ i i',D i'=true→reach ops i i'=true→D i=true
section
variable {E:Env} {Z:List Nat} {ops:Array Oper} {hs:List Bool} {m:Nat} {ts0:TS} {S0:St} {q:Nat→Tr} (L:Lex E Z ops hs m ts0 S0 q)
variable {c0:Cx} {ds:List Deferred} {D:Nat→Bool} {ts:TS} {S:St} {c:Cx} {a:Act} {w:World} (I:Inv E ops m ts0 S0 q c0 ds D ts S c a w) {j:Nat} (hj:j<m) (C:Can ops D j)
include L C hj
theorem Can.order {i:Nat} (h:reach ops (min i j) (max i j)=true) (hne:i≠j):D i=decide (i<j):=by
 by_cases e:i<j
 ·rw [Nat.min_eq_left (by omega),Nat.max_eq_right (by omega)] at h
  rw [C.pre i h,decide_eq_true e]
 ·rw [Nat.min_eq_right (by omega),Nat.max_eq_left (by omega)] at h
  rw [C.post i h,decide_eq_false e]
theorem bkey_later {p i:Nat} (h:bkey q j=some p) (hi:i<m) (h':bkey q i=some p) (hlt:j<i):D i=false:=by
 obtain ⟨f1,_⟩:=L.unfree hj h
 obtain ⟨f2,g2⟩:=L.unfree hi h'
 rcases g2 with ⟨B,mk,g2,g3⟩ | ⟨o,ho,hW⟩
 ·have h1:=L.bkey_lt hj h
  have h2:=(L.len_le (i:=j+1) (j:=i) (by omega) (by omega)).1
  omega
 ·have:=L.d5 i o ho hW hi j hj f1 (by omega)
  rw [Nat.min_eq_left (by omega),Nat.max_eq_right (by omega)] at this
  exact C.post i this
include I
theorem Inv.sameAt {o:Oper} (ho:ops[j]? = some o):SameAt (seenBy ops o) ts (q j).ts:=by
 intro t ht
 rw [I.tsD t,L.ts_at (by omega) t,← zEo (n:=j) (m:=m) (by omega)]
 refine zBa fun i hi hk => ?_
 by_cases e:i=j
 ·subst e;rw [C.no];simp
 ·have hil:i<ops.size:=qM hi L.d1
  have hoi:ops[i]? = some ops[i]:=qC hil
  have hdi:(ops[i]).dst=some t:=by simpa [tkey,hoi] using hk
  exact Can.order L hj C (L.d3 i j _ _ hoi ho e t hdi (.inr ht)) e
theorem Inv.adv {o:Oper} (ho:ops[j]? = some o) {c':Cx} {S':St} {w':World} {v:Value} (hdst:dstOk E.N o.dst=true) (hle:c.le c') (hst:StRel c' S' w') (hv:VRel c' (tval q j) v)
  (hhp:∀ p,hp S' p=if bkey q j=some p then some (bval q j) else hp S p) (hlen:S'.heap.length≤(q m).S.heap.length) (hnt:S'.nt≤(q m).S.nt)
  (htk:∀ k,ckey q j=some k∨(k∈S.toks∧kkey q j≠some k)→k∈S'.toks)
  (hmu:∀ i,bkey q j≠some i→c'.μ i=c.μ i) (hta:∀ k,ckey q j≠some k→c'.τ k=c.τ k) :
  Inv E ops m ts0 S0 q c0 ds (addD D j) (setT ts o.dst (tval q j)) S' c' (a.put o.dst v) w' where
 dn i h:=by
  simp only [addD] at h
  split at h
  ·omega
  ·exact I.dn i h
 sim:=I.sim.put hle hst hv hdst
 tsD d:=by
  have hstep:(setT ts o.dst (tval q j)).get d=if o.dst=some d then some (tval q j) else ts.get d:=by
   cases hd:o.dst with
   | none=>simp [setT]
   | some t=>simp only [setT,TS.get_set,yX]
  rw [hstep]
  by_cases e:o.dst=some d
  ·rw [if_pos e]
   refine (lastW_at (j:=j) (by simp [addD]) (by simp [tkey,ho,e]) hj fun i h1 h2 h3 => ?_).symm
   have hil:i<ops.size:=qM h2 L.d1
   have hoi:ops[i]? = some ops[i]:=qC hil
   have hdi:(ops[i]).dst=some d:=by simpa [tkey,hoi] using h3
   have:=L.d3 i j _ _ hoi ho (by omega) d hdi (.inl e)
   rw [Nat.min_eq_right (by omega),Nat.max_eq_left (by omega)] at this
   simp only [addD,if_neg (show ¬ i=j by omega)]
   exact C.post i this
  ·rw [if_neg e,I.tsD d]
   refine zBa fun i hi hk => ?_
   have:i≠j:=by
    intro e';subst e'
    simp [tkey,ho] at hk
    exact e hk
   simp only [addD,if_neg this]
 hpD p:=by
  rw [hhp]
  by_cases e:bkey q j=some p
  ·rw [if_pos e]
   refine (lastW_at (j:=j) (by simp [addD]) e hj fun i h1 h2 h3 => ?_).symm
   simp only [addD,if_neg (show ¬ i=j by omega)]
   exact bkey_later L hj C e h2 h3 h1
  ·rw [if_neg e,I.hpD p]
   refine zBa fun i hi hk => ?_
   have:i≠j:=by intro e';subst e';exact e hk
   simp only [addD,if_neg this]
 len:=hlen
 nt:=hnt
 tok k h1 h2:=by
  refine htk k ?_
  by_cases e:ckey q j=some k
  ·exact .inl e
  ·refine .inr ⟨I.tok k ?_ fun i hi hD=>h2 i hi (by simp only [addD];split;rfl;exact hD),h2 j hj (by simp [addD])⟩
   rcases h1 with h1 | ⟨i,g1,g2,g3⟩
   ·exact .inl h1
   ·have:i≠j:=by intro e';subst e';exact e g3
    simp only [addD,if_neg this] at g2
    exact .inr ⟨i,g1,g2,g3⟩
 mu i hi hD B mk hr:=by
  have hne:i≠j:=by intro e;subst e;simp [addD] at hD
  simp only [addD,if_neg hne] at hD
  rw [hmu,I.mu i hi hD B mk hr]
  intro hb
  have hbi:bkey q i=some (q i).S.heap.length:=by simp [bkey,hr,wk]
  rcases zV i j with h1 | h1
  ·obtain ⟨f1,g1⟩:=L.unfree hj hb
   rcases g1 with ⟨B',mk',g1,g2⟩ | ⟨o',ho',hW⟩
   ·have:=L.bkey_lt hi hbi
    have:=(L.len_le (i:=i+1) (j:=j) (by omega) (by omega)).1
    omega
   ·have:=L.d5 j o' ho' hW hj i hi (L.unfree hi hbi).1 (by omega)
    rw [Nat.min_eq_left (by omega),Nat.max_eq_right (by omega)] at this
    rw [C.pre i this] at hD;cases hD
  ·have:=L.bkey_lt hj hb
   have:=(L.len_le (i:=j+1) (j:=i) (by omega) (by omega)).1
   omega
 ta i hi hD k mk hr:=by
  have hne:i≠j:=by intro e;subst e;simp [addD] at hD
  simp only [addD,if_neg hne] at hD
  rw [hta,I.ta i hi hD k mk hr]
  intro hb
  have hci:ckey q i=some (q i).S.nt:=by simp [ckey,hr,ck]
  rcases zV i j with h1 | h1
  ·have h2:=L.ckey_lt hi hci
   have h3:=(L.len_le (i:=i+1) (j:=j) (by omega) (by omega)).2
   have h4:(q j).S.nt=(q i).S.nt:=by
    unfold ckey ck at hb
    split at hb
    ·simp only [yX] at hb;exact hb
    ·cases hb
   omega
  ·have h2:=L.ckey_lt hj hb
   have h3:=(L.len_le (i:=j+1) (j:=i) (by omega) (by omega)).2
   omega
theorem Inv.post {o:Oper} (ho:ops[j]? = some o) {w':World} {v:Value} (hdst:dstOk E.N o.dst=true) (hpo:Post c S (q j).r v w') :
  ∃ c' S',Inv E ops m ts0 S0 q c0 ds (addD D j) (setT ts o.dst (tval q j)) S' c' (a.put o.dst v) w':=by
 have hl1:=L.len_le (i:=j+1) (j:=m) (by omega) (by omega)
 cases hr:(q j).r with
 | pure x =>
  rw [hr] at hpo
  obtain ⟨c',h1,h2,h3,h4,h5⟩:=hpo
  exact ⟨c',S,I.adv L hj C ho hdst h1 h4 (by simpa [tval,hr,Res.app] using h5) (fun p=>by simp [bkey,hr,wk]) I.len I.nt (fun k hk=>by
   rcases hk with hk | hk
   ·simp [ckey,hr,ck] at hk
   ·exact hk.1) (fun i _=>by rw [h2]) (fun k _=>by rw [h3])⟩
 | alloc B mk =>
  rw [hr] at hpo
  have hb:bkey q j=some (q j).S.heap.length:=by simp [bkey,hr,wk]
  have hnone:hp S (q j).S.heap.length=none:=by
   rw [I.hpD,zCt]
   ·have:=(L.len_le (i:=0) (j:=j) (by omega) (by omega)).1
    rw [L.h0.2.1] at this
    unfold hp;rw [zO this];rfl
   ·intro i hi hk
    by_cases e:i=j
    ·subst e;exact C.no
    ·rcases zV i j with h1 | h1
     ·have:=L.bkey_lt hi hk
      have:=(L.len_le (i:=i+1) (j:=j) (by omega) (by omega)).1
      omega
     ·exact bkey_later L hj C hb hi hk (by omega)
  obtain ⟨c',h1,h2,h3,h4,h5⟩:=hpo _ (I.mu j hj C.no B mk hr) (fun B' e=>by
   have:=hp_some.2 e
   rw [hnone] at this;cases this)
  refine ⟨c',_,I.adv L hj C ho hdst h1 h4 (by simpa [tval,hr,Res.app] using h5) (fun p=>by simp only [hp_put,bkey,hr,wk,bval,wv,yX]) ?_ I.nt (fun k hk=>by
   rcases hk with hk | hk
   ·simp [ckey,hr,ck] at hk
   ·exact hk.1) (fun i hi=>h2 i (fun e=>hi (by rw [hb,e]))) (fun k _=>by rw [h3])⟩
  rw [len_put]
  have:=L.bkey_lt hj hb
  have:=I.len
  omega
 | tok kill mk =>
  rw [hr] at hpo
  have hc:ckey q j=some (q j).S.nt:=by simp [ckey,hr,ck]
  obtain ⟨c',h1,h2,h3,h4,h5⟩:=hpo _ (I.ta j hj C.no kill mk hr)
  refine ⟨c',_,I.adv L hj C ho hdst h1 h4 (by simpa [tval,hr,Res.app] using h5) (fun p=>by simp [bkey,hr,wk,Go.Av.hp]) I.len ?_ (fun k hk => ?_) (fun i _=>by rw [h2]) (fun k hk=>h3 k (fun e=>hk (by rw [hc,e])))⟩
  ·have:=L.ckey_lt hj hc
   have:=I.nt
   show max S.nt ((q j).S.nt+1)≤_
   omega
  ·rcases hk with hk | ⟨hk,hk2⟩
   ·rw [hc] at hk;cases hk;exact zP
   ·refine zR _ ?_
    cases kill with
    | none=>exact hk
    | some k0 =>
     simp only [killTok,List.mem_filter]
     refine ⟨hk, ?_⟩
     simp only [kkey,hr,kk,ne_eq,yX] at hk2
     simp only [bne_iff_ne,ne_eq]
     exact fun e=>hk2 e.symm
 | write i B x =>
  rw [hr] at hpo
  obtain ⟨c',h1,h2,h3,h4,h5⟩:=hpo
  have hb:bkey q j=some i:=by simp [bkey,hr,wk]
  refine ⟨c',_,I.adv L hj C ho hdst h1 h4 (by simpa [tval,hr,Res.app] using h5) (fun p=>by simp only [hp_put,bkey,hr,wk,bval,wv,yX]) ?_ I.nt (fun k hk=>by
   rcases hk with hk | hk
   ·simp [ckey,hr,ck] at hk
   ·exact hk.1) (fun i _=>by rw [h2]) (fun k _=>by rw [h3])⟩
  rw [len_put]
  have:=L.bkey_lt hj hb
  have:=I.len
  omega
theorem Inv.seesW {o:Oper} (ho:ops[j]? = some o) (hW:isW o.op=true):Sees (q j).S S:=by
 intro p B h
 rw [← hp_some] at h ⊢
 rw [← h,I.hpD p,L.hp_at (by omega) p,← zEo (n:=j) (m:=m) (by omega)]
 refine zBa fun i hi hk => ?_
 by_cases e:i=j
 ·subst e;rw [C.no];simp
 ·have:=L.d5 j o ho hW hj i hi (L.unfree hi hk).1 e
  exact Can.order L hj C this e
theorem Inv.seesZ {F:St} (hF:∀ (p:Nat) (B:Blk),F.heap[p]? = some (some B)→p∈Z∧(q j).S.heap[p]? = some (some B)):Sees F S:=by
 intro p B e
 obtain ⟨hz,hB⟩:=hF p B e
 rw [← hp_some] at hB ⊢
 rw [L.hp_at (by omega) p] at hB
 rw [I.hpD p,← hB]
 have a:∀ (D':Nat→Bool) (n:Nat),n≤m→lastW (bkey q) (bval q) D' p (hp S0 p) n=hp S0 p:=fun D' n hn=>by
  rw [zBa (D':=fun _=>false) (fun i hi hk=>absurd hk (L.noZ (by omega) hz))]
  exact zCt fun i _ _=>rfl
 rw [a _ _ (zN _),a _ _ (by omega)]
theorem Inv.seesB (hf:hs.getD j false=false):Sees (q j).b S:=by
 obtain ⟨b,b1,b2,b3,b4⟩:=L.base (j:=j) (by omega)
 rw [b2]
 intro p B h
 have hp:=hp_some.2 h
 rw [← hp_some,← hp,I.hpD p,L.hp_at (by omega) p,← zEo (n:=b) (m:=m) (by omega)]
 have hlt:p<(q b).S.heap.length:=by
  rcases zV p (q b).S.heap.length with h' | h'
  ·exact h'
  ·rw [zO h'] at h;cases h
 refine zBa fun i hi hk => ?_
 have hu:=L.unfree hi hk
 have hlate:b≤i→(∃ B mk,(q i).r=.alloc B mk∧p=(q i).S.heap.length)→False:=fun h1 ⟨B,mk',_,h2⟩=>by
  have:=(L.len_le (i:=b) (j:=i) h1 (by omega)).1
  omega
 rcases zV i b with h1 | h1
 ·rw [decide_eq_true h1]
  rcases b3 with b3 | ⟨o,b3,hW⟩
  ·omega
  ·have hbm:b - 1<m:=by omega
   have hDb:D (b - 1)=true:=by
    have:=L.d5 (b - 1) o b3 hW hbm j hj hf (by omega)
    rw [Nat.min_eq_right (by omega),Nat.max_eq_left (by omega)] at this
    exact C.pre _ this
   by_cases e:i=b - 1
   ·rw [e];exact hDb
   ·have:=L.d5 (b - 1) o b3 hW hbm i hi hu.1 e
    rw [Nat.min_eq_left (by omega),Nat.max_eq_right (by omega)] at this
    exact C.cl _ _ hDb this
 ·rw [decide_eq_false (by omega)]
  by_cases e:i=j
  ·subst e;exact C.no
  ·rcases hu.2 with hu2 | ⟨o,hoi,hW⟩
   ·exact (hlate h1 hu2).elim
   ·have hr:=L.d5 i o hoi hW hi j hj hf (fun e'=>e e'.symm)
    rcases zV i j with h2 | h2
    ·have hq:=b4 i h1 h2
     exfalso
     unfold bkey at hk
     cases hr:(q i).r <;> rw [hr] at hk hq <;> simp [wk,Res.quiet] at hk hq
     exact hlate h1 ⟨_,_,hr,hk.symm⟩
    ·rw [Nat.min_eq_left (by omega),Nat.max_eq_right (by omega)] at hr
     exact C.post _ hr
theorem Inv.okS (hok:(q j).r.ok (q j).S) (hk:∀ k mk,(q j).r=.tok (some k) mk→c.τ k≠none):(q j).r.ok S:=by
 cases hr:(q j).r with
 | tok kill mk =>
  cases kill with
  | none=>trivial
  | some k =>
   rw [hr] at hok
   have hkk:kkey q j=some k:=by simp [kkey,hr,kk]
   show k∈S.toks
   refine I.tok k ?_ ?_
   ·rcases (L.tok_lt (j:=j) (by omega) k hok).2 with h | ⟨i,h1,h2⟩
    ·exact .inl h
    ·refine .inr ⟨i,by omega, ?_,h2⟩
     cases hD:D i with
     | true=>rfl
     | false =>
      exfalso
      unfold ckey ck at h2
      split at h2
      ·rename_i kl mk' hri
       simp only [yX] at h2
       exact hk k mk hr (h2 ▸ I.ta i (by omega) hD _ _ hri)
      ·cases h2
   ·intro i hi hD hki
    rcases zV i j with h1 | h1
    ·exact L.killed hki h1 (by omega) hok
    ·by_cases e:i=j
     ·subst e;rw [C.no] at hD;cases hD
     ·exact L.killed hkk (show j<i by omega) (by omega) (L.kill_ok hi hki)
 | _=>trivial
theorem Inv.step (hE:E.Ok) (hd:∀ (j:Nat) (oj:Oper),ops[j]? = some oj→dstOk E.N oj.dst=true) {QQ:Exit→Act→World→Prop} {is:List Nat}
  (next:∀ ts' S' c' a' w',Inv E ops m ts0 S0 q c0 ds (addD D j) ts' S' c' a' w'→wpOpsIn E.F 0 E.P ops QQ is a' w'):wpOpsIn E.F 0 E.P ops QQ (j :: is) a w:=by
 obtain ⟨o,ho,hst,_⟩:=L.hq j hj
 have same:=I.sameAt L hj C ho
 have hw:=wantedA_same same
 simp only [wpOpsIn,ho]
 rcases hst.how with ⟨hw0,hr⟩ | ⟨hw1,hok,hh⟩
 ·rw [if_neg (by rw [zDu I.sim hd (hw.trans hw0)];simp)]
  obtain ⟨c',S',h⟩:=I.post L hj C ho hst.dst (v:=Go.undef) (w':=w) (by rw [hr];exact Post.same I.sim.st (VRel.undef c))
  exact ⟨fun _ _=>trivial,next _ _ _ _ _ h⟩
 ·rw [if_pos (zDu I.sim hd (hw.trans hw1))]
  have fin:∀ {R:St},Sees R S→astepO E.T R (q j).ts o.op=some (q j).r→o.wpIn E.F 0 E.P a w (wpOpsIn E.F 0 E.P ops QQ is) QQ:=by
   intro R hS e
   rw [← astepO_same same.ops] at e
   have e2:=astepO_mono hS e
   have hokS:=I.okS L hj C hok (fun k mk hk=>by
    rw [hk] at e2
    obtain ⟨x,l,n,hx⟩:=astepO_kill e2
    have hv:=zAh I.sim.ts hx
    generalize a.eval x=u at hv
    cases hv with
    | slice _ _ _ b off cap vs hc hk hr he ht =>
     obtain ⟨_,_,z,_,h2⟩:=ht k rfl
     rw [h2];simp
    | sliceNil _ ht=>exact absurd rfl (ht k))
   obtain ⟨v,w',hy,hp⟩:=astep_ok hE.T I.sim.st I.sim.ts (o:=o) e2 hokS
   obtain ⟨c',S',h⟩:=I.post L hj C ho hst.dst hp
   have nx:=next _ _ _ _ _ h
   have hnd:∀ c,o.op ≠ .defer c:=fun cl hcl=>by rw [hcl] at e;simp [astepO] at e
   unfold Oper.wpIn
   refine ⟨fun _ _=>trivial, ?_⟩
   rw [Oper.semAt_eq _ _ _ hnd]
   rcases hy with hy | ⟨hy,rfl⟩
   ·rw [hy];exact nx
   ·rw [hy];exact nx
  rcases hh with ⟨f1,f2,f3⟩ | ⟨f1,f2,f3⟩ | ⟨f1,f2,f3,f4⟩
  ·obtain ⟨F,hF,f3⟩:=f3
   exact fin (I.seesZ L hj C hF) f3
  ·exact fin (I.seesW L hj C ho f2) f3.1
  ·rcases f4 with f4 | ⟨cl,f,args,args',g1,g2,g3,g4,g5,g6,g7⟩
   ·exact fin (I.seesB L hj C f1) f4
   ·have hcl:callee E ts cl=some (f,args):=by
     rw [← g3]
     refine callee_same (fun t ht=>same t ?_)
     have:=ht
     unfold seenBy
     rw [g1]
     exact List.mem_append_left _ ht
    obtain ⟨vs,hx,hvs⟩:=callee_ok hE I.sim.ts g4 hcl o g1 w
    unfold Oper.wpIn
    refine ⟨fun _ _=>trivial, ?_⟩
    rw [Oper.semAt_eq _ _ _ (fun c hc=>by rw [g1] at hc;cases hc),hx,Oper.uponIn_enter]
    refine ⟨fun hh=>by simp [Env.F,Fence.wide] at hh,zEl ((g6 c S w vs I.sim.st (g5 c vs hvs)).mono fun e w' ⟨x,he,hp⟩ => ?_)⟩
    subst he
    obtain ⟨c',S',h⟩:=I.post L hj C ho hst.dst hp
    exact next _ _ _ _ _ h
end
end Go.Av
end

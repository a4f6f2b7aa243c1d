/- Part 14 of the proof. -/
import Derived.Test.YtclmbbofpaecaaaGreatDoorVu13
import Derived.Test.YtclmbbofpaecaaaGreatDoorVu3
import Derived.Lib.ItoaLen
set_option linter.all false
set_option linter.unusedVariables false
set_option linter.unusedSimpArgs false
set_option linter.unusedSectionVars false
open Array renaming getElem?_eq_getElem → qC, getElem?_eq_none → qS, getElem?_append_left → yR
open Bool renaming and_eq_true → zR, true_and → qU
open ByteArray renaming size_append → qJ
open Int renaming tmod_eq_emod_of_nonneg → qV, tdiv_eq_ediv_of_nonneg → yA, le_refl → yF, mul_nonneg → yK
open List renaming getElem?_eq_getElem → zF, getD_eq_getElem?_getD → zI, all_cons → zK, mem_cons_self → zO, getElem?_eq_none → zP, mem_cons_of_mem → zQ, length_cons → zT, getElem_mem → qA, length_append → qE, take_succ_eq_append_getElem → qG, append_assoc → qK, mem_singleton → qL, getElem?_map → qN, map_append → qP, all_eq_true → qX, take_length → qY, cons_append → yB, not_mem_nil → yE, range_succ → yI, nil_append → yJ, mem_cons → yL, take_of_length_le → yN
open Nat renaming le_refl → zN, lt_or_ge → zW, zero_le → qI
open Option renaming bind_some → zY
open Option.some renaming injEq → yU
section
namespace Go.Av
open Go Go.Proofs Go.RowKit Go.Sort
theorem Chg.below {w w':World} (h:Below w.heap.size w w'):Chg w w' (fun _ _=>False) (fun _=>False):=by
  have cell:∀ b o v,w.cell? ⟨b,o,none⟩=some v→w'.cell? ⟨b,o,none⟩=some v:=fun b o v e=>by
    have hb:=zAk e
    unfold World.cell? at e ⊢
    rw [h.block b hb];exact e
  refine ⟨fun b o v e _=>cell b o v e,fun b o v e=>⟨v,cell b o v e⟩,fun b o hb => ?_,fun b ob e _ _ => ?_,h.size,fun b x e => ?_,⟨h.os,h.output,fun b cs t fr e=>⟨cs,by rw [h.block b (Array.getElem?_eq_some_iff.1 e).1];exact e,rfl⟩⟩⟩
  · unfold World.frozen?;rw [h.block b hb]
  · rw [h.block b (Array.getElem?_eq_some_iff.1 e).1];exact e
  · have hb:b<w.heap.size:=by
      rcases zW b w.heap.size with h' | h'
      · exact h'
      · unfold World.shape? at e;rw [qS h'] at e;cases e
    unfold World.shape? at e ⊢
    rw [h.block b hb];exact e
theorem StRel.below {c:Cx} {S:St} {w w':World} (h:StRel c S w) (hb:Below w.heap.size w w'):StRel c S w':=
  h.chg (Chg.below hb) (fun _ _ e=>e.elim) (fun _ e=>e.elim) (fun _ _ _ _ _=>⟨fun _ _ e=>e,fun _ e=>e⟩)
theorem StRel.grow {c:Cx} {S:St} {w:World} (h:StRel c S w) (k:Nat) (os:Array Obj):StRel c S (grow (w.drewN k) os):=by
  have h0:(w.drewN k).heap=w.heap:=rfl
  have hb:∀ b,b<w.heap.size→(Go.Sort.grow (w.drewN k) os).heap[b]? = w.heap[b]?:=fun b hb=>by
    show (w.heap ++ os)[b]? = _
    exact yR hb
  have cell:∀ b o v,w.cell? ⟨b,o,none⟩=some v→(Go.Sort.grow (w.drewN k) os).cell? ⟨b,o,none⟩=some v:=fun b o v e=>by
    have hl:=zAk e
    unfold World.cell? at e ⊢
    rw [hb b hl];exact e
  refine h.chg (R:=fun _ _=>False) (RO:=fun _=>False) ⟨fun b o v e _=>cell b o v e,fun b o v e=>⟨v,cell b o v e⟩,fun b o hl => ?_,fun b ob e _ _ => ?_, ?_,fun b x e => ?_,⟨rfl,rfl,fun b cs t fr e=>⟨cs,by rw [hb b (Array.getElem?_eq_some_iff.1 e).1];exact e,rfl⟩⟩⟩ (fun _ _ e=>e.elim) (fun _ e=>e.elim) (fun _ _ _ _ _=>⟨fun _ _ e=>e,fun _ e=>e⟩)
  · unfold World.frozen?;rw [hb b hl]
  · rw [hb b (Array.getElem?_eq_some_iff.1 e).1];exact e
  · show w.heap.size≤(w.heap ++ os).size
    simp
  · have hl:b<w.heap.size:=by
      rcases zW b w.heap.size with h' | h'
      · exact h'
      · unfold World.shape? at e;rw [qS h'] at e;cases e
    unfold World.shape? at e ⊢
    rw [hb b hl];exact e
theorem StRel.tabIs {c:Cx} {S:St} {w:World} (h:StRel c S w):Lib.TabIs Tryz.prog w "internal/strconv.uint64pow10" .u64 Lib.pow10Tab:=by
  have hg:Tryz.prog.globalNamed "internal/strconv.uint64pow10" = some tabB:=by kernel_rfl
  obtain ⟨t,ht⟩:=h.tsh
  unfold Lib.TabIs World.var?
  rw [hg]
  unfold World.shape? at ht
  show (match w.heap[tabB]? with | some (.cells cs _ _)=>some cs | _=>none)=_
  cases hw:w.heap[tabB]? with
  | none=>rw [hw] at ht;cases ht
  | some ob =>
    rw [hw] at ht
    cases ob <;> simp at ht ⊢
    rename_i cs e f
    obtain ⟨_,hs⟩:=ht
    apply Array.ext
    · simp [hs,Lib.pow10Tab]
    · intro i h1 h2
      have hi:i<20:=hs ▸ h1
      have hk:=h.K _ _ _ (h.tab i hi)
      unfold World.cell? at hk
      simp only [hw] at hk
      simp at hk
      rw [qC h1] at hk
      simp only [yU] at hk
      rw [hk]
      simp [tabV,Lib.pow10Tab]
theorem VRel.of_str {c:Cx} {s:ByteArray} {x:Value} (h:VRel c (.str s) x):x=.string s:=by cases h;rfl
theorem VRel.of_int {c:Cx} {k:IntKind} {n:Int} {x:Value} (h:VRel c (.int k n) x):x=.int k n:=by cases h;rfl
theorem LRel.one {c:Cx} {x:AV} {vs:List Value} (h:LRel c [x] vs):∃ v,vs=[v]∧VRel c x v:=by
  obtain ⟨v,vs',rfl,h1,h2⟩:=h.tail
  cases vs' with
  | nil=>exact ⟨v,rfl,h1⟩
  | cons a b=>simp [LRel] at h2
theorem LRel.two {c:Cx} {x y:AV} {vs:List Value} (h:LRel c [x,y] vs):∃ u v,vs=[u,v]∧VRel c x u∧VRel c y v:=by
  obtain ⟨u,vs',rfl,h1,h2⟩:=h.tail
  obtain ⟨v,rfl,h3⟩:=h2.one
  exact ⟨u,v,rfl,h1,h3⟩
theorem LRel.four {c:Cx} {a b x y:AV} {vs:List Value} (h:LRel c [a,b,x,y] vs):∃ t s u v,vs=[t,s,u,v]∧VRel c a t∧VRel c b s∧VRel c x u∧VRel c y v:=by
  obtain ⟨t,vs',rfl,h1,h2⟩:=h.tail
  obtain ⟨s,vs'',rfl,h3,h4⟩:=h2.tail
  obtain ⟨u,v,rfl,h5,h6⟩:=h4.two
  exact ⟨t,s,u,v,rfl,h1,h3,h5,h6⟩
def itoaB (n:Int):ByteArray:=⟨(Lib.itoa n).toArray⟩
theorem Itoa_pc (n:Int) (h0:-9223372036854775808≤n) (h1:n≤9223372036854775807):PC Tryz.prog 162 [.int .i64 n] (.pure (.str (itoaB n))):=by
  intro c S w vs hs hl
  obtain ⟨v,rfl,hv⟩:=hl.one
  cases hv.of_int
  refine (Tryz.strconv_Itoa n h0 h1 w hs.tabIs).mono ?_
  rintro e w' ⟨rfl,k,os,rfl⟩
  exact ⟨_,rfl,c,Cx.le.refl c,rfl,rfl,hs.grow k os,.str _⟩
def joinB (xs:List ByteArray) (sep:ByteArray):ByteArray:=⟨(Lib.join (xs.map (·.data.toList)) sep.data.toList).toArray⟩
theorem Join_pc (xs:List ByteArray) (sep:ByteArray) (t:Tail) (hN:xs.length≤140737488355328) (hlen:(Lib.join (xs.map (·.data.toList)) sep.data.toList).length≤140737488355328) :
    PC Tryz.prog 163 [.slice (xs.map AV.str) xs.length t,.str sep] (.pure (.str (joinB xs sep))):=by
  intro c S w vs hs hl
  obtain ⟨u,v,rfl,hu,hv⟩:=hl.two
  cases hv.of_str
  generalize hL:xs.map AV.str=L at hu
  generalize hn:xs.length=n at hu hN
  cases hu with
  | sliceNil _ ht =>
    have:xs=[]:=List.eq_nil_of_length_eq_zero hn
    subst this
    refine (Tryz.strings_Join_none none 0 sep w).mono ?_
    rintro e w' ⟨rfl,rfl⟩
    exact ⟨_,rfl,Post.same hs (.str _)⟩
  | slice _ _ _ b off cap us hc hk hr he ht =>
    subst hL
    by_cases h0:xs=[]
    · subst h0
      cases hn
      refine (Tryz.strings_Join_none _ _ sep w).mono ?_
      rintro e w' ⟨rfl,rfl⟩
      exact ⟨_,rfl,Post.same hs (.str _)⟩
    have hcells:∀ (j:Nat) x,xs[j]? = some x→w.cell? ⟨b,off+j,none⟩=some (.string x):=by
      intro j x hx
      have hj:j<xs.length:=by
        rcases zW j xs.length with h' | h'
        · exact h'
        · rw [zP h'] at hx;cases hx
      have h1:=hr j (.str x) (by rw [qN,hx];rfl)
      have h2:=h1.of_str
      have h3:=hs.K _ _ _ (hk j (by simpa using hj))
      rw [h2] at h3;exact h3
    have hpos:0<xs.length:=List.length_pos_iff.2 h0
    have hb:b<w.heap.size:=zAk (hcells 0 xs[0] (zF hpos))
    subst hn
    refine (Tryz.strings_Join b off cap xs sep w hcells hb hN hc hlen).mono ?_
    rintro e w' ⟨rfl,hw⟩
    exact ⟨_,rfl,c,Cx.le.refl c,rfl,rfl,hs.below hw,.str _⟩
def splitL (s:ByteArray) (c:UInt8):List ByteArray:=Lib.splitB ⟨#[c]⟩ 0 (Lib.countB s ⟨#[c]⟩) s
theorem genSplit_pc (s:ByteArray) (b:UInt8) (hs:s.size<4294967281):PC Tryz.prog 184 [.str s,.str ⟨#[b]⟩,.int .i64 0,.int .i64 (-1)] (.pure (.slice ((splitL s b).map AV.str) (splitL s b).length .exact)):=by
  intro c S w vs hst hl
  obtain ⟨v1,v2,v3,v4,rfl,h1,h2,h3,h4⟩:=hl.four
  cases h1.of_str;cases h2.of_str;cases h3.of_int;cases h4.of_int
  have hle:=Lib.countB_le ⟨#[b]⟩ (zN 1) s.size s (zN _)
  have hlen:=Lib.splitB_all ⟨#[b]⟩ (zN 1) 0 _ s rfl
  have c1:=Any.strings_genSplit_core Tryz.lays221 (by kernel_rfl) s ⟨#[b]⟩ 0 (-1) (Lib.countB s ⟨#[b]⟩+1) w hs (zN 1) (qI _)
    (fun x cc hx=>by
      have h:=Tryz.strings_Index_one x b (w.alloc (.cells cc 9))
      rw [← Lib.index_one] at h
      exact h)
    (by have h:=Tryz.strings_Count_one s b w
        unfold Lib.countByte at h
        rw [← Lib.count_one] at h
        exact h) (by decide) (by decide) (by rw [if_pos (by decide)];omega)
  rw [Nat.add_sub_cancel,hlen] at c1
  refine Calls.mono c1 ?_
  rintro e w' ⟨rfl,rfl⟩
  refine ⟨_,rfl, ?_⟩
  have e2:Lib.cellsOf (Lib.splitB ⟨#[b]⟩ 0 (Lib.countB s ⟨#[b]⟩) s) (Lib.countB s ⟨#[b]⟩+1)=((splitL s b).map Value.string).toArray:=by rw [← hlen];exact Lib.cellsOf_full _
  rw [e2]
  have hln:Lib.countB s ⟨#[b]⟩+1=(splitL s b).length:=hlen.symm
  rw [hln]
  exact Post.newImm hst (l:=(splitL s b).map AV.str) (arr:=((splitL s b).map Value.string).toArray) 9 ⟨by simp,fun j x v e1 e2=>by
    simp only [qN] at e1 e2
    cases hj:(splitL s b)[j]? with
    | none=>rw [hj] at e1;cases e1
    | some y=>rw [hj] at e1 e2;cases e1;cases e2;exact .str _⟩ _
end Go.Av
end
section
namespace Go.Av.Lx
open Go Go.Av Go.Proofs
open Go.Lv (Sight Survey Sw Sv SightOk)
def i64 (n:Int):Prop:=-9223372036854775808≤n∧n≤9223372036854775807
def sp:ByteArray:=⟨#[32]⟩
def lf:ByteArray:=⟨#[10]⟩
def wordB (k:Nat):ByteArray:=[⟨#[115,117,114,118,101,121]⟩,⟨#[115,105,103,104,116]⟩].getD k ByteArray.empty
def rowN (o:ByteArray) (ns:List Int):ByteArray:=ns.foldl (fun o n=>o ++ (sp ++ itoaB n)) o
def rowB (k:Nat) (ns:List Int):ByteArray:=rowN (wordB k) ns
theorem zBc {n:Int} (h:i64 n):(itoaB n).size≤21:=by
 have:=Lib.itoa_length_le n h.1 h.2
 simpa [itoaB,ByteArray.size] using this
theorem zEr:∀ (ns:List Int) (o:ByteArray),(∀ n∈ns,i64 n)→(rowN o ns).size≤o.size+22 * ns.length
 | [],o,_=>zN _
 | n :: ns,o,h=>by
  have h1:=zEr ns (o ++ (sp ++ itoaB n)) fun m hm=>h m (zQ _ hm)
  have h2:=zBc (h n zO)
  have h3:(o ++ (sp ++ itoaB n)).size=o.size+(1+(itoaB n).size):=by rw [qJ,qJ];rfl
  show (rowN (o ++ (sp ++ itoaB n)) ns).size≤_
  simp only [zT];omega
theorem rowN_take (o:ByteArray) (ns:List Int) (k:Nat) (h:k<ns.length):rowN o (ns.take (k+1))=rowN o (ns.take k) ++ (sp ++ itoaB ns[k]):=by
 unfold rowN
 rw [List.take_add_one,zF h,List.foldl_append]
 rfl
theorem wordB_size (k:Nat):(wordB k).size≤6:=by
 match k with
 | 0=>decide
 | 1=>decide
 | k+2=>simp [wordB]
def nsS (x:Sight):List Int:=[x.frm,x.to,x.rise,x.off]
def rowsL (s:Survey):List ByteArray:=rowB 0 [s.stations] :: s.sights.map fun x=>rowB 1 (nsS x)
def rs (r:ByteArray):Nat→Int
 | 0=>0
 | k+1=>rs r k+(((r[k]?).getD 0).toNat:Int) * (k+1:Nat)
def ck (rows:List ByteArray):Nat→Int
 | 0=>0
 | i+1=>ck rows i+rs (rows.getD i ByteArray.empty) (rows.getD i ByteArray.empty).size * (i+1:Nat)
def endW:ByteArray:=⟨#[101,110,100,32]⟩
def endB (c:Int):ByteArray:=((endW ++ itoaB (c.tdiv 100)) ++ itoaB ((c.tdiv 10).tmod 10)) ++ itoaB (c.tmod 10)
def ckL (s:Survey):Int:=(ck (rowsL s) (rowsL s).length).tmod 149
def textB (s:Survey):ByteArray:=joinB (rowsL s ++ [endB (ckL s)]) lf ++ lf
theorem rs_bd (r:ByteArray):∀ k,0≤rs r k∧rs r k≤255 * (k * k:Nat)
 | 0=>⟨yF _,by simp [rs]⟩
 | k+1=>by
  have ih:=rs_bd r k
  have hb:((r[k]?).getD 0).toNat≤255:=Nat.le_of_lt_succ (UInt8.toNat_lt _)
  have h1:((r[k]?).getD 0).toNat * (k+1)≤255 * (k+1):=Nat.mul_le_mul_right _ hb
  have h2:rs r (k+1)=rs r k+((((r[k]?).getD 0).toNat * (k+1):Nat):Int):=by simp [rs]
  have h3:(k+1) * (k+1)=k * k+2 * k+1:=by rw [Nat.add_mul,Nat.mul_add];omega
  rw [h2,h3];omega
theorem rs_bd100 (r:ByteArray) {k:Nat} (h:k≤100):0≤rs r k∧rs r k≤2550000:=by
 have h1:=rs_bd r k
 have h2:k * k≤100 * 100:=Nat.mul_le_mul h h
 omega
theorem ck_bd {R:List ByteArray} (h:∀ r∈R,r.size≤100):∀ i,i≤3000→0≤ck R i∧ck R i≤7650000000 * i
 | 0,_=>⟨yF _,by simp [ck]⟩
 | i+1,hi=>by
  have ih:=ck_bd h i (by omega)
  have hs:(R.getD i ByteArray.empty).size≤100:=by
   rw [zI]
   cases e:R[i]? with
   | none=>exact qI _
   | some r=>exact h r (List.mem_of_getElem? e)
  have h1:=rs_bd100 (R.getD i ByteArray.empty) hs
  have h2:0≤rs (R.getD i ByteArray.empty) (R.getD i ByteArray.empty).size * (i+1:Nat):=yK h1.1 (by omega)
  have h3:rs (R.getD i ByteArray.empty) (R.getD i ByteArray.empty).size * (i+1:Nat)≤2550000 * (3000:Int):=Int.mul_le_mul h1.2 (by omega) (by omega) (by omega)
  show 0≤ck R i+_∧ck R i+_≤_
  omega
def isD (b:UInt8):Bool:=48≤b.toNat && b.toNat≤57
def decP (x:ByteArray):Nat→Int
 | 0=>0
 | k+1=>10 * decP x k+((x.get! k).toNat - 48)
def digs (x:ByteArray) (k:Nat):Bool:=(List.range k).all fun j=>isD (x.get! j)
def negW (w:ByteArray):Bool:=decide (0<w.size) && decide ((w.get! 0).toNat=45)
def bodyW (w:ByteArray):ByteArray:=if negW w=true then w.extract 1 w.size else w
def valW (w:ByteArray):Int:=if negW w=true then -decP (bodyW w) (bodyW w).size else decP (bodyW w) (bodyW w).size
def okW (w:ByteArray):Bool:=decide ((bodyW w).size≠0) && decide ((bodyW w).size≤4) && digs (bodyW w) (bodyW w).size && decide (itoaB (valW w)=w)
def toldB (row:ByteArray) (kind many:Nat):Option (List Int):=
 if (splitL row 32).length=many+1∧(splitL row 32).head? = some (wordB kind)∧(splitL row 32).tail.all okW=true then some ((splitL row 32).tail.map valW) else none
def sgtN (ns:List Int):Sight:=⟨ns.getD 0 0,ns.getD 1 0,ns.getD 2 0,ns.getD 3 0⟩
def foldT (l:List Sight):List ByteArray→Option (List Sight)
 | []=>some l
 | r :: rs=>(toldB r 1 4).bind fun ns=>foldT (l ++ [sgtN ns]) rs
def parsedB (s:ByteArray):Option Survey:=
 if 3≤(splitL s 10).length then
  (toldB ((splitL s 10).headD ByteArray.empty) 0 1).bind fun ns =>
   (foldT [] ((splitL s 10).tail.take ((splitL s 10).length - 3))).bind fun l =>
    if textB ⟨ns.getD 0 0,l⟩=s then some ⟨ns.getD 0 0,l⟩ else none
 else none
theorem decP_pow {x:ByteArray}:∀ {j:Nat},digs x j=true→0≤decP x j∧decP x j<(10 ^ j:Nat)
 | 0,_=>by simp [decP]
 | j+1,h=>by
  unfold digs at h
  rw [yI,List.all_append,zR] at h
  have ih:=decP_pow (x:=x) (j:=j) h.1
  have hd:48≤(x.get! j).toNat∧(x.get! j).toNat≤57:=by simpa [isD] using h.2
  show 0≤10 * decP x j+(((x.get! j).toNat:Int) - 48)∧10 * decP x j+(((x.get! j).toNat:Int) - 48)<(10 ^ (j+1):Nat)
  rw [Nat.pow_succ]
  omega
theorem decP_bd {x:ByteArray} {j:Nat} (h:digs x j=true) (hj:j≤4):0≤decP x j∧decP x j≤9999:=by
 have h1:=decP_pow h
 have h2:10 ^ j≤10 ^ 4:=Nat.pow_le_pow_right (by decide) hj
 omega
theorem ba_ext {a b:ByteArray} (h:a.data.toList=b.data.toList):a=b:=by
 cases a;cases b
 simp only [ByteArray.mk.injEq]
 exact Array.toList_inj.1 h
theorem zAw (a b:ByteArray):(a ++ b).data.toList=a.data.toList ++ b.data.toList:=by simp [ByteArray.data_append]
def catB (R:List ByteArray):Nat→ByteArray
 | 0=>ByteArray.empty
 | i+1=>catB R i ++ R.getD i ByteArray.empty ++ lf
theorem join_snoc (sep x:List UInt8):∀ (R:List (List UInt8)) (a:List UInt8),a ++ Lib.joinTail sep (R ++ [x])=((a :: R).map (· ++ sep)).flatten ++ x
 | [],a=>by simp [Lib.joinTail]
 | b :: R,a=>by
  have ih:=join_snoc sep x R b
  have e:Lib.joinTail sep (b :: R ++ [x])=sep ++ (b ++ Lib.joinTail sep (R ++ [x])):=by simp [Lib.joinTail]
  rw [e,ih]
  simp
theorem getD_at' {α:Type} {l:List α} {k:Nat} (d:α) (h:k<l.length):l.getD k d=l[k]:=by rw [zI,zF h];rfl
theorem catB_list (R:List ByteArray):∀ k,k≤R.length→(catB R k).data.toList=((R.take k).map fun r=>r.data.toList ++ lf.data.toList).flatten
 | 0,_=>rfl
 | k+1,h=>by
  have ih:=catB_list R k (by omega)
  have h':k<R.length:=by omega
  rw [qG h',qP,List.flatten_append,← ih]
  show (catB R k ++ R.getD k ByteArray.empty ++ lf).data.toList=_
  rw [zAw,zAw,getD_at' _ h']
  simp
theorem join_cat (R:List ByteArray) (x:ByteArray):joinB (R ++ [x]) lf ++ lf=catB R R.length ++ x ++ lf:=by
 apply ba_ext
 rw [zAw,zAw,zAw,catB_list R R.length (zN _),qY]
 congr 1
 unfold joinB
 cases R with
 | nil=>simp [Lib.join_one]
 | cons a R =>
  rw [yB,List.map_cons,Lib.join_cons,qP]
  have:=join_snoc lf.data.toList x.data.toList (R.map (·.data.toList)) a.data.toList
  simp only [List.map_cons,List.map_nil,List.map_map] at this ⊢
  exact this
theorem index_no {c:UInt8}:∀ {l:List UInt8},c ∉ l→Lib.index l [c] = -1
 | [],_=>rfl
 | b :: l,h=>by
  have hb:b≠c:=fun e=>h (e ▸ zO)
  unfold Lib.index
  rw [if_neg (by simp [List.isPrefixOf];exact fun e=>hb e.symm),index_no (fun hh=>h (zQ _ hh))]
  rfl
theorem index_at {c:UInt8}:∀ {l:List UInt8} {r:List UInt8},c ∉ l→Lib.index (l ++ c :: r) [c]=(l.length:Nat)
 | [],r,_=>by
  show Lib.index (c :: r) [c]=_
  unfold Lib.index
  rw [if_pos (by simp [List.isPrefixOf])];rfl
 | b :: l,r,h=>by
  have hb:b≠c:=fun e=>h (e ▸ zO)
  have ih:=index_at (r:=r) (fun hh=>h (zQ b hh))
  show Lib.index (b :: (l ++ c :: r)) [c]=_
  unfold Lib.index
  rw [if_neg (by simp [List.isPrefixOf];exact fun e=>hb e.symm),ih]
  have:¬ (((l.length:Nat):Int) == -1)=true:=by simp
  rw [if_neg this]
  simp
theorem split_one {a:ByteArray} {c:UInt8} (h:c ∉ a.data.toList):splitL a c=[a]:=by
 unfold splitL
 have hi:Lib.indexB a ⟨#[c]⟩ = -1:=index_no h
 rw [Lib.countB_miss _ _ hi];rfl
theorem split_cons {a r:ByteArray} {c:UInt8} (h:c ∉ a.data.toList):splitL (a ++ (⟨#[c]⟩ ++ r)) c=a :: splitL r c:=by
 unfold splitL
 have hi:Lib.indexB (a ++ (⟨#[c]⟩ ++ r)) ⟨#[c]⟩=(a.size:Nat):=by
  have:(a ++ (⟨#[c]⟩ ++ r)).data.toList=a.data.toList ++ c :: r.data.toList:=by simp [ByteArray.data_append]
  show Lib.index (a ++ (⟨#[c]⟩ ++ r)).data.toList [c]=_
  rw [this,index_at h];rfl
 have hs:(⟨#[c]⟩:ByteArray).size=1:=rfl
 have hx:(a ++ (⟨#[c]⟩ ++ r)).data.toList=a.data.toList ++ c :: r.data.toList:=by simp [ByteArray.data_append]
 have ha:a.size=a.data.toList.length:=by rw [Array.length_toList];rfl
 have hz:(a ++ (⟨#[c]⟩ ++ r)).size=a.data.toList.length+1+r.data.toList.length:=by
  have:(a ++ (⟨#[c]⟩ ++ r)).size=(a ++ (⟨#[c]⟩ ++ r)).data.toList.length:=by rw [Array.length_toList];rfl
  rw [this,hx,qE,zT];omega
 have e1:(a ++ (⟨#[c]⟩ ++ r)).extract (a.size+1) (a ++ (⟨#[c]⟩ ++ r)).size=r:=by
  apply ByteArray.ext
  apply Array.ext'
  rw [ByteArray.data_extract,Array.toList_extract,hx,hz,ha,List.extract_eq_take_drop]
  rw [show a.data.toList ++ c :: r.data.toList=(a.data.toList ++ [c]) ++ r.data.toList by simp]
  rw [List.drop_left' (by simp),yN (by omega)]
 have e2:(a ++ (⟨#[c]⟩ ++ r)).extract 0 (a.size+0)=a:=by
  apply ByteArray.ext
  apply Array.ext'
  rw [ByteArray.data_extract,Array.toList_extract,hx,ha,List.extract_eq_take_drop,List.drop_zero]
  exact List.take_left' (by omega)
 rw [Lib.countB_hit _ ⟨#[c]⟩ a.size (by rw [hs];exact zN 1) hi,Nat.add_comm 1,Lib.splitB_hit _ _ _ _ a.size hi,hs,e1,e2]
def smI (n:Int):Prop:=-9999≤n∧n≤9999
def numOk (n:Int):Bool:=okW (itoaB n) && decide (valW (itoaB n)=n) && ((itoaB n).data.toList.all fun b=>b != 32 && b != 10) && decide ((itoaB n).size≤(if 0≤n∧n<10 then 1 else if 0≤n∧n<100 then 2 else 5))
theorem get_mk (l:List UInt8) {j:Nat} (h:j<l.length):(⟨l.toArray⟩:ByteArray).get! j=l[j]:=by simp [ByteArray.get!,h]
def valL (l:List UInt8):Int:=l.foldl (fun n b=>10 * n+((b.toNat:Int) - 48)) 0
theorem decP_mk (l:List UInt8):∀ k,k≤l.length→decP ⟨l.toArray⟩ k=valL (l.take k)
 | 0,_=>by simp [decP,valL]
 | k+1,h=>by
  have h':k<l.length:=by omega
  show 10 * decP ⟨l.toArray⟩ k+_=_
  rw [decP_mk l k (by omega),get_mk l h',qG h']
  unfold valL
  rw [List.foldl_append];rfl
theorem digs_mk (l:List UInt8):∀ k,k≤l.length→digs ⟨l.toArray⟩ k=(l.take k).all isD
 | 0,_=>by simp [digs]
 | k+1,h=>by
  have h':k<l.length:=by omega
  have ih:=digs_mk l k (by omega)
  unfold digs at ih ⊢
  rw [yI,List.all_append,ih,qG h',List.all_append]
  simp [get_mk l h']
theorem isD_dig {d:Nat} (h:d<10):isD (UInt8.ofNat (48+d))=true∧((UInt8.ofNat (48+d)).toNat:Int) - 48=d:=by
 have e:(UInt8.ofNat (48+d)).toNat=48+d:=by
  rw [UInt8.toNat_ofNat'];omega
 unfold isD
 rw [e]
 refine ⟨?_,by omega⟩
 rw [zR,decide_eq_true_iff,decide_eq_true_iff];omega
theorem dd_ok:∀ (m u:Nat),u<10 ^ (m+1)→(Lib.decDigits u).all isD=true∧valL (Lib.decDigits u)=u∧0<(Lib.decDigits u).length∧(Lib.decDigits u).length≤m+1
 | m,u,h=>by
  by_cases h10:u<10
  ·rw [Lib.decDigits_one h10]
   have:=isD_dig h10
   refine ⟨by rw [zK,this.1];rfl, ?_,by simp,by simp⟩
   show 10 * 0+(((UInt8.ofNat (48+u)).toNat:Int) - 48)=u
   rw [this.2];omega
  ·cases m with
   | zero=>simp at h;omega
   | succ m =>
    have hp:10 ^ (m+1+1)=10 ^ (m+1) * 10:=Nat.pow_succ ..
    obtain ⟨i1,i2,i3,i4⟩:=dd_ok m (u / 10) (by omega)
    have hd:=isD_dig (d:=u % 10) (by omega)
    rw [Lib.decDigits,dif_neg h10]
    refine ⟨by rw [List.all_append,i1,qU,zK,hd.1];rfl, ?_,by simp,by simp;omega⟩
    unfold valL at i2 ⊢
    rw [List.foldl_append,i2]
    show 10 * ((u / 10:Nat):Int)+(((UInt8.ofNat (48+u % 10)).toNat:Int) - 48)=u
    rw [hd.2];omega
theorem dd_no {l:List UInt8} (h:l.all isD=true) {b:UInt8} (hb:b∈l):48≤b.toNat∧b.toNat≤57:=by
 have:=List.all_eq_true.1 h b hb
 unfold isD at this
 rw [zR,decide_eq_true_iff,decide_eq_true_iff] at this
 exact this
theorem num_all {n:Int} (h:smI n):numOk n=true:=by
 have h1:=h.1;have h2:=h.2
 obtain ⟨u,hu⟩:∃ u:Nat,u=n.natAbs:=⟨_,rfl⟩
 have hu4:u<10 ^ (3+1):=by show u<10000;omega
 obtain ⟨d1,d2,d3,d4⟩:=dd_ok 3 u hu4
 have d5:u<10→(Lib.decDigits u).length≤1:=fun h=>(dd_ok 0 u h).2.2.2
 have d6:u<100→(Lib.decDigits u).length≤2:=fun h=>(dd_ok 1 u h).2.2.2
 generalize hl:Lib.decDigits u=l at *
 have p1:decP ⟨l.toArray⟩ l.length=u:=by rw [decP_mk l l.length (zN _),qY,d2]
 have p2:digs ⟨l.toArray⟩ l.length=true:=by rw [digs_mk l l.length (zN _),qY,d1]
 have sz:(⟨l.toArray⟩:ByteArray).size=l.length:=by simp [ByteArray.size]
 have hD:=fun b (hb:b∈l)=>dd_no d1 hb
 unfold numOk
 by_cases hn:n<0
 ·have e:itoaB n=⟨(45 :: l).toArray⟩:=by
   unfold itoaB Lib.itoa
   rw [if_pos hn,← hu,hl]
  have se:(itoaB n).size=l.length+1:=by rw [e];simp [ByteArray.size]
  have hneg:negW (itoaB n)=true:=by
   unfold negW
   rw [zR,decide_eq_true_iff,decide_eq_true_iff,e]
   exact ⟨by simp [ByteArray.size],by rw [get_mk _ (by simp)];rfl⟩
  have hb:bodyW (itoaB n)=⟨l.toArray⟩:=by
   unfold bodyW
   rw [if_pos hneg,se,e]
   apply ba_ext
   rw [ByteArray.data_extract,Array.toList_extract]
   simp
  have hv:valW (itoaB n)=n:=by
   unfold valW
   rw [if_pos hneg,hb,sz,p1];omega
  have hok:okW (itoaB n)=true:=by
   unfold okW
   rw [hb,sz,p2,hv,decide_eq_true (show l.length≠0 by omega),decide_eq_true (show l.length≤4 by omega),decide_eq_true rfl];rfl
  rw [hok,hv,decide_eq_true rfl,se,qU,zR,qU,qX,decide_eq_true_iff]
  refine ⟨fun b hb => ?_, ?_⟩
  ·rw [e] at hb
   rcases List.mem_cons.1 (by simpa using hb) with rfl | hb
   ·decide
   ·have:=hD b hb
    simp only [zR,bne_iff_ne,ne_eq]
    refine ⟨fun e => ?_,fun e => ?_⟩ <;> subst e <;> revert this <;> decide
  ·rw [if_neg (by omega),if_neg (by omega)];omega
 ·have e:itoaB n=⟨l.toArray⟩:=by
   unfold itoaB Lib.itoa
   rw [if_neg hn,show n.toNat=u by omega,hl]
  have se:(itoaB n).size=l.length:=by rw [e,sz]
  have hneg:negW (itoaB n)=false:=by
   unfold negW
   rw [e,get_mk l d3]
   have:=hD l[0] (qA d3)
   rw [decide_eq_false (p:=(l[0]).toNat=45) (by omega),Bool.and_false]
  have hb:bodyW (itoaB n)=⟨l.toArray⟩:=by
   unfold bodyW
   rw [hneg,if_neg (by decide),e]
  have hv:valW (itoaB n)=n:=by
   unfold valW
   rw [hneg,if_neg (by decide),hb,sz,p1];omega
  have hok:okW (itoaB n)=true:=by
   unfold okW
   rw [hb,sz,p2,hv,decide_eq_true (show l.length≠0 by omega),decide_eq_true (show l.length≤4 by omega),decide_eq_true rfl];rfl
  rw [hok,hv,decide_eq_true rfl,se,qU,zR,qU,qX,decide_eq_true_iff]
  refine ⟨fun b hb => ?_, ?_⟩
  ·rw [e] at hb
   have:=hD b (by simpa using hb)
   simp only [zR,bne_iff_ne,ne_eq]
   refine ⟨fun e => ?_,fun e => ?_⟩ <;> subst e <;> revert this <;> decide
  ·split
   ·exact d5 (by omega)
   ·split
    ·exact d6 (by omega)
    ·omega
theorem num_ok {n:Int} (h:smI n):okW (itoaB n)=true∧valW (itoaB n)=n∧(32:UInt8) ∉ (itoaB n).data.toList∧(10:UInt8) ∉ (itoaB n).data.toList:=by
 have:=num_all h
 unfold numOk at this
 rw [zR,zR,zR,decide_eq_true_iff,qX] at this
 obtain ⟨⟨⟨h1,h2⟩,h3⟩,_⟩:=this
 refine ⟨h1,h2,fun hh => ?_,fun hh => ?_⟩
 ·have:=h3 _ hh;simp at this
 ·have:=h3 _ hh;simp at this
theorem row_eq:∀ (ns:List Int) (o:ByteArray),rowN o ns=o ++ rowN ByteArray.empty ns
 | [],o=>by simp [rowN]
 | n :: ns,o=>by
  show rowN (o ++ (sp ++ itoaB n)) ns=o ++ rowN (ByteArray.empty ++ (sp ++ itoaB n)) ns
  rw [row_eq ns,row_eq ns (ByteArray.empty ++ (sp ++ itoaB n)),ByteArray.empty_append]
  simp only [ByteArray.append_assoc]
theorem row_split:∀ (ns:List Int) (o:ByteArray),(32:UInt8) ∉ o.data.toList→(∀ n∈ns,smI n)→splitL (rowN o ns) 32=o :: ns.map itoaB
 | [],o,ho,_=>split_one ho
 | n :: ns,o,ho,h=>by
  have e:rowN o (n :: ns)=o ++ (⟨#[32]⟩ ++ rowN (itoaB n) ns):=by
   show rowN (o ++ (sp ++ itoaB n)) ns=_
   rw [row_eq ns,row_eq ns (itoaB n)]
   show o ++ (sp ++ itoaB n) ++ _=o ++ (sp ++ _)
   rw [ByteArray.append_assoc,ByteArray.append_assoc]
  rw [e,split_cons ho,row_split ns (itoaB n) (num_ok (h n zO)).2.2.1 fun x hx=>h x (zQ _ hx)]
  rfl
theorem row_told (k:Nat) (hk:k<2) (ns:List Int) (h:∀ n∈ns,smI n):toldB (rowB k ns) k ns.length=some ns:=by
 have hw:(32:UInt8) ∉ (wordB k).data.toList:=by
  match k,hk with
  | 0,_=>decide
  | 1,_=>decide
 unfold toldB rowB
 rw [row_split ns _ hw h]
 rw [if_pos ⟨by simp,rfl,by
  rw [qX]
  intro x hx
  obtain ⟨n,hn,rfl⟩:=List.mem_map.1 hx
  exact (num_ok (h n hn)).1⟩]
 congr 1
 show (ns.map itoaB).map valW=ns
 rw [List.map_map]
 refine (List.map_congr_left fun n hn=>(num_ok (h n hn)).2.1).trans ?_
 simp
def catL:List ByteArray→ByteArray
 | []=>ByteArray.empty
 | r :: R=>r ++ (lf ++ catL R)
theorem catL_list:∀ R:List ByteArray,(catL R).data.toList=(R.map fun r=>r.data.toList ++ lf.data.toList).flatten
 | []=>rfl
 | r :: R=>by
  show (r ++ (lf ++ catL R)).data.toList=_
  rw [zAw,zAw,catL_list R]
  simp
theorem text_cat (l:Survey):textB l=catL (rowsL l ++ [endB (ckL l)]):=by
 unfold textB
 rw [join_cat]
 apply ba_ext
 rw [zAw,zAw,catB_list _ _ (zN _),qY,catL_list]
 simp
theorem cat_split:∀ R:List ByteArray,(∀ r∈R,(10:UInt8) ∉ r.data.toList)→splitL (catL R) 10=R ++ [ByteArray.empty]
 | [],_=>split_one (by decide)
 | r :: R,h=>by
  show splitL (r ++ (⟨#[10]⟩ ++ catL R)) 10=_
  rw [split_cons (h r zO),cat_split R fun x hx=>h x (zQ _ hx)]
  rfl
theorem row_no:∀ (ns:List Int) (o:ByteArray),(10:UInt8) ∉ o.data.toList→(∀ n∈ns,smI n)→(10:UInt8) ∉ (rowN o ns).data.toList
 | [],o,ho,_=>ho
 | n :: ns,o,ho,h=>by
  refine row_no ns (o ++ (sp ++ itoaB n)) ?_ fun x hx=>h x (zQ _ hx)
  rw [zAw,zAw,List.mem_append,List.mem_append]
  rintro (hh | hh | hh)
  ·exact ho hh
  ·revert hh;decide
  ·exact (num_ok (h n zO)).2.2.2 hh
theorem word_no (k:Nat) (hk:k<2):(10:UInt8) ∉ (wordB k).data.toList:=by
 match k,hk with
 | 0,_=>decide
 | 1,_=>decide
theorem end_no {c:Int} (h:0≤c∧c<1000):(10:UInt8) ∉ (endB c).data.toList:=by
 obtain ⟨n,rfl⟩:∃ n:Nat,c=n:=⟨c.toNat,by omega⟩
 unfold endB
 rw [zAw,zAw,zAw,List.mem_append,List.mem_append,List.mem_append]
 have e1:((n:Int).tdiv 100)=(n / 100:Nat):=by rw [yA (by omega)];omega
 have e2:((n:Int).tdiv 10)=(n / 10:Nat):=by rw [yA (by omega)];omega
 have e3:(((n / 10:Nat):Int).tmod 10)=(n / 10 % 10:Nat):=by rw [qV (by omega)];omega
 have e4:((n:Int).tmod 10)=(n % 10:Nat):=by rw [qV (by omega)];omega
 rw [e1,e2,e3,e4]
 rintro (((hh | hh) | hh) | hh)
 ·revert hh;decide
 ·exact (num_ok ⟨by omega,by omega⟩).2.2.2 hh
 ·exact (num_ok ⟨by omega,by omega⟩).2.2.2 hh
 ·exact (num_ok ⟨by omega,by omega⟩).2.2.2 hh
def Small (s:Survey):Prop:=smI s.stations ∧ ∀ x∈s.sights,∀ n∈nsS x,smI n
theorem fold_sights:∀ (xs l:List Sight),(∀ x∈xs,∀ n∈nsS x,smI n)→foldT l (xs.map fun x=>rowB 1 (nsS x))=some (l ++ xs)
 | [],l,_=>by simp [foldT]
 | x :: xs,l,h=>by
  show (toldB (rowB 1 (nsS x)) 1 4).bind _=_
  have e:toldB (rowB 1 (nsS x)) 1 4=some (nsS x):=row_told 1 (by decide) _ (h x zO)
  have e2:sgtN (nsS x)=x:=by cases x;rfl
  rw [e,zY,e2,fold_sights xs _ fun y hy=>h y (zQ _ hy)]
  simp
theorem small_rows {s:Survey} (h:Small s):∀ r∈rowsL s,(10:UInt8) ∉ r.data.toList:=fun r hr=>by
 unfold rowsL at hr
 rcases List.mem_cons.1 hr with rfl | hr
 ·exact row_no _ _ (word_no 0 (by decide)) fun n hn=>by rw [qL] at hn;subst hn;exact h.1
 ·obtain ⟨x,hx,rfl⟩:=List.mem_map.1 hr
  exact row_no _ _ (word_no 1 (by decide)) (h.2 x hx)
theorem ck_nn (R:List ByteArray) (k:Nat):0≤ck R k:=by
 induction k with
 | zero=>exact yF _
 | succ k ih =>
  have:=(rs_bd (R.getD k ByteArray.empty) (R.getD k ByteArray.empty).size).1
  have:0≤rs (R.getD k ByteArray.empty) (R.getD k ByteArray.empty).size * ((k+1:Nat):Int):=yK this (by omega)
  show 0≤ck R k+_
  omega
theorem ckL_mod (s:Survey):ckL s=ck (rowsL s) (rowsL s).length % 149:=by
 unfold ckL;exact qV (ck_nn _ _)
theorem ckL_bd (s:Survey):0≤ckL s∧ckL s<149:=by rw [ckL_mod];omega
theorem text_rows {s:Survey} (h:Small s):splitL (textB s) 10=(rowsL s ++ [endB (ckL s)]) ++ [ByteArray.empty]:=by
 have hck:=ckL_bd s
 rw [text_cat,cat_split _ fun r hr => ?_]
 rcases List.mem_append.1 hr with hr | hr
 ·exact small_rows h r hr
 ·rw [qL] at hr;subst hr;exact end_no (by omega)
theorem parsed_small_text {s:Survey} (h:Small s):parsedB (textB s)=some s:=by
 unfold parsedB
 rw [text_rows h]
 have hlen:((rowsL s ++ [endB (ckL s)]) ++ [ByteArray.empty]).length=s.sights.length+3:=by simp [rowsL]
 rw [hlen,if_pos (by omega)]
 have ht:(((rowsL s ++ [endB (ckL s)]) ++ [ByteArray.empty]).tail.take (s.sights.length+3 - 3))=s.sights.map fun x=>rowB 1 (nsS x):=by
  show (((s.sights.map fun x=>rowB 1 (nsS x)) ++ [endB (ckL s)]) ++ [ByteArray.empty]).take s.sights.length=_
  rw [qK]
  exact List.take_left' (by simp)
 rw [ht]
 show (toldB (rowB 0 [s.stations]) 0 1).bind _=_
 have e:toldB (rowB 0 [s.stations]) 0 1=some [s.stations]:=row_told 0 (by decide) _ fun n hn=>by rw [qL] at hn;subst hn;exact h.1
 rw [e,zY,fold_sights _ _ h.2,zY,yJ]
 show (if textB s=textB s then some s else none)=some s
 rw [if_pos rfl]
theorem okW_bd {x:ByteArray} (h:okW x=true):smI (valW x):=by
 unfold okW at h
 simp only [zR,decide_eq_true_eq] at h
 have hb:=decP_bd h.1.2 h.1.1.2
 unfold valW
 split
 ·exact ⟨by omega,by omega⟩
 ·exact ⟨by omega,by omega⟩
theorem zDw {r:ByteArray} {k m:Nat} {ns:List Int} (h:toldB r k m=some ns):ns.length=m ∧ ∀ n∈ns,smI n:=by
 unfold toldB at h
 split at h
 ·rename_i hh
  cases h
  obtain ⟨h1,_,h3⟩:=hh
  refine ⟨by simp;omega,fun n hn => ?_⟩
  obtain ⟨x,hx,rfl⟩:=List.mem_map.1 hn
  exact okW_bd (List.all_eq_true.1 h3 x hx)
 ·cases h
theorem zero_sm:smI 0:=⟨by decide,by decide⟩
theorem getD_sm {ns:List Int} (h:∀ n∈ns,smI n) (i:Nat):smI (ns.getD i 0):=by
 rw [zI]
 cases hx:ns[i]? with
 | none=>exact zero_sm
 | some g=>exact h g (List.mem_of_getElem? hx)
theorem sgtN_small {ns:List Int} (h:∀ n∈ns,smI n):∀ n∈nsS (sgtN ns),smI n:=fun n hn=>by
 simp only [nsS,sgtN,yL,yE,or_false] at hn
 rcases hn with rfl | rfl | rfl | rfl <;> exact getD_sm h _
theorem fold_small:∀ (R:List ByteArray) {l l':List Sight},foldT l R=some l'→(∀ x∈l,∀ n∈nsS x,smI n) → ∀ x∈l',∀ n∈nsS x,smI n
 | [],l,l',h,hl=>by cases h;exact hl
 | r :: R,l,l',h,hl=>by
  unfold foldT at h
  cases hx:toldB r 1 4 with
  | none=>rw [hx] at h;cases h
  | some ns =>
   rw [hx] at h
   refine fold_small R h fun x hx' => ?_
   rcases List.mem_append.1 hx' with hx' | hx'
   ·exact hl x hx'
   ·rw [qL] at hx';subst hx';exact sgtN_small (zDw hx).2
theorem fold_len:∀ (R:List ByteArray) {l l':List Sight},foldT l R=some l'→l'.length=l.length+R.length
 | [],l,l',h=>by cases h;rfl
 | r :: R,l,l',h=>by
  unfold foldT at h
  cases hx:toldB r 1 4 with
  | none=>rw [hx] at h;cases h
  | some ns =>
   rw [hx] at h
   have:=fold_len R h
   simp at this ⊢;omega
theorem zDn {t:ByteArray} {s:Survey} (h:parsedB t=some s):3≤(splitL t 10).length∧textB s=t ∧ ∃ ns,toldB ((splitL t 10).headD ByteArray.empty) 0 1=some ns∧s.stations=ns.getD 0 0∧foldT [] ((splitL t 10).tail.take ((splitL t 10).length - 3))=some s.sights:=by
 unfold parsedB at h
 split at h
 ·rename_i h3
  refine ⟨h3, ?_⟩
  cases hx:toldB ((splitL t 10).headD ByteArray.empty) 0 1 with
  | none=>rw [hx] at h;cases h
  | some ns =>
   rw [hx,zY] at h
   cases hy:foldT [] ((splitL t 10).tail.take ((splitL t 10).length - 3)) with
   | none=>rw [hy] at h;cases h
   | some l1 =>
    rw [hy,zY] at h
    split at h
    ·rename_i ht
     cases h
     exact ⟨ht,ns,rfl,rfl,rfl⟩
    ·cases h
 ·cases h
theorem parsed_small {t:ByteArray} {s:Survey} (h:parsedB t=some s):Small s:=by
 obtain ⟨_,_,ns,h1,h2,h3⟩:=zDn h
 obtain ⟨_,h4⟩:=zDw h1
 exact ⟨by rw [h2];exact getD_sm h4 0,fold_small _ h3 fun x hx=>by cases hx⟩

def rNum (w:ByteArray):Option Int:=if okW w=true then some (valW w) else none
def rNums:List ByteArray→Option (List Int)
 | []=>some []
 | w :: ws=>(rNum w).bind fun n=>(rNums ws).map (n :: ·)
def rfoldT (l:List Sight):List ByteArray→Option (List Sight)
 | []=>some l
 | r :: R=>(rNums (splitL r 32).tail).bind fun ns=>if ns.length=4 then rfoldT (l ++ [sgtN ns]) R else none
def rheadT:List ByteArray→Option Survey
 | []=>some ⟨0,[]⟩
 | r :: R=>(rNums (splitL r 32).tail).bind fun ns=>if ns.length=1 then (rfoldT [] R).map fun l=>⟨ns.getD 0 0,l⟩ else none
def rreadB (t:ByteArray):Option Survey:=(rheadT ((splitL t 10).take ((splitL t 10).length - 2))).bind fun s=>if textB s=t then some s else none
theorem rNums_bd:∀ {ws:List ByteArray} {ns:List Int},rNums ws=some ns → ∀ n∈ns,smI n
 | [],ns,h,n,hn=>by cases h;cases hn
 | w :: ws,ns,h,n,hn=>by
  unfold rNums rNum at h
  split at h
  ·rename_i ok
   cases h2:rNums ws with
   | none=>rw [h2] at h;cases h
   | some bs =>
    rw [h2] at h;cases h
    rcases List.mem_cons.1 hn with rfl | hn
    ·exact okW_bd ok
    ·exact rNums_bd h2 n hn
  ·cases h
theorem rNums_itoa:∀ {ns:List Int},(∀ n∈ns,smI n)→rNums (ns.map itoaB)=some ns
 | [],_=>rfl
 | n :: ns,h=>by
  have h1:=num_ok (h n zO)
  show (rNum (itoaB n)).bind _=_
  unfold rNum
  rw [if_pos h1.1,h1.2.1,zY,rNums_itoa fun x hx=>h x (zQ _ hx)]
  rfl
theorem row_tail (k:Nat) (hk:k<2) (ns:List Int) (h:∀ n∈ns,smI n):rNums (splitL (rowB k ns) 32).tail=some ns:=by
 have hw:(32:UInt8) ∉ (wordB k).data.toList:=by
  match k,hk with
  | 0,_=>decide
  | 1,_=>decide
 have hs:splitL (rowB k ns) 32=wordB k :: ns.map itoaB:=row_split ns _ hw h
 rw [hs];exact rNums_itoa h
theorem rfold_sights:∀ (xs l:List Sight),(∀ x∈xs,∀ n∈nsS x,smI n)→rfoldT l (xs.map fun x=>rowB 1 (nsS x))=some (l ++ xs)
 | [],l,_=>by simp [rfoldT]
 | x :: xs,l,h=>by
  show (rNums (splitL (rowB 1 (nsS x)) 32).tail).bind _=_
  have e2:sgtN (nsS x)=x:=by cases x;rfl
  rw [row_tail 1 (by decide) _ (h x zO),zY,if_pos (show (nsS x).length=4 from rfl),e2,rfold_sights xs _ fun y hy=>h y (zQ _ hy)]
  simp
theorem rread_text {s:Survey} (h:Small s):rreadB (textB s)=some s:=by
 unfold rreadB
 rw [text_rows h]
 have ht:((rowsL s ++ [endB (ckL s)]) ++ [ByteArray.empty]).take (((rowsL s ++ [endB (ckL s)]) ++ [ByteArray.empty]).length - 2)=rowsL s:=by
  rw [qK]
  exact List.take_left' (by simp)
 rw [ht]
 have hf:rheadT (rowsL s)=some s:=by
  show (rNums (splitL (rowB 0 [s.stations]) 32).tail).bind _=_
  rw [row_tail 0 (by decide) _ (fun n hn=>by rw [qL] at hn;subst hn;exact h.1),zY,if_pos (show [s.stations].length=1 from rfl),rfold_sights _ _ h.2]
  rfl
 rw [hf,zY,if_pos rfl]
theorem rfold_small:∀ (R:List ByteArray) {l l':List Sight},rfoldT l R=some l'→(∀ x∈l,∀ n∈nsS x,smI n) → ∀ x∈l',∀ n∈nsS x,smI n
 | [],l,l',h,hl=>by cases h;exact hl
 | r :: R,l,l',h,hl=>by
  unfold rfoldT at h
  cases hx:rNums (splitL r 32).tail with
  | none=>rw [hx] at h;cases h
  | some ns =>
   rw [hx,zY] at h
   split at h
   ·refine rfold_small R h fun x hx' => ?_
    rcases List.mem_append.1 hx' with hx' | hx'
    ·exact hl x hx'
    ·rw [qL] at hx';subst hx';exact sgtN_small (rNums_bd hx)
   ·cases h
theorem rhead_small {R:List ByteArray} {s:Survey} (h:rheadT R=some s):Small s:=by
 cases R with
 | nil=>cases h;exact ⟨zero_sm,fun x hx=>by cases hx⟩
 | cons r R =>
  have h:((rNums (splitL r 32).tail).bind fun ns=>if ns.length=1 then (rfoldT [] R).map fun l=>(⟨ns.getD 0 0,l⟩:Survey) else none)=some s:=h
  cases hx:rNums (splitL r 32).tail with
  | none=>rw [hx] at h;cases h
  | some ns =>
   rw [hx,zY] at h
   split at h
   ·cases hy:rfoldT [] R with
    | none=>rw [hy] at h;cases h
    | some l=>rw [hy] at h;cases h;exact ⟨getD_sm (rNums_bd hx) 0,rfold_small R hy fun x hx=>by cases hx⟩
   ·cases h
theorem rread_some {t:ByteArray} {s:Survey} (h:rreadB t=some s):Small s∧textB s=t:=by
 unfold rreadB at h
 cases hx:rheadT ((splitL t 10).take ((splitL t 10).length - 2)) with
 | none=>rw [hx] at h;cases h
 | some l' =>
  rw [hx,zY] at h
  split at h
  ·rename_i ht
   cases h
   exact ⟨rhead_small hx,ht⟩
  ·cases h
theorem rread_eq (t:ByteArray):rreadB t=parsedB t:=by
 cases hp:parsedB t with
 | some l =>
  have h1:=parsed_small hp
  have h2:=(zDn hp).2.1
  rw [← h2];exact rread_text h1
 | none =>
  cases hr:rreadB t with
  | none=>rfl
  | some l =>
   obtain ⟨h1,h2⟩:=rread_some hr
   rw [← h2,parsed_small_text h1] at hp;cases hp
end Go.Av.Lx
end

/- Part 24 of the proof. -/
import Derived.Test.YtclmbbofpaecaaaGreatDoorVn10
import Derived.Test.YtclmbbofpaecaaaGreatDoorVn23
import Derived.Test.YtclmbbofpaecaaaGreatDoorVn19
import Derived.Lib.ItoaLen
set_option linter.all false
set_option linter.unusedVariables false
set_option linter.unusedSimpArgs false
set_option linter.unusedSectionVars false
open Array renaming getElem?_eq_getElem → qA, getElem?_eq_none → qP, getElem?_append_left → yR
open Bool renaming and_self → zJ, and_eq_true → zT
open ByteArray renaming size_append → qI
open Int renaming le_refl → qZ, mul_nonneg → yI, tdiv_eq_ediv_of_nonneg → yJ, tmod_eq_emod_of_nonneg → yK
open List renaming getElem?_eq_getElem → zF, getD_eq_getElem?_getD → zG, set_cons_succ → zH, set_cons_zero → zI, all_cons → zL, getElem?_eq_none → zN, all_nil → zO, mem_cons_self → zP, mem_cons_of_mem → zR, length_cons → zW, getElem_mem → qB, length_append → qC, getElem?_map → qK, take_succ_eq_append_getElem → qM, map_append → qS, cons_append → qX, not_mem_nil → yA, mem_cons → yM, range_succ → yN, take_length → yO, mem_singleton → yP
open Nat renaming reduceLeDiff → zA, reduceEqDiff → zB, reduceAdd → zC, reduceBEq → zD, le_of_ble_eq_true → zE, le_refl → zM, lt_or_ge → zU, zero_le → qG, mul_one → yL
open Option renaming map_some → zX
open Option.some renaming injEq → yT
section
namespace Go.Av
open Go Go.Proofs Go.RowKit Go.Sort
theorem Chg.below {w w':World} (h:Below w.heap.size w w'):Chg w w' (fun _ _=>False) (fun _=>False):=by
  have cell:∀ b o v,w.cell? ⟨b,o,none⟩=some v→w'.cell? ⟨b,o,none⟩=some v:=fun b o v e=>by
    have hb:=zAk e
    unfold World.cell? at e ⊢
    rw [h.block b hb];exact e
  refine ⟨fun b o v e _=>cell b o v e,fun b o v e=>⟨v,cell b o v e⟩,fun b o hb => ?_,fun b ob e _ _ => ?_,h.size,fun b x e => ?_,⟨h.os,h.output,fun b cs t fr e=>⟨cs,by rw [h.block b (Array.getElem?_eq_some_iff.1 e).1];exact e,rfl⟩⟩⟩
  · unfold World.frozen?;rw [h.block b hb]
  · rw [h.block b (Array.getElem?_eq_some_iff.1 e).1];exact e
  · have hb:b<w.heap.size:=by
      rcases zU b w.heap.size with h' | h'
      · exact h'
      · unfold World.shape? at e;rw [qP h'] at e;cases e
    unfold World.shape? at e ⊢
    rw [h.block b hb];exact e
theorem StRel.below {c:Cx} {S:St} {w w':World} (h:StRel c S w) (hb:Below w.heap.size w w'):StRel c S w':=
  h.chg (Chg.below hb) (fun _ _ e=>e.elim) (fun _ e=>e.elim) (fun _ _ _ _ _=>⟨fun _ _ e=>e,fun _ e=>e⟩)
theorem StRel.grow {c:Cx} {S:St} {w:World} (h:StRel c S w) (k:Nat) (os:Array Obj):StRel c S (grow (w.drewN k) os):=by
  have h0:(w.drewN k).heap=w.heap:=rfl
  have hb:∀ b,b<w.heap.size→(Go.Sort.grow (w.drewN k) os).heap[b]? = w.heap[b]?:=fun b hb=>by
    show (w.heap ++ os)[b]? = _
    exact yR hb
  have cell:∀ b o v,w.cell? ⟨b,o,none⟩=some v→(Go.Sort.grow (w.drewN k) os).cell? ⟨b,o,none⟩=some v:=fun b o v e=>by
    have hl:=zAk e
    unfold World.cell? at e ⊢
    rw [hb b hl];exact e
  refine h.chg (R:=fun _ _=>False) (RO:=fun _=>False) ⟨fun b o v e _=>cell b o v e,fun b o v e=>⟨v,cell b o v e⟩,fun b o hl => ?_,fun b ob e _ _ => ?_, ?_,fun b x e => ?_,⟨rfl,rfl,fun b cs t fr e=>⟨cs,by rw [hb b (Array.getElem?_eq_some_iff.1 e).1];exact e,rfl⟩⟩⟩ (fun _ _ e=>e.elim) (fun _ e=>e.elim) (fun _ _ _ _ _=>⟨fun _ _ e=>e,fun _ e=>e⟩)
  · unfold World.frozen?;rw [hb b hl]
  · rw [hb b (Array.getElem?_eq_some_iff.1 e).1];exact e
  · show w.heap.size≤(w.heap ++ os).size
    simp
  · have hl:b<w.heap.size:=by
      rcases zU b w.heap.size with h' | h'
      · exact h'
      · unfold World.shape? at e;rw [qP h'] at e;cases e
    unfold World.shape? at e ⊢
    rw [hb b hl];exact e
theorem StRel.tabIs {c:Cx} {S:St} {w:World} (h:StRel c S w):Lib.TabIs Tryz.prog w "internal/strconv.uint64pow10" .u64 Lib.pow10Tab:=by
  have hg:Tryz.prog.globalNamed "internal/strconv.uint64pow10" = some tabB:=by kernel_rfl
  obtain ⟨t,ht⟩:=h.tsh
  unfold Lib.TabIs World.var?
  rw [hg]
  unfold World.shape? at ht
  show (match w.heap[tabB]? with | some (.cells cs _ _)=>some cs | _=>none)=_
  cases hw:w.heap[tabB]? with
  | none=>rw [hw] at ht;cases ht
  | some ob =>
    rw [hw] at ht
    cases ob <;> simp at ht ⊢
    rename_i cs e f
    obtain ⟨_,hs⟩:=ht
    apply Array.ext
    · simp [hs,Lib.pow10Tab]
    · intro i h1 h2
      have hi:i<20:=hs ▸ h1
      have hk:=h.K _ _ _ (h.tab i hi)
      unfold World.cell? at hk
      simp only [hw] at hk
      simp at hk
      rw [qA h1] at hk
      simp only [yT] at hk
      rw [hk]
      simp [tabV,Lib.pow10Tab]
theorem VRel.of_str {c:Cx} {s:ByteArray} {x:Value} (h:VRel c (.str s) x):x=.string s:=by cases h;rfl
theorem VRel.of_int {c:Cx} {k:IntKind} {n:Int} {x:Value} (h:VRel c (.int k n) x):x=.int k n:=by cases h;rfl
theorem LRel.one {c:Cx} {x:AV} {vs:List Value} (h:LRel c [x] vs):∃ v,vs=[v]∧VRel c x v:=by
  obtain ⟨v,vs',rfl,h1,h2⟩:=h.tail
  cases vs' with
  | nil=>exact ⟨v,rfl,h1⟩
  | cons a b=>simp [LRel] at h2
theorem LRel.two {c:Cx} {x y:AV} {vs:List Value} (h:LRel c [x,y] vs):∃ u v,vs=[u,v]∧VRel c x u∧VRel c y v:=by
  obtain ⟨u,vs',rfl,h1,h2⟩:=h.tail
  obtain ⟨v,rfl,h3⟩:=h2.one
  exact ⟨u,v,rfl,h1,h3⟩
theorem LRel.four {c:Cx} {a b x y:AV} {vs:List Value} (h:LRel c [a,b,x,y] vs):∃ t s u v,vs=[t,s,u,v]∧VRel c a t∧VRel c b s∧VRel c x u∧VRel c y v:=by
  obtain ⟨t,vs',rfl,h1,h2⟩:=h.tail
  obtain ⟨s,vs'',rfl,h3,h4⟩:=h2.tail
  obtain ⟨u,v,rfl,h5,h6⟩:=h4.two
  exact ⟨t,s,u,v,rfl,h1,h3,h5,h6⟩
def itoaB (n:Int):ByteArray:=⟨(Lib.itoa n).toArray⟩
theorem Itoa_pc (n:Int) (h0:-9223372036854775808≤n) (h1:n≤9223372036854775807):PC Tryz.prog 162 [.int .i64 n] (.pure (.str (itoaB n))):=by
  intro c S w vs hs hl
  obtain ⟨v,rfl,hv⟩:=hl.one
  cases hv.of_int
  refine (Tryz.strconv_Itoa n h0 h1 w hs.tabIs).mono ?_
  rintro e w' ⟨rfl,k,os,rfl⟩
  exact ⟨_,rfl,c,Cx.le.refl c,rfl,rfl,hs.grow k os,.str _⟩
def joinB (xs:List ByteArray) (sep:ByteArray):ByteArray:=⟨(Lib.join (xs.map (·.data.toList)) sep.data.toList).toArray⟩
theorem Join_pc (xs:List ByteArray) (sep:ByteArray) (t:Tail) (hN:xs.length≤140737488355328) (hlen:(Lib.join (xs.map (·.data.toList)) sep.data.toList).length≤140737488355328) :
    PC Tryz.prog 163 [.slice (xs.map AV.str) xs.length t,.str sep] (.pure (.str (joinB xs sep))):=by
  intro c S w vs hs hl
  obtain ⟨u,v,rfl,hu,hv⟩:=hl.two
  cases hv.of_str
  generalize hL:xs.map AV.str=L at hu
  generalize hn:xs.length=n at hu hN
  cases hu with
  | sliceNil _ ht =>
    have:xs=[]:=List.eq_nil_of_length_eq_zero hn
    subst this
    refine (Tryz.strings_Join_none none 0 sep w).mono ?_
    rintro e w' ⟨rfl,rfl⟩
    exact ⟨_,rfl,Post.same hs (.str _)⟩
  | slice _ _ _ b off cap us hc hk hr he ht =>
    subst hL
    by_cases h0:xs=[]
    · subst h0
      cases hn
      refine (Tryz.strings_Join_none _ _ sep w).mono ?_
      rintro e w' ⟨rfl,rfl⟩
      exact ⟨_,rfl,Post.same hs (.str _)⟩
    have hcells:∀ (j:Nat) x,xs[j]? = some x→w.cell? ⟨b,off+j,none⟩=some (.string x):=by
      intro j x hx
      have hj:j<xs.length:=by
        rcases zU j xs.length with h' | h'
        · exact h'
        · rw [zN h'] at hx;cases hx
      have h1:=hr j (.str x) (by rw [qK,hx];rfl)
      have h2:=h1.of_str
      have h3:=hs.K _ _ _ (hk j (by simpa using hj))
      rw [h2] at h3;exact h3
    have hpos:0<xs.length:=List.length_pos_iff.2 h0
    have hb:b<w.heap.size:=zAk (hcells 0 xs[0] (zF hpos))
    subst hn
    refine (Tryz.strings_Join b off cap xs sep w hcells hb hN hc hlen).mono ?_
    rintro e w' ⟨rfl,hw⟩
    exact ⟨_,rfl,c,Cx.le.refl c,rfl,rfl,hs.below hw,.str _⟩
def splitL (s:ByteArray) (c:UInt8):List ByteArray:=Lib.splitB ⟨#[c]⟩ 0 (Lib.countB s ⟨#[c]⟩) s
theorem genSplit_pc (s:ByteArray) (b:UInt8) (hs:s.size<4294967281):PC Tryz.prog 184 [.str s,.str ⟨#[b]⟩,.int .i64 0,.int .i64 (-1)] (.pure (.slice ((splitL s b).map AV.str) (splitL s b).length .exact)):=by
  intro c S w vs hst hl
  obtain ⟨v1,v2,v3,v4,rfl,h1,h2,h3,h4⟩:=hl.four
  cases h1.of_str;cases h2.of_str;cases h3.of_int;cases h4.of_int
  have hle:=Lib.countB_le ⟨#[b]⟩ (zM 1) s.size s (zM _)
  have hlen:=Lib.splitB_all ⟨#[b]⟩ (zM 1) 0 _ s rfl
  have c1:=Any.strings_genSplit_core Tryz.lays221 (by kernel_rfl) s ⟨#[b]⟩ 0 (-1) (Lib.countB s ⟨#[b]⟩+1) w hs (zM 1) (qG _)
    (fun x cc hx=>by
      have h:=Tryz.strings_Index_one x b (w.alloc (.cells cc 9))
      rw [← Lib.index_one] at h
      exact h)
    (by have h:=Tryz.strings_Count_one s b w
        unfold Lib.countByte at h
        rw [← Lib.count_one] at h
        exact h) (by decide) (by decide) (by rw [if_pos (by decide)];omega)
  rw [Nat.add_sub_cancel,hlen] at c1
  refine Calls.mono c1 ?_
  rintro e w' ⟨rfl,rfl⟩
  refine ⟨_,rfl, ?_⟩
  have e2:Lib.cellsOf (Lib.splitB ⟨#[b]⟩ 0 (Lib.countB s ⟨#[b]⟩) s) (Lib.countB s ⟨#[b]⟩+1)=((splitL s b).map Value.string).toArray:=by rw [← hlen];exact Lib.cellsOf_full _
  rw [e2]
  have hln:Lib.countB s ⟨#[b]⟩+1=(splitL s b).length:=hlen.symm
  rw [hln]
  exact Post.newImm hst (l:=(splitL s b).map AV.str) (arr:=((splitL s b).map Value.string).toArray) 9 ⟨by simp,fun j x v e1 e2=>by
    simp only [qK] at e1 e2
    cases hj:(splitL s b)[j]? with
    | none=>rw [hj] at e1;cases e1
    | some y=>rw [hj] at e1 e2;cases e1;cases e2;exact .str _⟩ _
end Go.Av
end
section
namespace Go.Av.Lx
open Go Go.Av Go.Proofs
open Go.Lv (Sight Survey Sw Sv SightOk)
def i64 (n:Int):Prop:=-9223372036854775808≤n∧n≤9223372036854775807
def sp:ByteArray:=⟨#[32]⟩
def lf:ByteArray:=⟨#[10]⟩
def wordB (k:Nat):ByteArray:=[⟨#[115,117,114,118,101,121]⟩,⟨#[115,105,103,104,116]⟩].getD k ByteArray.empty
def rowN (o:ByteArray) (ns:List Int):ByteArray:=ns.foldl (fun o n=>o ++ (sp ++ itoaB n)) o
def rowB (k:Nat) (ns:List Int):ByteArray:=rowN (wordB k) ns
theorem zBa {n:Int} (h:i64 n):(itoaB n).size≤21:=by
 have:=Lib.itoa_length_le n h.1 h.2
 simpa [itoaB,ByteArray.size] using this
theorem zEz:∀ (ns:List Int) (o:ByteArray),(∀ n∈ns,i64 n)→(rowN o ns).size≤o.size+22 * ns.length
 | [],o,_=>zM _
 | n :: ns,o,h=>by
  have h1:=zEz ns (o ++ (sp ++ itoaB n)) fun m hm=>h m (zR _ hm)
  have h2:=zBa (h n zP)
  have h3:(o ++ (sp ++ itoaB n)).size=o.size+(1+(itoaB n).size):=by rw [qI,qI];rfl
  show (rowN (o ++ (sp ++ itoaB n)) ns).size≤_
  simp only [zW];omega
theorem rowN_take (o:ByteArray) (ns:List Int) (k:Nat) (h:k<ns.length):rowN o (ns.take (k+1))=rowN o (ns.take k) ++ (sp ++ itoaB ns[k]):=by
 unfold rowN
 rw [List.take_add_one,zF h,List.foldl_append]
 rfl
theorem wordB_size (k:Nat):(wordB k).size≤6:=by
 match k with
 | 0=>decide
 | 1=>decide
 | k+2=>simp [wordB]
def nsS (x:Sight):List Int:=[x.frm,x.to,x.rise,x.off]
def rowsL (s:Survey):List ByteArray:=rowB 0 [s.stations] :: s.sights.map fun x=>rowB 1 (nsS x)
def rs (r:ByteArray):Nat→Int
 | 0=>0
 | k+1=>rs r k+(((r[k]?).getD 0).toNat:Int) * (k+1:Nat)
def ck (rows:List ByteArray):Nat→Int
 | 0=>0
 | i+1=>ck rows i+rs (rows.getD i ByteArray.empty) (rows.getD i ByteArray.empty).size * (i+1:Nat)
def endW:ByteArray:=⟨#[101,110,100,32]⟩
def endB (c:Int):ByteArray:=((endW ++ itoaB (c.tdiv 100)) ++ itoaB ((c.tdiv 10).tmod 10)) ++ itoaB (c.tmod 10)
def ckL (s:Survey):Int:=(ck (rowsL s) (rowsL s).length).tmod 149
def textB (s:Survey):ByteArray:=joinB (rowsL s ++ [endB (ckL s)]) lf ++ lf
theorem rs_bd (r:ByteArray):∀ k,0≤rs r k∧rs r k≤255 * (k * k:Nat)
 | 0=>⟨qZ _,by simp [rs]⟩
 | k+1=>by
  have ih:=rs_bd r k
  have hb:((r[k]?).getD 0).toNat≤255:=Nat.le_of_lt_succ (UInt8.toNat_lt _)
  have h1:((r[k]?).getD 0).toNat * (k+1)≤255 * (k+1):=Nat.mul_le_mul_right _ hb
  have h2:rs r (k+1)=rs r k+((((r[k]?).getD 0).toNat * (k+1):Nat):Int):=by simp [rs]
  have h3:(k+1) * (k+1)=k * k+2 * k+1:=by rw [Nat.add_mul,Nat.mul_add];omega
  rw [h2,h3];omega
theorem rs_bd100 (r:ByteArray) {k:Nat} (h:k≤100):0≤rs r k∧rs r k≤2550000:=by
 have h1:=rs_bd r k
 have h2:k * k≤100 * 100:=Nat.mul_le_mul h h
 omega
theorem ck_bd {R:List ByteArray} (h:∀ r∈R,r.size≤100):∀ i,i≤3000→0≤ck R i∧ck R i≤7650000000 * i
 | 0,_=>⟨qZ _,by simp [ck]⟩
 | i+1,hi=>by
  have ih:=ck_bd h i (by omega)
  have hs:(R.getD i ByteArray.empty).size≤100:=by
   rw [zG]
   cases e:R[i]? with
   | none=>exact qG _
   | some r=>exact h r (List.mem_of_getElem? e)
  have h1:=rs_bd100 (R.getD i ByteArray.empty) hs
  have h2:0≤rs (R.getD i ByteArray.empty) (R.getD i ByteArray.empty).size * (i+1:Nat):=yI h1.1 (by omega)
  have h3:rs (R.getD i ByteArray.empty) (R.getD i ByteArray.empty).size * (i+1:Nat)≤2550000 * (3000:Int):=Int.mul_le_mul h1.2 (by omega) (by omega) (by omega)
  show 0≤ck R i+_∧ck R i+_≤_
  omega
def isD (b:UInt8):Bool:=48≤b.toNat && b.toNat≤57
def decP (x:ByteArray):Nat→Int
 | 0=>0
 | k+1=>10 * decP x k+((x.get! k).toNat - 48)
def digs (x:ByteArray) (k:Nat):Bool:=(List.range k).all fun j=>isD (x.get! j)
def negW (w:ByteArray):Bool:=decide (0<w.size) && decide ((w.get! 0).toNat=45)
def bodyW (w:ByteArray):ByteArray:=if negW w=true then w.extract 1 w.size else w
def valW (w:ByteArray):Int:=if negW w=true then -decP (bodyW w) (bodyW w).size else decP (bodyW w) (bodyW w).size
def okW (w:ByteArray):Bool:=decide ((bodyW w).size≠0) && decide ((bodyW w).size≤4) && digs (bodyW w) (bodyW w).size && decide (itoaB (valW w)=w)
def toldB (row:ByteArray) (kind many:Nat):Option (List Int):=
 if (splitL row 32).length=many+1∧(splitL row 32).head? = some (wordB kind)∧(splitL row 32).tail.all okW=true then some ((splitL row 32).tail.map valW) else none
def sgtN (ns:List Int):Sight:=⟨ns.getD 0 0,ns.getD 1 0,ns.getD 2 0,ns.getD 3 0⟩
def foldT (l:List Sight):List ByteArray→Option (List Sight)
 | []=>some l
 | r :: rs=>(toldB r 1 4).bind fun ns=>foldT (l ++ [sgtN ns]) rs
def parsedB (s:ByteArray):Option Survey:=
 if 3≤(splitL s 10).length then
  (toldB ((splitL s 10).headD ByteArray.empty) 0 1).bind fun ns =>
   (foldT [] ((splitL s 10).tail.take ((splitL s 10).length - 3))).bind fun l =>
    if textB ⟨ns.getD 0 0,l⟩=s then some ⟨ns.getD 0 0,l⟩ else none
 else none
theorem decP_pow {x:ByteArray}:∀ {j:Nat},digs x j=true→0≤decP x j∧decP x j<(10 ^ j:Nat)
 | 0,_=>by simp [decP]
 | j+1,h=>by
  unfold digs at h
  rw [yN,List.all_append,zT] at h
  have ih:=decP_pow (x:=x) (j:=j) h.1
  have hd:48≤(x.get! j).toNat∧(x.get! j).toNat≤57:=by simpa [isD] using h.2
  show 0≤10 * decP x j+(((x.get! j).toNat:Int) - 48)∧10 * decP x j+(((x.get! j).toNat:Int) - 48)<(10 ^ (j+1):Nat)
  rw [Nat.pow_succ]
  omega
theorem decP_bd {x:ByteArray} {j:Nat} (h:digs x j=true) (hj:j≤4):0≤decP x j∧decP x j≤9999:=by
 have h1:=decP_pow h
 have h2:10 ^ j≤10 ^ 4:=Nat.pow_le_pow_right (by decide) hj
 omega
theorem ba_ext {a b:ByteArray} (h:a.data.toList=b.data.toList):a=b:=by
 cases a;cases b
 simp only [ByteArray.mk.injEq]
 exact Array.toList_inj.1 h
theorem zCq (a b:ByteArray):(a ++ b).data.toList=a.data.toList ++ b.data.toList:=by simp [ByteArray.data_append]
def catB (R:List ByteArray):Nat→ByteArray
 | 0=>ByteArray.empty
 | i+1=>catB R i ++ R.getD i ByteArray.empty ++ lf
theorem join_snoc (sep x:List UInt8):∀ (R:List (List UInt8)) (a:List UInt8),a ++ Lib.joinTail sep (R ++ [x])=((a :: R).map (· ++ sep)).flatten ++ x
 | [],a=>by simp [Lib.joinTail]
 | b :: R,a=>by
  have ih:=join_snoc sep x R b
  have e:Lib.joinTail sep (b :: R ++ [x])=sep ++ (b ++ Lib.joinTail sep (R ++ [x])):=by simp [Lib.joinTail]
  rw [e,ih]
  simp
theorem getD_at' {α:Type} {l:List α} {k:Nat} (d:α) (h:k<l.length):l.getD k d=l[k]:=by rw [zG,zF h];rfl
theorem catB_list (R:List ByteArray):∀ k,k≤R.length→(catB R k).data.toList=((R.take k).map fun r=>r.data.toList ++ lf.data.toList).flatten
 | 0,_=>rfl
 | k+1,h=>by
  have ih:=catB_list R k (by omega)
  have h':k<R.length:=by omega
  rw [qM h',qS,List.flatten_append,← ih]
  show (catB R k ++ R.getD k ByteArray.empty ++ lf).data.toList=_
  rw [zCq,zCq,getD_at' _ h']
  simp
theorem join_cat (R:List ByteArray) (x:ByteArray):joinB (R ++ [x]) lf ++ lf=catB R R.length ++ x ++ lf:=by
 apply ba_ext
 rw [zCq,zCq,zCq,catB_list R R.length (zM _),yO]
 congr 1
 unfold joinB
 cases R with
 | nil=>simp [Lib.join_one]
 | cons a R =>
  rw [qX,List.map_cons,Lib.join_cons,qS]
  have:=join_snoc lf.data.toList x.data.toList (R.map (·.data.toList)) a.data.toList
  simp only [List.map_cons,List.map_nil,List.map_map] at this ⊢
  exact this
def smI (n:Int):Prop:=-9999≤n∧n≤9999
end Go.Av.Lx
end
section
set_option maxHeartbeats 2000000
namespace Go.Av.Lx
open Go Go.Av Go.Av.Tb Go.Av.Fx Go.Proofs
open Go.Lv (Sight Survey Sw Sv SightOk)
theorem addS {a b:ByteArray} (h:a.size+b.size≤4611686018427387904):binA T .add 9 (.str a) (.str b)=some (.str (a ++ b)):=by
 show (if a.size+b.size≤4611686018427387904 then some (AV.str (a ++ b)) else none)=_
 rw [if_pos h]
@[go_sem] theorem tas_ii (v:AV):zAx T (.iface 3 v) 3 true=some (.tuple [v,.bool true]):=rfl
@[go_sem] theorem tas_si (v:AV):zAx T (.iface 85 v) 3 true=some (.tuple [.int .i64 0,.bool false]):=rfl
@[go_sem] theorem tas_ss (v:AV):zAx T (.iface 85 v) 85 true=some (.tuple [v,.bool true]):=rfl
@[go_sem] theorem bs_int4 (a b c d:Int):zAe T 32 4 [(0,.int .i64 a),(1,.int .i64 b),(2,.int .i64 c),(3,.int .i64 d)]=some (.slice [.int .i64 a,.int .i64 b,.int .i64 c,.int .i64 d] 4 .exact):=rfl
theorem words_pc:PC Tryz.prog 179 [] (.pure (.agg [.str (wordB 0),.str (wordB 1)])):=by
 refine PC.of_empty (AC.run (E_ok _) mix Tryz.func179 m179 rfl rfl rfl (zE rfl) ?_) rfl rfl
 have hb:buildA T 228 [(0,AV.str ⟨#[115,117,114,118,101,121]⟩),(1,AV.str ⟨#[115,105,103,104,116]⟩)]=some (.agg [.str (wordB 0),.str (wordB 1)]):=by rfl
 simp only [go_sem,hb,zAd,AV.cells,AV.one,zL,zO,zJ,splice,zI,zH,and_self,Tryz.f179,zB,zD,zC,reduceIte,reduceCtorEq,zA]
 all_goals rfl
theorem row_loop (kk:Nat) (ns:List Int) (hn:ns.length≤4) (h:∀ n∈ns,i64 n) (H:List (Option Blk)) (Q:AQ)
  (hQ:Q (.exit 1) [(7,.str (rowB kk ns)),(31,.slice (ints ns) ns.length .exact),(32,.int .i64 ns.length),(33,.int .i64 ns.length),(34,.bool false)] ⟨H,0,[]⟩) :
  WC (E 44) (.loop l161_0) Q [(7,.str (wordB kk)),(31,.slice (ints ns) ns.length .exact),(32,.int .i64 ns.length),(33,.int .i64 0)] ⟨H,0,[]⟩:=by
 refine zDy ns.length (fun k=>[(7,.str (rowN (wordB kk) (ns.take k))),(31,.slice (ints ns) ns.length .exact),(32,.int .i64 ns.length),(33,.int .i64 k)]) (fun _=>⟨H,0,[]⟩) rfl rfl ?_
 intro k hk I hI
 by_cases h':k<ns.length
 ·have h1:(k:Int)<ns.length:=by omega
  have h2:0≤(k:Int)∧(k:Int)<ns.length:=by omega
  have h3:ns[k]? = some ns[k]:=zF h'
  have h4:IntKind.i64.wrap ((k:Int)+1)=(k+1:Nat):=wrap64 (by omega)
  have hm:=h _ (qB h')
  have h5:=zBa hm
  have h6:=zEz (ns.take k) (wordB kk) fun m hm=>h m (List.mem_of_mem_take hm)
  have h7:=wordB_size kk
  have h8:(ns.take k).length≤4:=by simp;omega
  have h9:sp.size+(itoaB ns[k]).size≤4611686018427387904:=by show 1+_≤_;omega
  have h10:(rowN (wordB kk) (ns.take k)).size+(sp ++ itoaB ns[k]).size≤4611686018427387904:=by rw [qI];show _+(1+_)≤_;omega
  simp only [go_sem,l161_0,zAa,h1,decide_true,h2,ints_get,h3,zAi,zX,zB,zD,zC,reduceIte,reduceCtorEq,zA]
  refine cp n162 (Itoa_pc _ hm.1 hm.2) (SubL.refl _) ?_
  have h11:binA T .add 9 (.str ⟨#[32]⟩) (.str (itoaB ns[k]))=some (.str (sp ++ itoaB ns[k])):=addS h9
  have h12:=addS h10
  simp only [go_sem,h11,h12,h4,zB,zD,zC,reduceIte,reduceCtorEq,zA]
  have:=hI h'
  rw [rowN_take _ _ _ h'] at this
  exact this
 ·have h1:¬ (k:Int)<ns.length:=by omega
  have e:k=ns.length:=by omega
  subst e
  simp only [go_sem,l161_0,zAa,h1,decide_false,yO,zB,zD,zC,reduceIte,reduceCtorEq,zA]
  exact hQ
theorem rowI_pc (n:Int) (h:i64 n):PC Tryz.prog 161 [.iface 3 (.int .i64 n)] (.pure (.str (rowB 0 [n]))):=by
 refine PC.of_empty (AC.run (E_ok _) mix Tryz.func161 m161 rfl rfl rfl (zE rfl) ?_) (by simp [bndL,AV.bnd]) rfl
 have hi:indexA T 228 (.agg [.str (wordB 0),.str (wordB 1)]) (.int .i64 0)=some (.str (wordB 0)):=rfl
 simp only [go_sem,zAc,zB,zD,zC,reduceIte,reduceCtorEq,zA]
 refine cp n179 words_pc (SubL.refl _) ?_
 simp only [go_sem,hi,zAa,zB,zD,zC,reduceIte,reduceCtorEq,zA]
 refine row_loop 0 [n] (zE rfl) (fun m hm=>by rw [yP] at hm;subst hm;exact h) _ _ ?_
 simp only [go_sem,Tryz.f161,zB,zD,zC,reduceIte,reduceCtorEq,zA]
theorem rowS_pc (x:Sight) (h:∀ n∈nsS x,i64 n):PC Tryz.prog 161 [.iface 85 (.agg (sgtC x))] (.pure (.str (rowB 1 (nsS x)))):=by
 refine PC.of_empty (AC.run (E_ok _) mix Tryz.func161 m161 rfl rfl rfl (zE rfl) ?_) (by simp [bndL,AV.bnd]) rfl
 have hi:indexA T 228 (.agg [.str (wordB 0),.str (wordB 1)]) (.int .i64 1)=some (.str (wordB 1)):=rfl
 simp only [go_sem,zAc,zAd,AV.cells,AV.one,zL,zO,zJ,splice,zI,zH,and_self,zB,zD,zC,reduceIte,reduceCtorEq,zA]
 refine cp n179 words_pc (SubL.refl _) ?_
 simp only [go_sem,hi,zAa,zB,zD,zC,reduceIte,reduceCtorEq,zA]
 refine row_loop 1 (nsS x) (zM _) h _ _ ?_
 simp only [go_sem,Tryz.f161,zB,zD,zC,reduceIte,reduceCtorEq,zA]
set_option maxHeartbeats 4000000
def strs (l:List ByteArray):List AV:=l.map .str
@[simp] theorem strs_len (l:List ByteArray):(strs l).length=l.length:=by simp [strs]
@[simp] theorem zCr (l:List ByteArray) (i:Nat):(strs l)[i]? = (l[i]?).map .str:=by simp [strs]
@[simp] theorem strs_bnd (n k:Nat) (l:List ByteArray):bndL n k (strs l)=true:=bndL_map _ (fun _=>rfl) l
@[go_sem] theorem bs_str1 (a:ByteArray):zAe T 171 1 [(0,.str a)]=some (.slice [.str a] 1 .exact):=rfl
@[go_sem] theorem isIface_int (k:IntKind):isIface (.int k)=false:=rfl
@[go_sem] theorem d_lsgt:descOf T 85=some ti85.desc:=rfl
@[go_sem] theorem i_lsgt:isIface ti85.desc=false:=rfl
theorem sr_str {K:AV→St→Prop} {hK:Hold K} {h:List (Option Blk)} {k n:Nat} {l:List ByteArray} (x:ByteArray) (hn:l.length=n) (h7:n≤1000000)
  (next:K (.slice (strs (l ++ [x])) (n+1) (tailN (k+1))) ⟨h,k+1,toksN (k+1)⟩):sr K hK (appendA T ⟨h,k,toksN k⟩ 171 (.slice (strs l) n (tailN k)) (.slice [.str x] 1 .exact)) ⟨h,k,toksN k⟩:=by
 subst hn
 have e:strs (l ++ [x])=strs l ++ [.str x]:=by simp [strs]
 rw [e] at next
 rw [zCs (e:=9) (ei:=ti9) (lx:=[.str x]) (nx:=1) rfl rfl (by decide) (by simp [heldA,ti9]) (by decide) rfl (by show (l.length+1) * 16≤_;omega) (by omega) (by simp [ti9])]
 cases k with
 | zero=>rw [tailN,sr_tok];exact next
 | succ k =>
  rw [tailN,zBu]
  refine ⟨zP, ?_⟩
  have:killTok (toksN (k+1)) (some k)=[]:=by simp [killTok,toksN]
  show K (.slice (strs l ++ [.str x]) (l.length+1) (.tok (k+1))) ⟨h,k+1+1,(k+1) :: killTok (toksN (k+1)) (some k)⟩
  rw [this];exact next
def headR (s:Survey):ByteArray:=rowB 0 [s.stations]
def sgR (s:Survey) (k:Nat):List ByteArray:=(s.sights.take k).map fun x=>rowB 1 (nsS x)
theorem sgR_succ (s:Survey) (k:Nat) (h:k<s.sights.length):sgR s (k+1)=sgR s k ++ [rowB 1 (nsS s.sights[k])]:=by
 unfold sgR;rw [qM h,qS];rfl
theorem sgR_len (s:Survey) (k:Nat) (h:k≤s.sights.length):(sgR s k).length=k:=by simp [sgR];omega
theorem rowsL_eq (s:Survey):rowsL s=headR s :: sgR s s.sights.length:=by simp [rowsL,headR,sgR]
structure PlainS (s:Survey):Prop where
 many:s.sights.length≤1000
 head:i64 s.stations
 each:∀ x∈s.sights,∀ n∈nsS x,i64 n
theorem PlainS.rows {s:Survey} (h:PlainS s):∀ r∈rowsL s,r.size≤100:=by
 have key:∀ k ns,ns.length≤4→(∀ n∈ns,i64 n)→(rowB k ns).size≤100:=by
  intro k ns h1 h2
  have a:=zEz ns (wordB k) h2
  have b:=wordB_size k
  show (rowN (wordB k) ns).size≤_
  omega
 intro r hr
 simp only [rowsL,yM,List.mem_map] at hr
 rcases hr with rfl | ⟨x,hx,rfl⟩
 ·exact key _ _ (by simp) fun m hm=>by rw [yP] at hm;subst hm;exact h.head
 ·exact key _ _ (zM _) (h.each x hx)
theorem Sv.plain {s:Survey} (h:Sv s):PlainS s where
 many:=by have:=h.many;omega
 head:=by have:=h.st;exact ⟨by omega,by omega⟩
 each:=fun x hx n hn=>by
  have hs:=h.sights x hx
  have h1:=hs.frm;have h2:=hs.to;have h3:=hs.rise;have h4:=hs.off;have:=h.st
  simp only [nsS,yM,yA,or_false] at hn
  rcases hn with rfl | rfl | rfl | rfl <;> exact ⟨by omega,by omega⟩
theorem text_row (r:ByteArray) (hr:r.size≤100) (C:Int) (hC:0≤C∧C≤22950000000000) (i:Nat) (hi:i<3000) (A B N J:AV) (H:List (Option Blk)) (m:Nat) (Q:AQ)
  (hQ:∀ k:Int,Q (.exit 4) [(3,A),(6,.int .i64 (C+rs r r.size * (i+1:Nat))),(29,B),(30,N),(31,J),(7,.int .i64 i),(8,.str r),(37,.int .i64 r.size),(38,.int .i64 k),(39,.bool false)] ⟨H,m,toksN m⟩) :
  WC (E 76) (.loop l122_2) Q [(3,A),(6,.int .i64 C),(29,B),(30,N),(31,J),(7,.int .i64 i),(8,.str r),(37,.int .i64 r.size),(38,.int .i64 0)] ⟨H,m,toksN m⟩:=by
 refine zDy r.size (fun k=>[(3,A),(6,.int .i64 (C+rs r k * (i+1:Nat))),(29,B),(30,N),(31,J),(7,.int .i64 i),(8,.str r),(37,.int .i64 r.size),(38,.int .i64 k)]) (fun _=>⟨H,m,toksN m⟩) (by simp only [rs,Int.zero_mul,Int.add_zero];rfl) rfl ?_
 intro k hk I2 hI2
 by_cases h'':k<r.size
 ·have g1:(k:Int)<r.size:=by omega
  have g4:IntKind.i64.wrap ((k:Int)+1)=(k+1:Nat):=wrap64 (by omega)
  have h4:IntKind.i64.wrap ((i:Int)+1)=(i+1:Nat):=wrap64 (by omega)
  have hbt:r[k]? = some r[k]:=by simp [h'']
  have hB:r[k].toNat≤255:=Nat.le_of_lt_succ (UInt8.toNat_lt _)
  have hrs:rs r (k+1)=rs r k+(r[k].toNat:Int) * (k+1:Nat):=by
   show rs r k+(((r[k]?).getD 0).toNat:Int) * _=_
   rw [hbt];rfl
  have hb2:=rs_bd100 r (k:=k) (by omega)
  have p1:0≤(r[k].toNat:Int) * (k+1:Nat):=yI (by omega) (by omega)
  have p2:(r[k].toNat:Int) * (k+1:Nat)≤255 * (100:Int):=Int.mul_le_mul (by omega) (by omega) (by omega) (by omega)
  have p3:0≤(r[k].toNat:Int) * (k+1:Nat) * (i+1:Nat):=yI p1 (by omega)
  have p4:(r[k].toNat:Int) * (k+1:Nat) * (i+1:Nat)≤25500 * (3000:Int):=Int.mul_le_mul (by omega) (by omega) (by omega) (by omega)
  have p5:0≤rs r k * (i+1:Nat):=yI hb2.1 (by omega)
  have p6:rs r k * (i+1:Nat)≤2550000 * (3000:Int):=Int.mul_le_mul hb2.2 (by omega) (by omega) (by omega)
  have w1:IntKind.i64.wrap (r[k].toNat:Int)=r[k].toNat:=wrap64 (by omega)
  have w2:IntKind.i64.wrap ((r[k].toNat:Int) * (k+1:Nat))=(r[k].toNat:Int) * (k+1:Nat):=wrap64 (by omega)
  have w3:IntKind.i64.wrap ((r[k].toNat:Int) * (k+1:Nat) * (i+1:Nat))=(r[k].toNat:Int) * (k+1:Nat) * (i+1:Nat):=wrap64 (by omega)
  have w4:IntKind.i64.wrap (C+rs r k * (i+1:Nat)+(r[k].toNat:Int) * (k+1:Nat) * (i+1:Nat))=C+rs r k * (i+1:Nat)+(r[k].toNat:Int) * (k+1:Nat) * (i+1:Nat):=wrap64 (by omega)
  have hz:0≤(k:Int):=by omega
  simp only [go_sem,l122_2,g1,decide_true,zB,zD,zC,reduceIte,reduceCtorEq,zA]
  simp only [go_sem,hz,hbt,convA,w1,w2,w3,w4,g4,h4,zAi,zB,zD,zC,reduceIte,reduceCtorEq,zA]
  have:=hI2 h''
  rw [hrs,Int.add_mul,← Int.add_assoc] at this
  exact this
 have g1:¬ (k:Int)<r.size:=by omega
 have e:k=r.size:=by omega
 subst e
 simp only [go_sem,l122_2,zAa,g1,decide_false,zB,zD,zC,reduceIte,reduceCtorEq,zA]
 exact hQ _
set_option maxHeartbeats 4000000
theorem joinTail_len (sep:ByteArray):∀ (R:List ByteArray) (n:Nat),(∀ r∈R,r.size≤n)→(Lib.joinTail sep.data.toList (R.map (·.data.toList))).length≤(n+sep.size) * R.length
 | [],n,_=>by simp [Lib.joinTail]
 | a :: R,n,h=>by
  have h1:=joinTail_len sep R n fun r hr=>h r (zR _ hr)
  have h2:a.data.toList.length≤n:=h a zP
  have h3:sep.data.toList.length=sep.size:=rfl
  simp only [Lib.joinTail,List.map_cons,List.flatten_cons,qC,zW,Nat.mul_add,yL] at h1 ⊢
  omega
theorem join_len (sep:ByteArray) (R:List ByteArray) (n:Nat) (h:∀ r∈R,r.size≤n):(Lib.join (R.map (·.data.toList)) sep.data.toList).length≤(n+sep.size) * R.length:=by
 cases R with
 | nil=>simp [Lib.join_nil]
 | cons a R =>
  have h1:=joinTail_len sep R n fun r hr=>h r (zR _ hr)
  have h2:a.data.toList.length≤n:=h a zP
  rw [List.map_cons,Lib.join_cons]
  simp only [qC,zW,Nat.mul_add,yL]
  omega
theorem text_pc (s:Survey) (h:PlainS s):PC Tryz.prog 122 [surA s] (.pure (.str (textB s))):=by
 have hm:=h.many
 refine PC.of_empty (AC.run (E_ok _) mix Tryz.func122 m122 rfl rfl rfl (zE rfl) ?_) (by simp [bndL,AV.bnd]) rfl
 simp only [go_sem,boxA,zB,zD,zC,reduceIte,reduceCtorEq,zA]
 refine cp n161 (rowI_pc s.stations h.head) (SubL.refl _) ?_
 simp only [go_sem,zAa,zB,zD,zC,reduceIte,reduceCtorEq,zA]
 refine wc_forE s.sights.length (fun k=>[(3,.slice (strs (headR s :: sgR s k)) (k+1) (tailN k)),(16,.slice (sgts s.sights) s.sights.length .unk),(17,.int .i64 s.sights.length),(18,.int .i64 (k:Nat))]) (fun k S => ∃ X,S=⟨[some (.cells (surC s))] ++ X,k,toksN k⟩) rfl ⟨[],rfl⟩ ?_
 rintro k hk S ⟨X,rfl⟩ I hI
 have c1:=fun q=>zAf X q
 have c2:=fun x B=>zAs X x B
 by_cases hkl:k<s.sights.length
 ·have k1:(k:Int)<s.sights.length:=by omega
  have k2:0≤(k:Int)∧(k:Int)<s.sights.length:=by omega
  have k3:k * 4+4≤(sgts s.sights).length:=by rw [zBf];omega
  have k4:IntKind.i64.wrap ((k:Int)+1)=(k+1:Nat):=wrap64 (by omega)
  have k5:=zCj s.sights k hkl
  have hp:=rowS_pc s.sights[k] (h.each _ (qB hkl))
  have hI:=hI hkl
  rw [sgR_succ s k hkl] at hI
  have hl:=sgR_len s k hk
  generalize s.sights[k]=x at *
  simp only [go_sem,l122_0,k1,decide_true,k2,k3,k5,zAi,and_self,c1,c2,zAd,AV.cells,AV.one,zL,zO,zJ,splice,zI,zH,zB,zD,zC,reduceIte,reduceCtorEq,zA]
  refine cp n161 hp (SubL.refl _) ?_
  simp only [go_sem,zAa,zB,zD,zC,reduceIte,reduceCtorEq,zA]
  refine sr_str (l:=headR s :: sgR s k) _ (by simp [hl]) (by omega) ?_
  simp only [go_sem,k4,zB,zD,zC,reduceIte,reduceCtorEq,zA]
  exact hI _ ⟨X ++ [some (.cells (sgtC x))],rfl⟩
 have k1:¬ (k:Int)<s.sights.length:=by omega
 have ek:k=s.sights.length:=by omega
 subst ek
 clear hI hk hkl
 have hRl:(rowsL s).length=s.sights.length+1:=by simp [rowsL]
 rw [← rowsL_eq,← hRl]
 have hR:=h.rows
 have hfin:textB s=joinB (rowsL s ++ [endB ((ck (rowsL s) (rowsL s).length).tmod 149)]) lf ++ lf:=rfl
 rw [hfin]
 clear hfin
 generalize s.sights.length=m at *
 generalize hRR:rowsL s=R at *
 obtain ⟨Z,hZ⟩:∃ Z,MC.loop l122_1=Z:=⟨_,rfl⟩
 simp only [go_sem,l122_0,k1,decide_false,zAa,zB,zD,zC,reduceIte,reduceCtorEq,zA]
 refine zDy R.length (fun i=>[(3,.slice (strs R) R.length (tailN m)),(6,.int .i64 (ck R i)),(29,.slice (strs R) R.length (tailN m)),(30,.int .i64 R.length),(31,.int .i64 (i:Nat))]) (fun _=>⟨[some (.cells (surC s))] ++ X,m,toksN m⟩) rfl rfl ?_
 intro i hi I hI
 by_cases h':i<R.length
 ·have h1:(i:Int)<R.length:=by omega
  have h2:0≤(i:Int)∧(i:Int)<R.length:=by omega
  have h3:R[i]? = some R[i]:=zF h'
  have h4:IntKind.i64.wrap ((i:Int)+1)=(i+1:Nat):=wrap64 (by omega)
  have hr:=hR _ (qB h')
  have hck:ck R (i+1)=ck R i+rs R[i] R[i].size * (i+1:Nat):=by
   show ck R i+rs (R.getD i _) (R.getD i _).size * _=_
   rw [zG,h3];rfl
  have hb:=ck_bd hR i (by omega)
  have hI:=hI h'
  rw [hck] at hI
  simp only [go_sem,l122_1,zAa,h1,decide_true,h2,zCr,h3,zAi,zX,zB,zD,zC,reduceIte,reduceCtorEq,zA]
  refine text_row R[i] hr (ck R i) ⟨hb.1,by omega⟩ i (by omega) _ _ _ _ _ m _ fun k => ?_
  simp only [go_sem,h4,zB,zD,zC,reduceIte,reduceCtorEq,zA]
  exact hI
 have h1:¬ (i:Int)<R.length:=by omega
 have e:i=R.length:=by omega
 subst e
 have hb:=ck_bd hR R.length (by omega)
 have hNR:R.length≤1001:=by omega
 generalize ck R R.length=C at *
 have e1:intOp .rem .i64 C 149=some (.int .i64 (C.tmod 149)):=rfl
 have hc0:0≤C.tmod 149:=Int.tmod_nonneg _ hb.1
 have hc1:C.tmod 149<149:=Int.tmod_lt_of_pos _ (by decide)
 generalize C.tmod 149=c at *
 have d1:c.tdiv 100=c / 100:=yJ hc0
 have d2:c.tdiv 10=c / 10:=yJ hc0
 have d3:(c.tdiv 10).tmod 10=c / 10 % 10:=by rw [d2];exact yK (by omega)
 have d4:c.tmod 10=c % 10:=yK hc0
 have e2:intOp .quo .i64 c 100=some (.int .i64 (c.tdiv 100)):=by
  show some (AV.int .i64 (IntKind.i64.wrap (c.tdiv 100)))=_
  rw [wrap64 (by omega)]
 have e3:intOp .quo .i64 c 10=some (.int .i64 (c.tdiv 10)):=by
  show some (AV.int .i64 (IntKind.i64.wrap (c.tdiv 10)))=_
  rw [wrap64 (by omega)]
 have e4:intOp .rem .i64 (c.tdiv 10) 10=some (.int .i64 ((c.tdiv 10).tmod 10)):=rfl
 have e5:intOp .rem .i64 c 10=some (.int .i64 (c.tmod 10)):=rfl
 have i1:i64 (c.tdiv 100):=⟨by omega,by omega⟩
 have i2:i64 ((c.tdiv 10).tmod 10):=⟨by omega,by omega⟩
 have i3:i64 (c.tmod 10):=⟨by omega,by omega⟩
 have z1:=zBa i1
 have z2:=zBa i2
 have z3:=zBa i3
 have s1:endW.size+(itoaB (c.tdiv 100)).size≤4611686018427387904:=by show 4+_≤_;omega
 have s2:(endW ++ itoaB (c.tdiv 100)).size+(itoaB ((c.tdiv 10).tmod 10)).size≤4611686018427387904:=by rw [qI];show 4+_+_≤_;omega
 have s3:(endW ++ itoaB (c.tdiv 100) ++ itoaB ((c.tdiv 10).tmod 10)).size+(itoaB (c.tmod 10)).size≤4611686018427387904:=by rw [qI,qI];show 4+_+_+_≤_;omega
 have hend:(endB c).size≤100:=by unfold endB;rw [qI,qI,qI];show 4+_+_+_≤_;omega
 have a1:binA T .add 9 (.str ⟨#[101,110,100,32]⟩) (.str (itoaB (c.tdiv 100)))=some (.str (endW ++ itoaB (c.tdiv 100))):=addS s1
 have a2:=addS s2
 have a3:=addS s3
 simp only [go_sem,l122_1,zAa,h1,decide_false,e1,e2,e3,e4,e5,zB,zD,zC,reduceIte,reduceCtorEq,zA]
 refine cp n162 (Itoa_pc _ i1.1 i1.2) (SubL.refl _) ?_
 simp only [go_sem,e1,e2,e3,e4,e5,a1,zB,zD,zC,reduceIte,reduceCtorEq,zA]
 refine cp n162 (Itoa_pc _ i2.1 i2.2) (SubL.refl _) ?_
 simp only [go_sem,e1,e2,e3,e4,e5,a2,zB,zD,zC,reduceIte,reduceCtorEq,zA]
 refine cp n162 (Itoa_pc _ i3.1 i3.2) (SubL.refl _) ?_
 simp only [go_sem,e1,e2,e3,e4,e5,a3,zAa,zB,zD,zC,reduceIte,reduceCtorEq,zA]
 refine sr_str (l:=R) (endB c) rfl (by omega) ?_
 simp only [go_sem,zB,zD,zC,reduceIte,reduceCtorEq,zA]
 have hR2:∀ r∈R ++ [endB c],r.size≤100:=by
  intro r hr
  rcases List.mem_append.1 hr with hr | hr
  ·exact hR r hr
  ·simp at hr;subst hr;exact hend
 have hlen:(R ++ [endB c]).length=R.length+1:=by simp
 have hj:=join_len lf (R ++ [endB c]) 100 hR2
 have hj2:101 * (R ++ [endB c]).length≤101 * 3000:=Nat.mul_le_mul_left _ (by omega)
 have hj3:lf.size=1:=rfl
 rw [hj3] at hj
 have hjp:=Join_pc (R ++ [endB c]) lf (tailN (m+1)) (by omega) (by omega)
 rw [hlen] at hjp
 refine cp n163 hjp (SubL.refl _) ?_
 have hjs:(joinB (R ++ [endB c]) lf).size+lf.size≤4611686018427387904:=by
  have:(joinB (R ++ [endB c]) lf).size=(Lib.join ((R ++ [endB c]).map (·.data.toList)) lf.data.toList).length:=by simp [joinB,ByteArray.size]
  omega
 have a4:binA T .add 9 (.str (joinB (R ++ [endB c]) lf)) (.str ⟨#[10]⟩)=some (.str (joinB (R ++ [endB c]) lf ++ lf)):=addS hjs
 simp only [go_sem,a4,Tryz.f122,zB,zD,zC,reduceIte,reduceCtorEq,zA]
set_option maxHeartbeats 2000000

end Go.Av.Lx
end

/- Part 32 of the proof. -/
import Derived.Test.YtclmbbofpaecaaaGreatDoorVn21
import Derived.Test.YtclmbbofpaecaaaGreatDoorRows
import Derived.ProofKit
import Derived.LaidMore
import Derived.OpenShut
import Derived.Deep.Slices
import Derived.Stop.Joined
import Derived.ChangeOld
import Derived.SizedLaws
import Derived.Test.YtclmbbofpaecaaaGreatDoorTie
import Derived.Test.YtclmbbofpaecaaaGreatDoorCards
import Derived.Lib.LaidTab
import Derived.Lib.ItoaNum
import Derived.Lay
import Derived.LaidOnce
import Derived.MakeChecks
import Derived.SevenTiedAt
set_option linter.all false
set_option linter.unusedVariables false
set_option linter.unusedSimpArgs false
set_option linter.unusedSectionVars false
open Array renaming getElem?_eq_getElem → qA
open Bool renaming and_eq_true → zT, not_eq_true' → yE
open List renaming getElem?_eq_getElem → zF, getD_eq_getElem?_getD → zG, all_cons → zL, getElem?_eq_none → zN, mem_cons_self → zP, getElem?_append_right → zY, getElem?_append_left → qJ, getElem?_map → qK, getElem?_range → qR, flatMap_cons → qW
open Nat renaming le_refl → zM, lt_or_ge → zU
open Option renaming bind_some → qT
section
set_option maxRecDepth 100000
namespace Go.Av.Lx
open Go.Lv (Sight Survey Leg Tun Try Stp)
open Go Go.Av Go.Av.Tb Go.Av.Fx Go.Proofs Go.ChangeShapes Go.WideShapes Go.RowKit
def cW (W:World):Cx:=
 {K:=fun b o=>W.cell? ⟨b,o,none⟩,μ:=fun _=>none,τ:=fun _=>none,X:=fun _ _=>none
  XO:=fun b=>match W.heap[b]? with
   | some (.cells _ _ _)=>none
   | o=>o
  sz:=W.heap.size,FZ:=⟨fun _ _=>false,W⟩ }
structure TabOk (W:World):Prop where
 tab:∀ i,i<20→W.cell? ⟨tabB,i,none⟩=some (tabV i)
 tsh:∃ t,W.shape? tabB=some (t,20)
theorem cW_st {W:World} (h:TabOk W):StRel (cW W) St.empty W where
 sz:=zM _
 tab:=h.tab
 tsh:=h.tsh
 fr:=Frm.refl W
 K:=fun _ _ _ e=>e
 X:=fun _ _ _ e=>by cases e
 XO:=fun b ob e=>by
  simp only [cW] at e
  split at e
  ·cases e
  ·rename_i hn
   exact ⟨e,fun cs t f he=>hn cs t f (by rw [e,he])⟩
 F:=fun _ _ e=>by cases e
 dom:=fun _ _ e=>by cases e
 tdom:=fun _ _ e=>by cases e
 blk:=fun i B e=>by simp [St.empty] at e
 inj:=fun i j Bi Bj n e=>by simp [St.empty] at e
 tok:=fun k hk=>by cases hk
 tinj:=fun k k' b lo hi lo' hi' hk=>by cases hk
 tblk:=fun k i b lo hi B hk=>by cases hk
 tfr:=fun k b lo hi hk=>by cases hk
structure Keep (W W':World):Prop where
 os:W'.os=W.os
 out:W'.output=W.output
 block:∀ k,k<W.heap.size→W'.heap[k]? = W.heap[k]?
theorem keep_of {W W':World} {c':Cx} {S':St} (hle:(cW W).le c') (h:StRel c' S' W'):Keep W W':=by
 have hfr:Go.Av.Frm W W':=by have:=h.fr;rw [hle.FZ] at this;exact this
 refine ⟨hfr.os,hfr.out,fun k hk => ?_⟩
 have hob:W.heap[k]? = some W.heap[k]:=qA hk
 rw [hob]
 cases ho:W.heap[k] with
 | cells cs t fr =>
  rw [ho] at hob
  obtain ⟨cs',e1,e2⟩:=hfr.blk k cs t fr hob
  rw [e1]
  congr 2
  apply Array.ext
  ·exact e2
  ·intro j h1 h2
   have hc:W.cell? ⟨k,j,none⟩=some cs[j]:=by
    unfold World.cell?
    simp [hob,h2]
   have:=h.K k j _ (hle.K k j _ hc)
   unfold World.cell? at this
   simp [e1,h1] at this
   exact this
 | _ =>
  rw [ho] at hob
  exact (h.XO k _ (by rw [hle.XO];simp only [cW,hob])).1
theorem Keep.keptBut {W W':World} (h:Keep W W') (may:MemPlace→Prop):W.keptBut W' may:=by
 refine ⟨h.os,h.out,fun i hi => ?_⟩
 rw [h.block i hi,qA hi]
 cases W.heap[i] with
 | cells c t fr=>exact ⟨rfl,rfl,rfl,fun _ _=>rfl⟩
 | map es clock=>exact .inr ⟨rfl,rfl⟩
 | _=>rfl
theorem Keep.same {W W':World} (h:Keep W W') {p:MemPlace} (hp:p.block<W.heap.size):W.sameAt W' p:=by
 cases p with
 | cell b o=>exact World.cell?_of_block (w:=W) (h.block b hp)
 | map b=>exact h.block b hp
theorem Keep.trod {H:Type} {enc:TypeId × Value→H} {P:Program} {t:TypeId} (hl:laidOutB P=true) (hr:P.readableRec t=true) (hrow:t<P.types.size) {W W':World} {v:Value} {d:DataW H} {ps:List MemPlace}
  (h:DataW.Trod enc P W 0 (fun _=>true) true t v d ps) (hb:Keep W W') (hlt:∀ x∈ps,x.block<W.heap.size) :
  DataW.Trod enc P W' 0 (fun b=>decide (b<W.heap.size)) true t v d ps:=
 WideElems.Trod_stays hl hr hrow h (fun x hx=>hb.same (hlt x hx)) (fun x hx=>by simpa using hlt x hx)
theorem law_calls {f:FuncId} {args:List AV} {W:World} {vs:List Value} (h:PC Tryz.prog f args (.pure (.bool true))) (ht:TabOk W) (hl:LRel (cW W) args vs) :
  Calls Tryz.prog f vs.toArray W fun e W'=>e=.returned (.bool true)∧Keep W W':=by
 refine (h (cW W) St.empty W vs (cW_st ht) hl).mono ?_
 rintro e W' ⟨x,rfl,c',hle,_,_,hst,hv⟩
 refine ⟨?_,keep_of hle hst⟩
 cases hv;rfl
theorem cells_of {W:World} {b off:Nat} {l:List AV} {n cap:Nat} (hc:n≤cap) (h:∀ j x,l[j]? = some x → ∃ v,W.cell? ⟨b,off+j,none⟩=some v∧VRel (cW W) x v):VRel (cW W) (.slice l n .unk) (.slice (some ⟨b,off,none⟩) n cap):=by
 have get:∀ j (hj:j<l.length),∃ v,W.cell? ⟨b,off+j,none⟩=some v∧VRel (cW W) l[j] v:=fun j hj=>h j _ (zF hj)
 refine .slice l n .unk b off cap (fun j=>(W.cell? ⟨b,off+j,none⟩).getD default) hc (fun j hj => ?_) (fun j x hx => ?_) (fun e=>by cases e) (fun k e=>by cases e)
 ·obtain ⟨v,h1,h2⟩:=get j hj
  show W.cell? _=some ((W.cell? _).getD default)
  rw [h1];rfl
 ·obtain ⟨v,h1,h2⟩:=h j x hx
  rw [h1];exact h2
theorem add_at (b off i:Nat):(⟨b,off,none⟩:Addr).add i=⟨b,off+i,none⟩:=add_plain b off i
theorem has_spot {W:World} {base:Nat} {t e:TypeId} {a:Addr} {len cap:Nat} (ht:Tryz.prog.underlying t=some (.slice e)) (h:Cell.okWide Tryz.prog W .any base t (.slice (some a) len cap)):a.spot=none:=by
 simp only [Cell.okWide,ht,Cell.ok] at h
 exact h.2.2.2.1
section
variable {H:Type} {enc:TypeId × Value→H} {W:World} {base:Nat} {fuel:Nat} {x:DataW H × List MemPlace}
theorem av_ints {v:Value} (h:DataW.trod enc Tryz.prog W 0 (fun _=>true) true fuel 32 [v]=some x) (hw:∀ n∈x.1.weights Tryz.prog 32,n≤reachBytes) (hok:Cell.okWide Tryz.prog W .any base 32 v):∃ l:List Int,VRel (cW W) (sl l) v∧okL l.length:=by
 rcases open_ints Tryz.underlying32 Tryz.underlying3 (by kernel_rfl) h with ⟨hcs,_⟩ | ⟨a,len,cap,zs,hcs,_,hl,hm,hz,hx,hcell,_⟩
 ·cases hcs
  exact ⟨[],.sliceNil .unk (fun k e=>by cases e),Nat.zero_lt_succ _⟩
 ·cases hcs
  have hsp:=has_spot Tryz.underlying32 hok
  obtain ⟨b,off,spot⟩:=a
  simp only at hsp
  subst hsp
  have hz:zs.length=cap:=by simpa using hz
  have hlen:(zs.take len).length=len:=by rw [List.length_take];omega
  have hsize:len<9223372036854775807:=by
   subst hx
   have h8:Tryz.prog.bytesOf 3=8:=by kernel_rfl
   have:=hw (((lits .i64 (zs.take len):List (DataW H)).length+(lits .i64 (zs.drop len):List (DataW H)).length) * 8) (by
    simp only [DataW.weights,Tryz.underlying32,h8]
    exact zP)
   have e1:(lits .i64 (zs.take len):List (DataW H)).length=len:=by simp [lits];omega
   rw [e1] at this
   unfold reachBytes at this
   omega
  refine ⟨zs.take len, ?_,by rw [hlen];exact hsize⟩
  show VRel (cW W) (.slice (ints (zs.take len)) (zs.take len).length .unk) _
  rw [hlen]
  refine cells_of hl fun j y hy => ?_
  rw [Go.Av.Fx.ints_get] at hy
  have hj:j<(zs.take len).length:=by
   rcases zU j (zs.take len).length with h' | h'
   ·exact h'
   ·rw [zN h'] at hy;cases hy
  rw [zF hj] at hy
  cases hy
  have hj2:j<zs.length:=by omega
  have hc:=hcell j hj2
  rw [add_at] at hc
  refine ⟨_,hc, ?_⟩
  rw [List.getElem_take,zG,zF hj2]
  exact .int _ _
theorem zEb {v:Value} (h:DataW.trod enc Tryz.prog W 0 (fun _=>true) true fuel 3 [v]=some x):∃ n:Int,v=.int .i64 n∧(Lit.int .i64 n).wf=true:=by
 obtain ⟨n,hcs,_,hw⟩:=DataW.trod_int Tryz.underlying3 h
 cases hcs
 exact ⟨n,rfl,hw⟩
theorem flat_get {α:Type} {f:α→List AV} {z:Nat} (hz:∀ a,(f a).length=z):∀ (l:List α) (j:Nat) (y:AV),(l.flatMap f)[j]? = some y → ∃ (i q:Nat) (hi:i<l.length),j=i * z+q∧q<z∧(f l[i])[q]? = some y
 | [],j,y,h=>by simp at h
 | c :: l,j,y,h=>by
  rw [qW] at h
  by_cases hj:j<z
  ·rw [qJ (by rw [hz];exact hj)] at h
   exact ⟨0,j,by simp,by omega,hj,h⟩
  ·rw [zY (by rw [hz];omega),hz] at h
   obtain ⟨i,q,hi,e1,e2,e3⟩:=flat_get hz l _ y h
   refine ⟨i+1,q,by simpa using hi, ?_,e2,e3⟩
   rw [Nat.add_mul];omega
theorem av_rows {α:Type} (dflt:α) (f:α→List AV) {z by':Nat} (hz:∀ a,(f a).length=z) {t e:TypeId} (hu:Tryz.prog.underlying t=some (.slice e)) (hc:Tryz.prog.cellsOf e=z) (h8:Tryz.prog.bytesOf e=by') (hb:1≤by')
  (one:∀ {n:Nat} {y:DataW H × List MemPlace} {cs:List Value},DataW.trod enc Tryz.prog W 0 (fun _=>true) true n e cs=some y → ∃ a:α,LRel (cW W) (f a) cs)
  {v:Value} (h:DataW.trod enc Tryz.prog W 0 (fun _=>true) true fuel t [v]=some x) (hw:∀ n∈x.1.weights Tryz.prog t,n≤reachBytes) (hok:Cell.okWide Tryz.prog W .any base t v):∃ l:List α,VRel (cW W) (.slice (l.flatMap f) l.length .unk) v∧okL l.length:=by
 rcases Go.Deep.open_slice hu h with ⟨hcs,_⟩ | ⟨a,len,cap,m,n,D,Pl,hcs,_,hl,hm,hmm,hxx,hx⟩
 ·cases hcs
  exact ⟨[],.sliceNil .unk (fun k e=>by cases e),Nat.zero_lt_succ _⟩
 ·cases hcs
  have hsp:=has_spot hu hok
  obtain ⟨b,off,spot⟩:=a
  simp only at hsp
  subst hsp
  have hmc:m=cap:=by simpa using hmm
  rw [hc] at hx
  have each:∀ i,i<len → ∃ c:α,∀ (q:Nat) (y:AV),(f c)[q]? = some y → ∃ u,W.cell? ⟨b,off+(i * z+q),none⟩=some u∧VRel (cW W) y u:=by
   intro i hi
   obtain ⟨cs',h1,h2⟩:=hx i (by omega)
   obtain ⟨c,hr⟩:=one h2
   obtain ⟨_,hcl,hcell⟩:=World.cells?_some h1
   refine ⟨c,fun q y hy => ?_⟩
   obtain ⟨u,hu',hru⟩:=hr.get hy
   have hq:q<cs'.length:=by
    rcases zU q cs'.length with h' | h'
    ·exact h'
    ·rw [zN h'] at hu';cases hu'
   have hcq:=hcell q (by omega)
   rw [add_at,add_at,Nat.add_assoc] at hcq
   refine ⟨u, ?_,hru⟩
   rw [hcq]
   exact hu'
  obtain ⟨F,hF⟩:∃ F:Nat→α,∀ i,i<len → ∀ (q:Nat) (y:AV),(f (F i))[q]? = some y → ∃ u,W.cell? ⟨b,off+(i * z+q),none⟩=some u∧VRel (cW W) y u:=
   ⟨fun i=>if hi:i<len then (each i hi).choose else dflt,fun i hi=>by
    show ∀ (q:Nat) (y:AV),(f (if hi:i<len then (each i hi).choose else dflt))[q]? = some y→_
    rw [dif_pos hi];exact (each i hi).choose_spec⟩
  have hlen:((List.range len).map F).length=len:=by simp
  have hsize:len<9223372036854775807:=by
   subst hxx
   have:=hw ((((List.range len).map D).length+((List.range (m - len)).map fun j=>D (len+j)).length) * by') (by
    simp only [DataW.weights,hu,h8]
    exact zP)
   rw [List.length_map,List.length_range] at this
   have h3:len * 1≤(len+((List.range (m - len)).map fun j=>D (len+j)).length) * by':=Nat.mul_le_mul (by omega) hb
   unfold reachBytes at this
   omega
  refine ⟨(List.range len).map F, ?_,by rw [hlen];exact hsize⟩
  rw [hlen]
  refine cells_of hl fun j y hy => ?_
  obtain ⟨i,q,hi,rfl,_,e3⟩:=flat_get hz _ j y hy
  rw [hlen] at hi
  have e4:((List.range len).map F)[i]=F i:=by simp
  rw [e4] at e3
  exact hF i hi q y e3
theorem av_sight {n:Nat} {y:DataW H × List MemPlace} {cs:List Value} (h:DataW.trod enc Tryz.prog W 0 (fun _=>true) true n 85 cs=some y):∃ a:Sight,LRel (cW W) (sgtC a) cs:=by
 obtain ⟨xs,n,_,_,hl,hlen,hf⟩:=DataW.trod_struct Tryz.underlying85 h
 have hc:Tryz.prog.cellsOf 85=4:=by kernel_rfl
 have hc3:Tryz.prog.cellsOf 3=1:=by kernel_rfl
 have hc4:Tryz.prog.cellsOf 4=1:=by kernel_rfl
 rw [hc] at hl
 match cs,hl with
 | [a0,a1,a2,a3],_ =>
  match xs,hlen with
  | [y0,y1,y2,y3],_ =>
   have h0:DataW.trod enc Tryz.prog W 0 (fun _=>true) true n 3 (([a0,a1,a2,a3].drop 0).take (Tryz.prog.cellsOf 3))=some y0:=hf 0 _ rfl
   rw [hc3] at h0
   have h1:DataW.trod enc Tryz.prog W 0 (fun _=>true) true n 3 (([a0,a1,a2,a3].drop 1).take (Tryz.prog.cellsOf 3))=some y1:=hf 1 _ rfl
   rw [hc3] at h1
   have h2:DataW.trod enc Tryz.prog W 0 (fun _=>true) true n 3 (([a0,a1,a2,a3].drop 2).take (Tryz.prog.cellsOf 3))=some y2:=hf 2 _ rfl
   rw [hc3] at h2
   have h3:DataW.trod enc Tryz.prog W 0 (fun _=>true) true n 3 (([a0,a1,a2,a3].drop 3).take (Tryz.prog.cellsOf 3))=some y3:=hf 3 _ rfl
   rw [hc3] at h3
   obtain ⟨p0,rfl,_⟩:=zEb h0
   obtain ⟨p1,rfl,_⟩:=zEb h1
   obtain ⟨p2,rfl,_⟩:=zEb h2
   obtain ⟨p3,rfl,_⟩:=zEb h3
   exact ⟨⟨p0,p1,p2,p3⟩,(LRel.cons (.int _ _) (LRel.cons (.int _ _) (LRel.cons (.int _ _) (LRel.cons (.int _ _) (LRel.nil _)))))⟩
theorem av_tun {n:Nat} {y:DataW H × List MemPlace} {cs:List Value} (h:DataW.trod enc Tryz.prog W 0 (fun _=>true) true n 68 cs=some y):∃ a:Tun,LRel (cW W) (tunC a) cs:=by
 obtain ⟨xs,n,_,_,hl,hlen,hf⟩:=DataW.trod_struct Tryz.underlying68 h
 have hc:Tryz.prog.cellsOf 68=5:=by kernel_rfl
 have hc3:Tryz.prog.cellsOf 3=1:=by kernel_rfl
 have hc4:Tryz.prog.cellsOf 4=1:=by kernel_rfl
 rw [hc] at hl
 match cs,hl with
 | [a0,a1,a2,a3,a4],_ =>
  match xs,hlen with
  | [y0,y1,y2,y3,y4],_ =>
   have h0:DataW.trod enc Tryz.prog W 0 (fun _=>true) true n 3 (([a0,a1,a2,a3,a4].drop 0).take (Tryz.prog.cellsOf 3))=some y0:=hf 0 _ rfl
   rw [hc3] at h0
   have h1:DataW.trod enc Tryz.prog W 0 (fun _=>true) true n 3 (([a0,a1,a2,a3,a4].drop 1).take (Tryz.prog.cellsOf 3))=some y1:=hf 1 _ rfl
   rw [hc3] at h1
   have h2:DataW.trod enc Tryz.prog W 0 (fun _=>true) true n 3 (([a0,a1,a2,a3,a4].drop 2).take (Tryz.prog.cellsOf 3))=some y2:=hf 2 _ rfl
   rw [hc3] at h2
   have h3:DataW.trod enc Tryz.prog W 0 (fun _=>true) true n 3 (([a0,a1,a2,a3,a4].drop 3).take (Tryz.prog.cellsOf 3))=some y3:=hf 3 _ rfl
   rw [hc3] at h3
   have h4:DataW.trod enc Tryz.prog W 0 (fun _=>true) true n 3 (([a0,a1,a2,a3,a4].drop 4).take (Tryz.prog.cellsOf 3))=some y4:=hf 4 _ rfl
   rw [hc3] at h4
   obtain ⟨p0,rfl,_⟩:=zEb h0
   obtain ⟨p1,rfl,_⟩:=zEb h1
   obtain ⟨p2,rfl,_⟩:=zEb h2
   obtain ⟨p3,rfl,_⟩:=zEb h3
   obtain ⟨p4,rfl,_⟩:=zEb h4
   exact ⟨⟨p0,p1,p2,p3,p4⟩,(LRel.cons (.int _ _) (LRel.cons (.int _ _) (LRel.cons (.int _ _) (LRel.cons (.int _ _) (LRel.cons (.int _ _) (LRel.nil _))))))⟩
end
theorem cells_lone {v:Value} (h:∀ cs,v ≠ .agg cs):v.cells.toList=[v]:=by
 cases v <;> first | rfl | exact absurd rfl (h _)
section
variable {H:Type} {enc:TypeId × Value→H} {W:World} {base:Nat}
theorem av_intsA {v:Value} {d:DataW H} {ps:List MemPlace} (h:DataW.Trod enc Tryz.prog W 0 (fun _=>true) true 32 v d ps) (hw:∀ n∈d.weights Tryz.prog 32,n≤reachBytes) (hok:Value.okWide Tryz.prog W .any base 32 v) :
  ∃ l:List Int,VRel (cW W) (sl l) v∧okL l.length:=by
 obtain ⟨fuel,h⟩:=h
 simp only [Value.okWide,Tryz.underlying32] at hok
 rw [cells_lone (fun cs e=>by subst e;simp [Tryz.underlying32,Cell.okWide,Cell.ok] at hok)] at h
 exact av_ints h hw hok
theorem av_tunA {v:Value} {d:DataW H} {ps:List MemPlace} (h:DataW.Trod enc Tryz.prog W 0 (fun _=>true) true 68 v d ps) (hw:∀ n∈d.weights Tryz.prog 68,n≤reachBytes) (hok:Value.okWide Tryz.prog W .any base 68 v) :
  ∃ c:Tun,VRel (cW W) (.agg (tunC c)) v∧True:=by
 obtain ⟨fuel,h⟩:=h
 simp only [Value.okWide,Tryz.underlying68] at hok
 obtain ⟨cs,rfl,hsz,_⟩:=hok
 obtain ⟨c,hc⟩:=av_tun h
 exact ⟨c,VRel.mk_agg hc,trivial⟩
theorem av_survey {v:Value} {d:DataW H} {ps:List MemPlace} (h:DataW.Trod enc Tryz.prog W 0 (fun _=>true) true 24 v d ps) (hw:∀ n∈d.weights Tryz.prog 24,n≤reachBytes) (hok:Value.okWide Tryz.prog W .any base 24 v) :
  ∃ s:Survey,VRel (cW W) (surA s) v∧okL s.sights.length:=by
 obtain ⟨fuel,h⟩:=h
 simp only [Value.okWide,Tryz.underlying24] at hok
 obtain ⟨cs,rfl,hsz,ts,hts,_,hrow⟩:=hok
 have hc:Tryz.prog.cellsOf 24=2:=by kernel_rfl
 rw [hc] at hsz
 obtain ⟨c0,c1,rfl⟩:∃ c0 c1,cs=#[c0,c1]:=by
  obtain ⟨l⟩:=cs
  match l,hsz with
  | [c0,c1],_=>exact ⟨c0,c1,rfl⟩
 have hts':Go.Program.cellTypes Tryz.prog Tryz.prog.depth 24=some [3,22]:=by kernel_rfl
 rw [hts'] at hts
 cases hts
 have k1:Cell.okWide Tryz.prog W .any base 22 c1:=by
  obtain ⟨u,e,hu⟩:=hrow 1 c1 rfl
  cases e;exact hu
 obtain ⟨xs,n,_,hd,hl,hlen,hf⟩:=DataW.trod_struct Tryz.underlying24 h
 have hc3:Tryz.prog.cellsOf 3=1:=by kernel_rfl
 have hc22:Tryz.prog.cellsOf 22=1:=by kernel_rfl
 match xs,hlen with
 | [y0,y1],_ =>
  have h0:DataW.trod enc Tryz.prog W 0 (fun _=>true) true n 3 (([c0,c1].drop 0).take (Tryz.prog.cellsOf 3))=some y0:=hf 0 _ rfl
  have h1:DataW.trod enc Tryz.prog W 0 (fun _=>true) true n 22 (([c0,c1].drop 1).take (Tryz.prog.cellsOf 22))=some y1:=hf 1 _ rfl
  rw [hc3] at h0
  rw [hc22] at h1
  cases hd
  have hw':∀ (j:Nat) (t:TypeId) (d:DataW H),[3,22][j]? = some t→[y0.1,y1.1][j]? = some d → ∀ n∈d.weights Tryz.prog t,n≤reachBytes:=fun j t d ht hd n hn=>by
   refine hw n ?_
   simp only [DataW.weights,Tryz.underlying24]
   exact DataW.weights_mem_each (ts:=[3,22]) ht hd n hn
  obtain ⟨p,rfl,_⟩:=zEb h0
  obtain ⟨g,hg,og⟩:=av_rows (z:=4) (by':=32) (⟨0,0,0,0⟩:Sight) sgtC (fun _=>rfl) Tryz.underlying22 (by kernel_rfl) (by kernel_rfl) (by decide) (fun h=>av_sight h) h1 (hw' 1 _ _ rfl rfl) k1
  refine ⟨⟨p,g⟩,VRel.mk_agg ?_,og⟩
  exact LRel.cons (.int _ _) (LRel.cons hg (LRel.nil _))
end
end Go.Av.Lx
end
section
namespace Go.Proofs.YtclmbbofpaecaaaGreatDoor
open Go Go.Av Go.ChangeShapes Go.WideShapes Go.ChangeAt Go.RowKit
set_option maxRecDepth 100000
theorem own:ownKnob Tryz.prog.godebug=none:=by kernel_rfl
theorem laidOut:laidOutB Tryz.prog=true:=by kernel_rfl
def tabs:List (String × DataW Unit):=[("math/bits.deBruijn32tab", Rows.laid_math_bits_deBruijn32tab),("math/bits.deBruijn64tab", Rows.laid_math_bits_deBruijn64tab),("internal/strconv.uint64pow10", Rows.laid_internal_strconv_uint64pow10),("unicode/utf8.acceptRanges", Rows.laid_unicode_utf8_acceptRanges),("unicode/utf8.first", Rows.laid_unicode_utf8_first)]
theorem pow_data:(Rows.laid_internal_strconv_uint64pow10:DataW Unit)=Lib.tabData .u64 Lib.pow10Tab:=by kernel_rfl
theorem pow_name:Tryz.prog.globalNamed "internal/strconv.uint64pow10" = some 0:=by kernel_rfl
theorem pow_type:(Tryz.prog.globals[0]?).map (·.type)=some 266:=by kernel_rfl
theorem tab_ok {W:World} (h:laidMetH Tryz.prog tabs W):Go.Av.Lx.TabOk W:=by
 rw [MakeChecks.laidMetH_plain _ _ _ (by kernel_rfl)] at h
 obtain ⟨ps,⟨_,_,_,_,_,_,_,_,_,_,⟨_,_,_,_,_,_,_,_,_,_,⟨g,t,cs,fuel,p,q,hg,ht,hv,hd,_,_⟩,_⟩,_⟩,_,_⟩:=h
 obtain rfl:=Option.some.inj (pow_name.symm.trans hg)
 obtain rfl:=Option.some.inj (pow_type.symm.trans ht)
 rw [pow_data] at hd
 have hcs:=Lib.cells_of_tab (P:=Tryz.prog) (t:=266) (e:=245) (n:=20) (k:=.u64) (by kernel_rfl) (by kernel_rfl) (by kernel_rfl) (by kernel_rfl) hd
 have hlen:Lib.pow10Tab.length=20:=by simp [Lib.pow10Tab]
 have hTab:Lib.TabIs Tryz.prog W "internal/strconv.uint64pow10" .u64 Lib.pow10Tab:=by
  unfold Lib.TabIs
  rw [hv,← hcs]
 refine ⟨fun i hi => ?_, ?_⟩
 ·have:=hTab.cell pow_name i (by rw [hlen];exact hi)
  rw [show (Lib.pow10Tab.getD i 0:Int)=((10 ^ i:Nat):Int) by
   unfold Lib.pow10Tab
   rw [zG,qK,qR hi];rfl] at this
  exact this
 ·unfold World.var? at hv
  rw [pow_name,qT] at hv
  split at hv
  ·rename_i cs' t' fr e
   cases hv
   refine ⟨t', ?_⟩
   unfold World.shape?
   show (match W.heap[0]? with
    | some (.cells c elem _)=>some (elem,c.size)
    | _=>none)=_
   rw [e]
   have:cs.size=20:=by
    have:=congrArg List.length hcs
    simpa [hlen] using this
   simp [this]
  ·cases hv
def initS:String := "harness 6d35de1e401f8de53127ac5c61a8cef0ec1bad88697796d15747f2a67ee9c756 cut at quinaria/quinarialaw01.LevelBounds quinaria/quinarialaw01.LevelErrors quinaria/quinarialaw01.LevelFalls quinaria/quinarialaw01.LevelMeets quinaria/quinarialaw01.LevelTakes quinaria/quinarialaw01.LevelDrops quinaria/quinarialaw01.LevelMore quinaria/quinarialaw01.LevelEven quinaria/quinarialaw01.LevelNarrow quinaria/quinarialaw01.LevelPrints quinaria/quinarialaw01.LevelReads quinaria/quinarialaw01.LevelSpoilt quinaria/quinarialaw01.LevelLowest quinaria/quinarialaw01.LevelSurely quinaria/quinarialaw01.LevelHeads quinaria/quinarialaw01.LevelTrue quinaria/quinarialaw01.LevelRings quinaria/quinarialaw01.LevelFits quinaria/quinarialaw01.LevelFewest quinaria/quinarialaw01.LevelClosed"
def initL:List Char:=[.ofNat 104,.ofNat 97,.ofNat 114,.ofNat 110,.ofNat 101,.ofNat 115,.ofNat 115,.ofNat 32,.ofNat 54,.ofNat 100,.ofNat 51,.ofNat 53,.ofNat 100,.ofNat 101,.ofNat 49,.ofNat 101,.ofNat 52,.ofNat 48,.ofNat 49,.ofNat 102,.ofNat 56,.ofNat 100,.ofNat 101,.ofNat 53,.ofNat 51,.ofNat 49,.ofNat 50,.ofNat 55,.ofNat 97,.ofNat 99,.ofNat 53,.ofNat 99,.ofNat 54,.ofNat 49,.ofNat 97,.ofNat 56,.ofNat 99,.ofNat 101,.ofNat 102,.ofNat 48,.ofNat 101,.ofNat 99,.ofNat 49,.ofNat 98,.ofNat 97,.ofNat 100,.ofNat 56,.ofNat 56,.ofNat 54,.ofNat 57,.ofNat 55,.ofNat 55,.ofNat 57,.ofNat 54,.ofNat 100,.ofNat 49,.ofNat 53,.ofNat 55,.ofNat 52,.ofNat 55,.ofNat 102,.ofNat 50,.ofNat 97,.ofNat 54,.ofNat 55,.ofNat 101,.ofNat 101,.ofNat 57,.ofNat 99,.ofNat 55,.ofNat 53,.ofNat 54,.ofNat 32,.ofNat 99,.ofNat 117,.ofNat 116,.ofNat 32,.ofNat 97,.ofNat 116,.ofNat 32,.ofNat 113,.ofNat 117,.ofNat 105,.ofNat 110,.ofNat 97,.ofNat 114,.ofNat 105,.ofNat 97,.ofNat 47,.ofNat 113,.ofNat 117,.ofNat 105,.ofNat 110,.ofNat 97,.ofNat 114,.ofNat 105,.ofNat 97,.ofNat 108,.ofNat 97,.ofNat 119,.ofNat 48,.ofNat 49,.ofNat 46,.ofNat 76,.ofNat 101,.ofNat 118,.ofNat 101,.ofNat 108,.ofNat 66,.ofNat 111,.ofNat 117,.ofNat 110,.ofNat 100,.ofNat 115,.ofNat 32,.ofNat 113,.ofNat 117,.ofNat 105,.ofNat 110,.ofNat 97,.ofNat 114,.ofNat 105,.ofNat 97,.ofNat 47,.ofNat 113,.ofNat 117,.ofNat 105,.ofNat 110,.ofNat 97,.ofNat 114,.ofNat 105,.ofNat 97,.ofNat 108,.ofNat 97,.ofNat 119,.ofNat 48,.ofNat 49,.ofNat 46,.ofNat 76,.ofNat 101,.ofNat 118,.ofNat 101,.ofNat 108,.ofNat 69,.ofNat 114,.ofNat 114,.ofNat 111,.ofNat 114,.ofNat 115,.ofNat 32,.ofNat 113,.ofNat 117,.ofNat 105,.ofNat 110,.ofNat 97,.ofNat 114,.ofNat 105,.ofNat 97,.ofNat 47,.ofNat 113,.ofNat 117,.ofNat 105,.ofNat 110,.ofNat 97,.ofNat 114,.ofNat 105,.ofNat 97,.ofNat 108,.ofNat 97,.ofNat 119,.ofNat 48,.ofNat 49,.ofNat 46,.ofNat 76,.ofNat 101,.ofNat 118,.ofNat 101,.ofNat 108,.ofNat 70,.ofNat 97,.ofNat 108,.ofNat 108,.ofNat 115,.ofNat 32,.ofNat 113,.ofNat 117,.ofNat 105,.ofNat 110,.ofNat 97,.ofNat 114,.ofNat 105,.ofNat 97,.ofNat 47,.ofNat 113,.ofNat 117,.ofNat 105,.ofNat 110,.ofNat 97,.ofNat 114,.ofNat 105,.ofNat 97,.ofNat 108,.ofNat 97,.ofNat 119,.ofNat 48,.ofNat 49,.ofNat 46,.ofNat 76,.ofNat 101,.ofNat 118,.ofNat 101,.ofNat 108,.ofNat 77,.ofNat 101,.ofNat 101,.ofNat 116,.ofNat 115,.ofNat 32,.ofNat 113,.ofNat 117,.ofNat 105,.ofNat 110,.ofNat 97,.ofNat 114,.ofNat 105,.ofNat 97,.ofNat 47,.ofNat 113,.ofNat 117,.ofNat 105,.ofNat 110,.ofNat 97,.ofNat 114,.ofNat 105,.ofNat 97,.ofNat 108,.ofNat 97,.ofNat 119,.ofNat 48,.ofNat 49,.ofNat 46,.ofNat 76,.ofNat 101,.ofNat 118,.ofNat 101,.ofNat 108,.ofNat 84,.ofNat 97,.ofNat 107,.ofNat 101,.ofNat 115,.ofNat 32,.ofNat 113,.ofNat 117,.ofNat 105,.ofNat 110,.ofNat 97,.ofNat 114,.ofNat 105,.ofNat 97,.ofNat 47,.ofNat 113,.ofNat 117,.ofNat 105,.ofNat 110,.ofNat 97,.ofNat 114,.ofNat 105,.ofNat 97,.ofNat 108,.ofNat 97,.ofNat 119,.ofNat 48,.ofNat 49,.ofNat 46,.ofNat 76,.ofNat 101,.ofNat 118,.ofNat 101,.ofNat 108,.ofNat 68,.ofNat 114,.ofNat 111,.ofNat 112,.ofNat 115,.ofNat 32,.ofNat 113,.ofNat 117,.ofNat 105,.ofNat 110,.ofNat 97,.ofNat 114,.ofNat 105,.ofNat 97,.ofNat 47,.ofNat 113,.ofNat 117,.ofNat 105,.ofNat 110,.ofNat 97,.ofNat 114,.ofNat 105,.ofNat 97,.ofNat 108,.ofNat 97,.ofNat 119,.ofNat 48,.ofNat 49,.ofNat 46,.ofNat 76,.ofNat 101,.ofNat 118,.ofNat 101,.ofNat 108,.ofNat 77,.ofNat 111,.ofNat 114,.ofNat 101,.ofNat 32,.ofNat 113,.ofNat 117,.ofNat 105,.ofNat 110,.ofNat 97,.ofNat 114,.ofNat 105,.ofNat 97,.ofNat 47,.ofNat 113,.ofNat 117,.ofNat 105,.ofNat 110,.ofNat 97,.ofNat 114,.ofNat 105,.ofNat 97,.ofNat 108,.ofNat 97,.ofNat 119,.ofNat 48,.ofNat 49,.ofNat 46,.ofNat 76,.ofNat 101,.ofNat 118,.ofNat 101,.ofNat 108,.ofNat 69,.ofNat 118,.ofNat 101,.ofNat 110,.ofNat 32,.ofNat 113,.ofNat 117,.ofNat 105,.ofNat 110,.ofNat 97,.ofNat 114,.ofNat 105,.ofNat 97,.ofNat 47,.ofNat 113,.ofNat 117,.ofNat 105,.ofNat 110,.ofNat 97,.ofNat 114,.ofNat 105,.ofNat 97,.ofNat 108,.ofNat 97,.ofNat 119,.ofNat 48,.ofNat 49,.ofNat 46,.ofNat 76,.ofNat 101,.ofNat 118,.ofNat 101,.ofNat 108,.ofNat 78,.ofNat 97,.ofNat 114,.ofNat 114,.ofNat 111,.ofNat 119,.ofNat 32,.ofNat 113,.ofNat 117,.ofNat 105,.ofNat 110,.ofNat 97,.ofNat 114,.ofNat 105,.ofNat 97,.ofNat 47,.ofNat 113,.ofNat 117,.ofNat 105,.ofNat 110,.ofNat 97,.ofNat 114,.ofNat 105,.ofNat 97,.ofNat 108,.ofNat 97,.ofNat 119,.ofNat 48,.ofNat 49,.ofNat 46,.ofNat 76,.ofNat 101,.ofNat 118,.ofNat 101,.ofNat 108,.ofNat 80,.ofNat 114,.ofNat 105,.ofNat 110,.ofNat 116,.ofNat 115,.ofNat 32,.ofNat 113,.ofNat 117,.ofNat 105,.ofNat 110,.ofNat 97,.ofNat 114,.ofNat 105,.ofNat 97,.ofNat 47,.ofNat 113,.ofNat 117,.ofNat 105,.ofNat 110,.ofNat 97,.ofNat 114,.ofNat 105,.ofNat 97,.ofNat 108,.ofNat 97,.ofNat 119,.ofNat 48,.ofNat 49,.ofNat 46,.ofNat 76,.ofNat 101,.ofNat 118,.ofNat 101,.ofNat 108,.ofNat 82,.ofNat 101,.ofNat 97,.ofNat 100,.ofNat 115,.ofNat 32,.ofNat 113,.ofNat 117,.ofNat 105,.ofNat 110,.ofNat 97,.ofNat 114,.ofNat 105,.ofNat 97,.ofNat 47,.ofNat 113,.ofNat 117,.ofNat 105,.ofNat 110,.ofNat 97,.ofNat 114,.ofNat 105,.ofNat 97,.ofNat 108,.ofNat 97,.ofNat 119,.ofNat 48,.ofNat 49,.ofNat 46,.ofNat 76,.ofNat 101,.ofNat 118,.ofNat 101,.ofNat 108,.ofNat 83,.ofNat 112,.ofNat 111,.ofNat 105,.ofNat 108,.ofNat 116,.ofNat 32,.ofNat 113,.ofNat 117,.ofNat 105,.ofNat 110,.ofNat 97,.ofNat 114,.ofNat 105,.ofNat 97,.ofNat 47,.ofNat 113,.ofNat 117,.ofNat 105,.ofNat 110,.ofNat 97,.ofNat 114,.ofNat 105,.ofNat 97,.ofNat 108,.ofNat 97,.ofNat 119,.ofNat 48,.ofNat 49,.ofNat 46,.ofNat 76,.ofNat 101,.ofNat 118,.ofNat 101,.ofNat 108,.ofNat 76,.ofNat 111,.ofNat 119,.ofNat 101,.ofNat 115,.ofNat 116,.ofNat 32,.ofNat 113,.ofNat 117,.ofNat 105,.ofNat 110,.ofNat 97,.ofNat 114,.ofNat 105,.ofNat 97,.ofNat 47,.ofNat 113,.ofNat 117,.ofNat 105,.ofNat 110,.ofNat 97,.ofNat 114,.ofNat 105,.ofNat 97,.ofNat 108,.ofNat 97,.ofNat 119,.ofNat 48,.ofNat 49,.ofNat 46,.ofNat 76,.ofNat 101,.ofNat 118,.ofNat 101,.ofNat 108,.ofNat 83,.ofNat 117,.ofNat 114,.ofNat 101,.ofNat 108,.ofNat 121,.ofNat 32,.ofNat 113,.ofNat 117,.ofNat 105,.ofNat 110,.ofNat 97,.ofNat 114,.ofNat 105,.ofNat 97,.ofNat 47,.ofNat 113,.ofNat 117,.ofNat 105,.ofNat 110,.ofNat 97,.ofNat 114,.ofNat 105,.ofNat 97,.ofNat 108,.ofNat 97,.ofNat 119,.ofNat 48,.ofNat 49,.ofNat 46,.ofNat 76,.ofNat 101,.ofNat 118,.ofNat 101,.ofNat 108,.ofNat 72,.ofNat 101,.ofNat 97,.ofNat 100,.ofNat 115,.ofNat 32,.ofNat 113,.ofNat 117,.ofNat 105,.ofNat 110,.ofNat 97,.ofNat 114,.ofNat 105,.ofNat 97,.ofNat 47,.ofNat 113,.ofNat 117,.ofNat 105,.ofNat 110,.ofNat 97,.ofNat 114,.ofNat 105,.ofNat 97,.ofNat 108,.ofNat 97,.ofNat 119,.ofNat 48,.ofNat 49,.ofNat 46,.ofNat 76,.ofNat 101,.ofNat 118,.ofNat 101,.ofNat 108,.ofNat 84,.ofNat 114,.ofNat 117,.ofNat 101,.ofNat 32,.ofNat 113,.ofNat 117,.ofNat 105,.ofNat 110,.ofNat 97,.ofNat 114,.ofNat 105,.ofNat 97,.ofNat 47,.ofNat 113,.ofNat 117,.ofNat 105,.ofNat 110,.ofNat 97,.ofNat 114,.ofNat 105,.ofNat 97,.ofNat 108,.ofNat 97,.ofNat 119,.ofNat 48,.ofNat 49,.ofNat 46,.ofNat 76,.ofNat 101,.ofNat 118,.ofNat 101,.ofNat 108,.ofNat 82,.ofNat 105,.ofNat 110,.ofNat 103,.ofNat 115,.ofNat 32,.ofNat 113,.ofNat 117,.ofNat 105,.ofNat 110,.ofNat 97,.ofNat 114,.ofNat 105,.ofNat 97,.ofNat 47,.ofNat 113,.ofNat 117,.ofNat 105,.ofNat 110,.ofNat 97,.ofNat 114,.ofNat 105,.ofNat 97,.ofNat 108,.ofNat 97,.ofNat 119,.ofNat 48,.ofNat 49,.ofNat 46,.ofNat 76,.ofNat 101,.ofNat 118,.ofNat 101,.ofNat 108,.ofNat 70,.ofNat 105,.ofNat 116,.ofNat 115,.ofNat 32,.ofNat 113,.ofNat 117,.ofNat 105,.ofNat 110,.ofNat 97,.ofNat 114,.ofNat 105,.ofNat 97,.ofNat 47,.ofNat 113,.ofNat 117,.ofNat 105,.ofNat 110,.ofNat 97,.ofNat 114,.ofNat 105,.ofNat 97,.ofNat 108,.ofNat 97,.ofNat 119,.ofNat 48,.ofNat 49,.ofNat 46,.ofNat 76,.ofNat 101,.ofNat 118,.ofNat 101,.ofNat 108,.ofNat 70,.ofNat 101,.ofNat 119,.ofNat 101,.ofNat 115,.ofNat 116,.ofNat 32,.ofNat 113,.ofNat 117,.ofNat 105,.ofNat 110,.ofNat 97,.ofNat 114,.ofNat 105,.ofNat 97,.ofNat 47,.ofNat 113,.ofNat 117,.ofNat 105,.ofNat 110,.ofNat 97,.ofNat 114,.ofNat 105,.ofNat 97,.ofNat 108,.ofNat 97,.ofNat 119,.ofNat 48,.ofNat 49,.ofNat 46,.ofNat 76,.ofNat 101,.ofNat 118,.ofNat 101,.ofNat 108,.ofNat 67,.ofNat 108,.ofNat 111,.ofNat 115,.ofNat 101,.ofNat 100]
theorem init_eq:Tryz.prog.initOrder=initS:=by kernel_rfl
theorem init_lit:initS=String.ofList initL:=by kernel_rfl
theorem init_list:Tryz.prog.initOrder.toList=initL:=by rw [init_eq,init_lit,String.toList_ofList]
def initW:List (List Char):=(behindMainWord (wordsSigns initL)).tail
theorem words_eq:behindMainWord (wordsSigns initL) = "cut".toList :: initW:=by kernel_rfl
theorem words_of:behindMainWord (wordsSigns Tryz.prog.initOrder.toList) = "cut".toList :: initW:=by rw [init_list,words_eq]
theorem strip_cut (W:List (List Char)):stripLifts liftWords ("cut".toList :: W)=([], "cut".toList :: W):=by
 have h:(liftWords.all fun o => !("cut".toList == o.toList))=true:=by decide
 have key:∀ l:List String,(l.all fun o => !("cut".toList == o.toList))=true→stripLifts l ("cut".toList :: W)=([], "cut".toList :: W):=by
  intro l
  induction l with
  | nil=>intro _;rfl
  | cons o l ih =>
   intro h
   rw [zL,zT,yE] at h
   unfold stripLifts
   rw [h.1,if_neg (by decide),ih h.2]
 exact key _ h
theorem head_of {P:Program} {W:List (List Char)} (h:behindMainWord (wordsSigns P.initOrder.toList) = "cut".toList :: W):P.headLifts=[]:=by
 unfold Program.headLifts
 rw [h,strip_cut]
 simp
theorem enter_of {P:Program} {W:List (List Char)} (h:behindMainWord (wordsSigns P.initOrder.toList) = "cut".toList :: W) (h1:P.laysLater=false) (h2:P.bearsReflect=false) (h3:P.doorFits []=true):P.mayEnter=true:=by
 unfold Program.mayEnter
 rw [h]
 simp only []
 rw [strip_cut,h1,h2,h3]
 simp
theorem lifts_of {P:Program} {W:List (List Char)} (h:behindMainWord (wordsSigns P.initOrder.toList) = "cut".toList :: W):P.liftsFinal=false:=by
 unfold Program.liftsFinal
 rw [h,head_of h]
 simp
theorem make_of {P:Program} {W:List (List Char)} (h:behindMainWord (wordsSigns P.initOrder.toList) = "cut".toList :: W):P.make=some .cut:=by
 unfold Program.make
 rw [h]
 simp
theorem enter_eq:Tryz.prog.mayEnter=true:=enter_of words_of (by kernel_rfl) (by kernel_rfl) (by kernel_rfl)
theorem lifts_eq:Tryz.prog.liftsFinal=false:=lifts_of words_of
theorem make_eq:Tryz.prog.make=some .cut:=make_of words_of
theorem rowed_eq:mapsRowed Tryz.prog=true:=by kernel_rfl
theorem heard_eq:Tryz.prog.stopsHeard=true:=by kernel_rfl
end Go.Proofs.YtclmbbofpaecaaaGreatDoor
end

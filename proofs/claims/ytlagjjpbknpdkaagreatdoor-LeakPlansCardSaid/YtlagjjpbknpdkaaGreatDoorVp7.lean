/- Part 7 of the proof. -/
import Derived.Test.YtlagjjpbknpdkaaGreatDoorVp6
import Derived.Test.YtlagjjpbknpdkaaGreatDoorVp5
import Derived.Orders
set_option linter.all false
set_option linter.unusedVariables false
set_option linter.unusedSimpArgs false
set_option linter.unusedSectionVars false
open Nat (reduceEqDiff reduceAdd reduceLeDiff)
section
namespace Go.Av
open Go
def back (c c' : Cx) : Cx := { K := c'.K, μ := c.μ, τ := c.τ, X := c.X, XO := c.XO, sz := c.sz, FZ := c.FZ }
theorem unhide {c cE c' : Cx} {S S' : St} {w w' : World} (h : StRel c S w) (hle : cE.le c') (hs : StRel c' S' w') (eK : cE.K = c.K) (esz : cE.sz = w.heap.size)
  (eX : ∀ b o v, c.X b o = some v → cE.X b o = some v) (eXO : ∀ b ob, c.XO b = some ob → cE.XO b = some ob)
  (eB : ∀ i B n, S.heap[i]? = some (some B) → c.μ i = some n → (∀ o, B.has o → ∃ v, cE.X n o = some v) ∧ (B.isObj → ∃ ob, cE.XO n = some ob))
  (eT : ∀ k b lo hi, k ∈ S.toks → c.τ k = some (b, lo, hi) → ∀ o, lo ≤ o → o < hi → ∃ v, cE.X b o = some v) (hE : StRel cE St.empty w) (eF : ∀ b o, c.FZ b o = true → cE.FZ b o = true) (eW : cE.FZ.w0 = c.FZ.w0) :
  c.le (back c c') ∧ StRel (back c c') S w' := by
 have hsz : w.heap.size ≤ w'.heap.size := by have := hs.sz; rw [hle.sz, esz] at this; exact this
 have hc : c.le (back c c') := ⟨fun b o v e => hle.K b o v (eK ▸ e), fun _ _ e => e, fun _ _ e => e, rfl, rfl, rfl, rfl, fun _ _ e => .inl e, fun _ _ e => .inl e⟩
 have keepX : ∀ b o v, cE.X b o = some v → w.cell? ⟨b, o, none⟩ = some v ∧ w'.cell? ⟨b, o, none⟩ = some v ∧ w'.frozen? ⟨b, o, none⟩ = false ∧ c'.K b o = none := by
  intro b o v e
  have h1 := hE.X b o v e
  have h2 := hs.X b o v (by rw [hle.X]; exact e)
  exact ⟨h1.1, h2⟩
 refine ⟨hc, ?_⟩
 exact {
  sz := Nat.le_trans h.sz hsz
  tab := hs.tab
  tsh := hs.tsh
  fr := by have := hs.fr; rw [hle.FZ, eW] at this; exact this
  K := hs.K
  X := fun b o v e => (keepX b o v (eX b o v e)).2
  F := fun b o e => hs.F b o (by rw [hle.FZ]; exact eF b o e)
  XO := fun b ob e => hs.XO b ob (by rw [hle.XO]; exact eXO b ob e)
  dom := fun i n e => ⟨(h.dom i n e).1, Nat.lt_of_lt_of_le (h.dom i n e).2 hsz⟩
  tdom := fun k x e => ⟨(h.tdom k x e).1, Nat.lt_of_lt_of_le (h.tdom k x e).2 hsz⟩
  blk := fun i B e => by
   obtain ⟨n, h1, h2⟩ := h.blk i B e
   obtain ⟨b1, b2⟩ := eB i B n e h1
   refine ⟨n, h1, ?_⟩
   cases B with
   | cells l =>
    intro o x hx
    obtain ⟨a1, a2, a3, v, a4, a5⟩ := h2 o x hx
    have ho : o < l.length := by
     rcases Nat.lt_or_ge o l.length with h' | h'
     ·exact h'
     ·rw [List.getElem?_eq_none h'] at hx; cases hx
    obtain ⟨u, hu⟩ := b1 o ho
    obtain ⟨k1, k2, k3, k4⟩ := keepX n o u hu
    rw [a4] at k1; cases k1
    exact ⟨k4, a2, k3, v, k2, a5.mono hc⟩
   | map es =>
    obtain ⟨a1, en, cl, a2, a3, a4⟩ := h2
    obtain ⟨ob, hob⟩ := b2 trivial
    have := hs.XO n ob (by rw [hle.XO]; exact hob)
    have h3 := (hE.XO n ob hob).1
    rw [a2] at h3; cases h3
    exact ⟨a1, en, cl, this.1, a3, fun j kv e' x y => ⟨(a4 j kv e' x y).1.mono hc, (a4 j kv e' x y).2.mono hc⟩⟩
   | siter s p =>
    obtain ⟨ob, hob⟩ := b2 trivial
    have := hs.XO n ob (by rw [hle.XO]; exact hob)
    have h3 := (hE.XO n ob hob).1
    rw [h2.2] at h3; cases h3
    exact ⟨h2.1, this.1⟩
  inj := h.inj
  tok := fun k hk => by
   obtain ⟨b, lo, hi, h1, h2⟩ := h.tok k hk
   refine ⟨b, lo, hi, h1, fun o h3 h4 => ?_⟩
   obtain ⟨a1, a2, a3, v, a4⟩ := h2 o h3 h4
   obtain ⟨u, hu⟩ := eT k b lo hi hk h1 o h3 h4
   obtain ⟨k1, k2, k3, k4⟩ := keepX b o u hu
   exact ⟨k4, a2, k3, u, k2⟩
  tinj := h.tinj
  tblk := h.tblk }
theorem VRel.free {c c' : Cx} {v : AV} {x : Value} (h : VRel c v x) (hb : v.bnd 0 0 = true) (hK : ∀ b o u, c.K b o = some u → c'.K b o = some u) : VRel c' v x :=
 VRel.mono3 (c := c.cut 0 0) (c' := c') ⟨hK, fun i n e => by simp [Cx.cut] at e, fun k x e => by simp [Cx.cut] at e⟩ (h.cut hb)
theorem LRel.free {c c' : Cx} {l : List AV} {vs : List Value} (h : LRel c l vs) (hb : bndL 0 0 l = true) (hK : ∀ b o u, c.K b o = some u → c'.K b o = some u) : LRel c' l vs :=
 ⟨h.1, fun j x v h1 h2 => (h.2 j x v h1 h2).free (bndL_get hb h1) hK⟩
theorem PC.of_empty {P : Program} {f : FuncId} {args : List AV} {v : AV} (h : AC P f args St.empty fun e _ => e = .ret v) (ha : bndL 0 0 args = true) (hv : v.bnd 0 0 = true) : PC P f args (.pure v) := by
 intro c S w vs hs hl
 obtain ⟨cE, hE, eK, eμ, eτ, esz, eX, eXO, eB, eT, eF⟩ := hide hs
 refine (h cE w vs hE (hl.free ha fun b o u e => by rw [eK]; exact e)).mono fun e w' ⟨ae, S', c', h1, h2, h3, h4⟩ => ?_
 subst h2
 cases e with
 | returned x =>
  obtain ⟨g1, g2⟩ := unhide hs h1 h4 eK esz eX eXO eB eT hE (fun b o e => eF ▸ e) (by rw [eF])
  exact ⟨x, rfl, back c c', g1, rfl, rfl, g2, VRel.free h3 hv (fun _ _ _ e => e)⟩
 | panicked ch => exact h3.elim
 | outgrown => exact h3.elim
theorem PC.of_tok {P : Program} {f : FuncId} {args l : List AV} {n : Nat} (h : AC P f args St.empty fun e S' => ∃ k, e = .ret (.slice l n (.tok k)) ∧ k ∈ S'.toks) (ha : bndL 0 0 args = true) (hv : bndL 0 0 l = true) : PC P f args (.tok none fun j => .slice l n (.tok j)) := by
 intro c S w vs hs hl
 obtain ⟨cE, hE, eK, eμ, eτ, esz, eX, eXO, eB, eT, eF⟩ := hide hs
 refine (h cE w vs hE (hl.free ha fun b o u e => by rw [eK]; exact e)).mono fun e w' ⟨ae, S', c', h1, h2, h3, h4⟩ => ?_
 obtain ⟨k, rfl, hk⟩ := h2
 cases e with
 | returned x =>
  obtain ⟨g1, g2⟩ := unhide hs h1 h4 eK esz eX eXO eB eT hE (fun b o e => eF ▸ e) (by rw [eF])
  refine ⟨x, rfl, fun j hj => ?_⟩
  obtain ⟨b, lo, hi, t1, t2⟩ := h4.tok k hk
  have hbn : w.heap.size ≤ b := by
   rcases h1.τn k _ t1 with y | y | ⟨k0, u, y, _⟩
   ·rw [eτ] at y; cases y
   ·rw [esz] at y; exact y
   ·rw [eτ] at y; cases y
  obtain ⟨g3, g4⟩ := g2.addTok j b lo hi hj (h4.tdom k _ t1).2 (fun o h5 h6 => by
   obtain ⟨a1, a2, a3, v, a4⟩ := t2 o h5 h6
   refine ⟨a1, ?_, a3, v, a4⟩
   cases hx : c.X b o with
   | none => exact hx
   | some u => rw [h1.X, eX b o u hx] at a2; cases a2) (fun k' x hk' hx hxb => by
    have := (hs.tdom k' x hx).2; omega) (fun i B hB hm => by have := (hs.dom i b hm).2; omega) (max S.nt (j + 1)) (Nat.le_max_left _ _) (by omega) (.inl (Nat.le_trans hs.sz hbn))
  refine ⟨_, g1.trans g3, rfl, fun j' hj' => by simp only [updN, if_neg hj', back], g4, ?_⟩
  cases h3 with
  | slice _ _ _ b' off cap us hc hkk hr he ht =>
   obtain ⟨h0, z, z1, z2⟩ := ht k rfl
   rw [t1] at z2
   exact .slice l n (.tok j) b' off cap us hc hkk (fun i x hx => (hr i x hx).free (bndL_get hv hx) (fun _ _ _ e => e)) (fun e => by cases e) (fun k' e => by
    cases e
    exact ⟨h0, z, z1, by simp only [updN, if_true]; exact z2⟩)
  | sliceNil _ ht => exact absurd rfl (ht k)
 | panicked ch => exact h3.elim
 | outgrown => exact h3.elim
theorem PC.of_alloc {P : Program} {f : FuncId} {args l : List AV} {n cap : Nat} (h : AC P f args St.empty fun e S' => ∃ i, e = .ret (.sref i 0 n cap) ∧ S'.heap[i]? = some (some (.cells l))) (ha : bndL 0 0 args = true) (hv : bndL 0 0 l = true) : PC P f args (.alloc (.cells l) fun i => .sref i 0 n cap) := by
 intro c S w vs hs hl
 obtain ⟨cE, hE, eK, eμ, eτ, esz, eX, eXO, eB, eT, eF⟩ := hide hs
 refine (h cE w vs hE (hl.free ha fun b o u e => by rw [eK]; exact e)).mono fun e w' ⟨ae, S', c', h1, h2, h3, h4⟩ => ?_
 obtain ⟨i, rfl, hi⟩ := h2
 cases e with
 | returned x =>
  obtain ⟨g1, g2⟩ := unhide hs h1 h4 eK esz eX eXO eB eT hE (fun b o e => eF ▸ e) (by rw [eF])
  refine ⟨x, rfl, fun j hj hlive => ?_⟩
  obtain ⟨m, m1, m2⟩ := h4.blk i _ hi
  have hmn : w.heap.size ≤ m := by
   rcases h1.μn i m m1 with y | y
   ·rw [eμ] at y; cases y
   ·rw [esz] at y; exact y
  have g2' := g2.room (j + 1 - S.heap.length)
  obtain ⟨g3, g4⟩ := g2'.name j m hj (by simp; omega) (fun B hB => hlive B (room_live hB)) (h4.dom i m m1).2 (Nat.le_trans hs.sz hmn)
  refine ⟨_, g1.trans g3, fun j' hj' => by simp only [updN, if_neg hj', back], rfl, ?_, ?_⟩
  ·rw [← put_room]
   refine g4.put j m _ (fun B' hB => hlive B' (room_live hB)) (by simp [updN]) (fun o u hu => ?_) (fun j' B' hB hm => ?_) (fun k x hk hx hxn => ?_)
   ·obtain ⟨a1, a2, a3, v, a4, a5⟩ := m2 o u hu
    refine ⟨a1, ?_, a3, v, a4, a5.free (bndL_get hv hu) (fun _ _ _ e => e)⟩
    show c.X m o = none
    cases hx : c.X m o with
    | none => rfl
    | some u' => rw [h1.X, eX m o u' hx] at a2; cases a2
   ·simp only [updN] at hm
    split at hm
    ·rename_i e; subst e; exact hlive B' (room_live hB)
    ·have := (hs.dom _ _ hm).2; omega
   ·have := (hs.tdom k x hx).2; omega
  ·cases h3 with
   | sref _ _ _ _ m' cap' hm hc =>
    rw [m1] at hm; cases hm
    exact .sref j 0 n cap m cap' (by simp [updN]) hc
 | panicked ch => exact h3.elim
 | outgrown => exact h3.elim
theorem TOk.of {P : Program} {t : TypeId} {i : TI} {z : Value} (hu : P.underlying t = some i.desc) (hi : (P.info? t).map (fun x => (x.size, x.bytes, x.zero)) = some (i.size, i.bytes, some z)) (hz : AV.ofVal z = some (zeroA i))
  (hs : (zeroA i).cells = i.zero ∧ i.zero.length = i.size ∧ i.zero.all AV.one = true ∧ (aggD i.desc = false → i.size = 1)) (hp : i.plain = true → P.stoodInHeld t = false ∧ P.eqGuardType P.depth t = false) : TOk P t i := by
 refine ⟨hu, ?_, hs, hp⟩
 cases h : P.info? t with
 | none => rw [h] at hi; cases hi
 | some inf =>
  rw [h] at hi
  simp only [Option.map_some, Option.some.injEq, Prod.mk.injEq] at hi
  exact ⟨inf, z, rfl, hi.1, hi.2.1, hi.2.2, hz⟩
def lk : List (Nat × List Nat) → Nat → List Nat
 | [], _ => []
 | (k, l) :: r, n => if k = n then l else lk r n
def lk1 : List (Nat × Nat × List Bool) → Nat → Nat × List Bool
 | [], _ => (0, [])
 | (k, l) :: r, n => if k = n then l else lk1 r n
theorem AC.of {E : Env} (hE : E.Ok) {f : FuncId} {fn : Func} {ks : Nat → List Nat} {dm : Nat → Nat × List Bool} {mc : MC} (hf : E.P.funcs[f]? = some fn) (hm : fn.body.bind (toMC E.N ks dm) = some mc) (hN : fn.ntmps = E.N) {args : List AV} {S : St} {R : AEnd → St → Prop}
  (hbase : E.base = S.heap.length) (hbt : E.bt = S.nt) (hargs : args.length ≤ E.N) (hdraw : ∀ (E' : Env), E'.Ok → E'.P = E.P → ∀ (id : Nat) (ops : Array Oper) (hs : List Bool) (m : Nat) (Q : AQ) (ts : TS) (S : St) (c0 c : Cx) (ds : List Deferred) (a : Act) (w : World), dstsOk E'.N ops = true → drawOk ops hs m = true → QPre E' ops (WOps E' ops Q (ops.toList.drop m)) m ops.toList hs S ts S → Sim E' c0 c ds ts S a w → (Code.region id ops true).wpIn E'.F 0 E'.P (lft E' c0 ds Q) a w)
  (h : WC E mc (bodyQ E fn.results.toList R) (argTS 0 args) S) (hR : E.R = none) (hC : ∀ c, E.C c) : AC E.P f args S R := by
 cases hb : fn.body with
 | none => rw [hb] at hm; cases hm
 | some code => rw [hb] at hm; exact AC.of_body hE hf hb (toMC_ok _ _ hm) hN hbase hbt hargs hdraw h hR hC
def look : List (Nat × TI) → Tab
 | [], _ => none
 | (k, i) :: l, t => if k = t then some i else look l t
def AllOk (P : Program) : List (Nat × TI) → Prop
 | [] => True
 | (k, i) :: l => TOk P k i ∧ AllOk P l
theorem look_ok {P : Program} : ∀ (l : List (Nat × TI)), AllOk P l → (look l).Ok P
 | [], _, t, i, h => by simp [look] at h
 | (k, i') :: l, h, t, i, e => by
  simp only [look] at e
  split at e
  ·rename_i hk; subst hk
   simp only [Option.some.injEq] at e; subst e
   exact h.1
  ·exact look_ok l h.2 t i e
end Go.Av
end
section
namespace Go.Av
open Go
def Sees (S S' : St) : Prop := ∀ (p : Nat) (B : Blk), S.heap[p]? = some (some B) → S'.heap[p]? = some (some B)
section
variable {T : Tab} {S S' : St} (hS : Sees S S')
include hS
theorem loadA_mono {t : TypeId} {p v : AV} (e : loadA T S t p = some v) : loadA T S' t p = some v := by
  unfold loadA at *
  split at e
  · split at e
    · rename_i hb; rw [hS _ _ hb]; exact e
    · cases e
  · exact e
  · cases e
theorem storeA_mono {t : TypeId} {p v : AV} {r : Res} (e : storeA T S t p v = some r) : storeA T S' t p v = some r := by
  unfold storeA at *
  split at e
  · split at e
    · rename_i hb; rw [hS _ _ hb]; exact e
    · cases e
  · cases e
theorem lenA_mono {t : TypeId} {x v : AV} (e : lenA T S t x = some v) : lenA T S' t x = some v := by
  unfold lenA at *
  split at e
  all_goals first
    | exact e
    | (cases e; done)
    | (split at e
       · rename_i hb; rw [hS _ _ hb]; exact e
       · cases e)
theorem heldA_mono {z : Nat} {x : AV} {l : List AV × Nat} (e : heldA S z x = some l) : heldA S' z x = some l := by
  unfold heldA at *
  split at e
  · exact e
  · exact e
  · split at e
    · rename_i hb; rw [hS _ _ hb]; exact e
    · cases e
  · cases e
theorem appendA_mono {t : TypeId} {s x : AV} {r : Res} (e : appendA T S t s x = some r) : appendA T S' t s x = some r := by
  unfold appendA at *
  split at e
  · split at e
    · split at e
      · cases e
      · rename_i hz
        simp only [if_neg hz]
        split at e
        · rename_i hh; rw [heldA_mono hS hh]; exact e
        · cases e
    · cases e
  · cases e
theorem copyA_mono {t : TypeId} {s x : AV} {r : Res} (e : copyA T S t s x = some r) : copyA T S' t s x = some r := by
  unfold copyA at *
  split at e
  · split at e
    · rename_i h1 h2 h3
      simp only [h1, heldA_mono hS h2, hS _ _ h3]; exact e
    · cases e
  · cases e
theorem convMemA_mono {s d : TypeId} {x : AV} {r : Res} (e : convMemA T S s d x = some r) : convMemA T S' s d x = some r := by
  unfold convMemA at *
  split at e
  · exact e
  · split at e
    · split at e
      · rename_i hh; rw [heldA_mono hS hh]; exact e
      · cases e
    · cases e
  · cases e
theorem lookupA_mono {t : TypeId} {m k v : AV} {ok : Bool} (e : lookupA T S t m k ok = some v) : lookupA T S' t m k ok = some v := by
  unfold lookupA at *
  split at e
  · split at e
    · split at e
      · rename_i hc
        simp only [hc, and_self, if_true]
        split at e
        · exact e
        · split at e
          · rename_i hb; rw [hS _ _ hb]; exact e
          · cases e
        · cases e
      · cases e
    · cases e
  · cases e
theorem mapUpdateA_mono {t : TypeId} {m k v : AV} {r : Res} (e : mapUpdateA T S t m k v = some r) : mapUpdateA T S' t m k v = some r := by
  unfold mapUpdateA at *
  split at e
  · split at e
    · rename_i h1 h2; simp only [h1, hS _ _ h2]; exact e
    · cases e
  · cases e
theorem deleteA_mono {t : TypeId} {m k : AV} {r : Res} (e : deleteA T S t m k = some r) : deleteA T S' t m k = some r := by
  unfold deleteA at *
  split at e
  · split at e
    · rename_i h1 h2; simp only [h1, hS _ _ h2]; exact e
    · cases e
  · cases e
theorem nextA_mono {x : AV} {r : Res} (e : nextA S x = some r) : nextA S' x = some r := by
  unfold nextA at *
  split at e
  · split at e
    · rename_i h2; rw [hS _ _ h2]; exact e
    · cases e
  · cases e
theorem builtinA_mono {b : Builtin} {tys : List TypeId} {args : List AV} {r : Res} (e : builtinA T S b tys args = some r) : builtinA T S' b tys args = some r := by
  unfold builtinA at *
  split at e
  · simp only [Option.map_eq_some_iff] at e ⊢
    obtain ⟨v, h1, h2⟩ := e
    exact ⟨v, lenA_mono hS h1, h2⟩
  · split at e
    · rename_i h; subst h; simp only [if_true]; exact appendA_mono hS e
    · cases e
  · exact copyA_mono hS e
  · exact e
  · exact e
  · exact deleteA_mono hS e
  · cases e
theorem astepO_mono {ts : TS} {o : Op} {r : Res} (e : astepO T S ts o = some r) : astepO T S' ts o = some r := by
  unfold astepO at *
  split at e
  all_goals first
    | exact e
    | (cases e; done)
    | (simp only [Option.bind_eq_some_iff, Option.map_eq_some_iff] at e ⊢
       first
         | (obtain ⟨p, h1, v, h2, h3⟩ := e; exact ⟨p, h1, v, loadA_mono hS h2, h3⟩)
         | (obtain ⟨p, h1, v, h2, h3⟩ := e; exact ⟨p, h1, v, h2, storeA_mono hS h3⟩)
         | (obtain ⟨p, h1, q, h2, v, h3, h4⟩ := e; exact ⟨p, h1, q, h2, v, lookupA_mono hS h3, h4⟩)
         | (obtain ⟨p, h1, q, h2, v, h3, h4⟩ := e; exact ⟨p, h1, q, h2, v, h3, mapUpdateA_mono hS h4⟩)
         | (obtain ⟨p, h1, h2⟩ := e; exact ⟨p, h1, nextA_mono hS h2⟩)
         | (obtain ⟨p, h1, h2⟩ := e; exact ⟨p, h1, builtinA_mono hS h2⟩)
         | (obtain ⟨p, h1, h2⟩ := e
            refine ⟨p, h1, ?_⟩
            split at h2
            · exact h2
            · exact convMemA_mono hS h2))
end
def SameAt (l : List Nat) (ts ts' : TS) : Prop := ∀ t ∈ l, ts.get t = ts'.get t
theorem aeval_same {ts ts' : TS} {l : List Operand} (h : SameAt (tmpsOf l) ts ts') {x : Operand} (hx : x ∈ l) : aeval ts x = aeval ts' x := by
  cases x with
  | tmp t => exact h t (by simp only [tmpsOf, List.mem_filterMap]; exact ⟨_, hx, rfl⟩)
  | const v => rfl
  | func f => rfl
  | global g => rfl
theorem evs_same {ts ts' : TS} : ∀ {l : List Operand}, (∀ x ∈ l, aeval ts x = aeval ts' x) → evs ts l = evs ts' l
  | [], _ => rfl
  | x :: l, h => by
    simp only [evs, h x List.mem_cons_self, evs_same (l := l) fun y hy => h y (List.mem_cons_of_mem _ hy)]
theorem evP_same {ts ts' : TS} : ∀ {l : List (Nat × Operand)}, (∀ x ∈ l.map (·.2), aeval ts x = aeval ts' x) → evP ts l = evP ts' l
  | [], _ => rfl
  | (i, x) :: l, h => by
    simp only [evP, h x (by simp), evP_same (l := l) fun y hy => h y (by simp only [List.map_cons]; exact List.mem_cons_of_mem _ hy)]
theorem evO_same {ts ts' : TS} {o : Option Operand} (h : ∀ x ∈ o.toArray.toList, aeval ts x = aeval ts' x) : evO ts o = evO ts' o := by
  cases o with
  | none => rfl
  | some x => simp only [evO, h x (by simp)]
theorem astepO_same {T : Tab} {S : St} {ts ts' : TS} {o : Op} (h : SameAt (tmpsOf o.operands.toList) ts ts') : astepO T S ts o = astepO T S ts' o := by
  have key : ∀ x ∈ o.operands.toList, aeval ts x = aeval ts' x := fun x hx => aeval_same h hx
  unfold astepO
  split
  case h_16 => rfl
  all_goals try (simp [Op.operands, Call.operands] at key)
  all_goals first
    | rfl
    | (simp only [key]; done)
    | (simp only [key.1, key.2]; done)
    | (simp only [key.1, key.2.1, key.2.2]; done)
    | skip
  · rw [evP_same (ts := ts) (ts' := ts') (fun x hx => by
      simp only [List.mem_map] at hx
      obtain ⟨⟨i, y⟩, h1, rfl⟩ := hx
      exact key y i (by simpa using h1))]
  · rw [evP_same (ts := ts) (ts' := ts') (fun x hx => by
      simp only [List.mem_map] at hx
      obtain ⟨⟨i, y⟩, h1, rfl⟩ := hx
      exact key y i (by simpa using h1))]
  · rw [evs_same (ts := ts) (ts' := ts') (fun x hx => key x (.inl (by simpa using hx))), evs_same (ts := ts) (ts' := ts') (fun x hx => key x (.inr (by simpa using hx)))]
  · rw [key.1, evO_same (fun x hx => key.2 x (.inl (by simpa using hx))), evO_same (fun x hx => key.2 x (.inr (.inl (by simpa using hx)))), evO_same (fun x hx => key.2 x (.inr (.inr (by simpa using hx))))]
  · rw [evs_same (ts := ts) (ts' := ts') (fun x hx => key x (by simpa using hx))]
theorem callee_same {E : Env} {ts ts' : TS} {c : Call} (h : SameAt (tmpsOf c.operands.toList) ts ts') : callee E ts c = callee E ts' c := by
  have key : ∀ x ∈ c.operands.toList, aeval ts x = aeval ts' x := fun x hx => aeval_same h hx
  unfold callee
  cases hc : c.callee with
  | value f =>
    simp [Call.operands, hc] at key
    have h2 : evs ts c.args.toList = evs ts' c.args.toList := evs_same fun x hx => key.2 x (by simpa using hx)
    simp only [key.1, h2]
  | invoke r n =>
    simp [Call.operands, hc] at key
    have h2 : evs ts c.args.toList = evs ts' c.args.toList := evs_same fun x hx => key.2 x (by simpa using hx)
    simp only [key.1, h2]
  | builtin b => rfl
theorem appendA_kill {T : Tab} {S : St} {t : TypeId} {s x : AV} {k : Nat} {mk : Nat → AV} (e : appendA T S t s x = some (.tok (some k) mk)) : ∃ l n, s = .slice l n (.tok k) := by
  unfold appendA at e
  split at e
  · split at e
    · split at e
      · cases e
      · split at e
        · split at e
          · split at e
            · cases e
            · cases e
            · split at e <;> cases e
            · cases e
          · split at e
            · cases e
            · split at e
              · split at e <;> cases e
              · split at e
                · split at e
                  · cases e
                  · simp only [Option.some.injEq, Res.tok.injEq] at e
                    obtain ⟨h1, _⟩ := e
                    subst h1
                    exact ⟨_, _, rfl⟩
                  · cases e
                · cases e
              · cases e
        · cases e
    · cases e
  · cases e
theorem evs_mem {ts : TS} : ∀ {l : List Operand} {vs : List AV}, evs ts l = some vs → ∀ v ∈ vs, ∃ x ∈ l, aeval ts x = some v
  | [], vs, e, v, hv => by simp only [evs, Option.some.injEq] at e; subst e; cases hv
  | x :: l, vs, e, v, hv => by
    simp only [evs] at e
    split at e
    · rename_i u us h1 h2
      simp only [Option.some.injEq] at e; subst e
      rcases List.mem_cons.1 hv with rfl | hv
      · exact ⟨x, List.mem_cons_self, h1⟩
      · obtain ⟨y, hy, h3⟩ := evs_mem h2 v hv
        exact ⟨y, List.mem_cons_of_mem _ hy, h3⟩
    · cases e
theorem astepO_kill {T : Tab} {S : St} {ts : TS} {o : Op} {k : Nat} {mk : Nat → AV} (e : astepO T S ts o = some (.tok (some k) mk)) : ∃ x l n, aeval ts x = some (.slice l n (.tok k)) := by
  unfold astepO at e
  split at e
  all_goals try (cases e; done)
  all_goals try (simp only [Option.map_eq_some_iff, reduceCtorEq, and_false, exists_false, Option.bind_eq_some_iff] at e; done)
  · split at e
    · simp only [Option.map_eq_some_iff, reduceCtorEq, and_false, exists_false] at e
    · cases e
  · simp only [allocA, Option.map_eq_some_iff, reduceCtorEq, and_false, exists_false] at e
  · simp only [boxA, Option.map_eq_some_iff, reduceCtorEq, and_false, exists_false] at e
  · simp only [Option.bind_eq_some_iff] at e
    obtain ⟨p, _, x, _, e⟩ := e
    unfold storeA at e
    repeat' split at e
    all_goals cases e
  · simp only [Option.bind_eq_some_iff] at e
    obtain ⟨p, _, e⟩ := e
    split at e
    · cases e
    · unfold convMemA at e
      repeat' split at e
      all_goals first
        | (cases e; done)
        | (simp only [Option.map_eq_some_iff, reduceCtorEq, and_false, exists_false] at e; done)
  · split at e
    · split at e
      · cases e
      · simp only [Option.map_eq_some_iff, reduceCtorEq, and_false, exists_false] at e
    · cases e
  · simp only [Option.bind_eq_some_iff] at e
    obtain ⟨p, _, x, _, e⟩ := e
    unfold makeSliceA at e
    repeat' split at e
    all_goals first
      | (cases e; done)
      | (simp at e; done)
  · simp only [Option.bind_eq_some_iff] at e
    obtain ⟨p, _, x, _, y, _, e⟩ := e
    unfold mapUpdateA at e
    repeat' split at e
    all_goals cases e
  · simp only [Option.bind_eq_some_iff] at e
    obtain ⟨p, _, e⟩ := e
    unfold rangeA at e
    repeat' split at e
    all_goals cases e
  · simp only [Option.bind_eq_some_iff] at e
    obtain ⟨p, _, e⟩ := e
    unfold nextA at e
    repeat' split at e
    all_goals cases e
  · simp only [Option.bind_eq_some_iff] at e
    obtain ⟨vs, hvs, e⟩ := e
    unfold builtinA at e
    split at e
    · simp only [Option.map_eq_some_iff, reduceCtorEq, and_false, exists_false] at e
    · split at e
      · obtain ⟨l, n, rfl⟩ := appendA_kill e
        obtain ⟨x, _, hx⟩ := evs_mem hvs _ List.mem_cons_self
        exact ⟨x, l, n, hx⟩
      · cases e
    · unfold copyA at e
      repeat' split at e
      all_goals cases e
    · simp only [Option.map_eq_some_iff, reduceCtorEq, and_false, exists_false] at e
    · simp only [Option.map_eq_some_iff, reduceCtorEq, and_false, exists_false] at e
    · unfold deleteA at e
      repeat' split at e
      all_goals cases e
    · cases e
end Go.Av
end
section
namespace Go.Av
open Go
section
variable {α : Type}
def lastW (key : Nat → Option Nat) (val : Nat → α) (D : Nat → Bool) (k : Nat) (init : Option α) : Nat → Option α
  | 0 => init
  | n + 1 => if D n = true ∧ key n = some k then some (val n) else lastW key val D k init n
variable {key : Nat → Option Nat} {val : Nat → α} {D D' : Nat → Bool} {k : Nat} {init : Option α}
theorem lastW_congr : ∀ {n : Nat}, (∀ i, i < n → key i = some k → D i = D' i) → lastW key val D k init n = lastW key val D' k init n
  | 0, _ => rfl
  | n + 1, h => by
    simp only [lastW]
    rw [lastW_congr (n := n) fun i hi hk => h i (by omega) hk]
    by_cases hk : key n = some k
    · rw [h n (by omega) hk]
    · simp only [hk, and_false]
theorem lastW_none : ∀ {n : Nat}, (∀ i, i < n → key i = some k → D i = false) → lastW key val D k init n = init
  | 0, _ => rfl
  | n + 1, h => by
    simp only [lastW]
    rw [if_neg (fun hh => by rw [h n (by omega) hh.2] at hh; exact Bool.false_ne_true hh.1), lastW_none (n := n) fun i hi hk => h i (by omega) hk]
theorem lastW_at {j : Nat} (hD : D j = true) (hk : key j = some k) : ∀ {n : Nat}, j < n → (∀ i, j < i → i < n → key i = some k → D i = false) → lastW key val D k init n = some (val j)
  | 0, hn, _ => by omega
  | n + 1, hn, h => by
    simp only [lastW]
    by_cases e : j = n
    · subst e; rw [if_pos ⟨hD, hk⟩]
    · rw [if_neg (fun hh => by rw [h n (by omega) (by omega) hh.2] at hh; exact Bool.false_ne_true hh.1)]
      exact lastW_at hD hk (by omega) fun i h1 h2 h3 => h i h1 (by omega) h3
theorem lastW_cut : ∀ {n m : Nat}, n ≤ m → lastW key val (fun i => decide (i < n)) k init m = lastW key val (fun _ => true) k init n
  | n, 0, h => by have : n = 0 := by omega
                  subst this; rfl
  | n, m + 1, h => by
    by_cases e : n = m + 1
    · subst e
      exact lastW_congr fun i hi _ => by simpa using hi
    · simp only [lastW]
      rw [if_neg (by simp; omega)]
      exact lastW_cut (by omega)
end
def addD (D : Nat → Bool) (j : Nat) : Nat → Bool := fun i => if i = j then true else D i
theorem before_list (l : List Oper) : ∀ (acc : Array Nat) (j : Nat), j < acc.size →
    (l.foldl (fun acc o => acc.push (o.after.foldl (fun s e => if Region.binds .any e then s ||| 2 ^ e.on ||| acc.getD e.on 0 else s) 0)) acc).getD j 0 = acc.getD j 0 := by
  induction l with
  | nil => intro acc j _; rfl
  | cons o l ih =>
    intro acc j hj
    rw [List.foldl_cons, ih _ j (by simp; omega)]
    simp only [Array.getD_eq_getD_getElem?, Array.getElem?_push, if_neg (show ¬ j = acc.size by omega)]
theorem before_size (l : List Oper) : ∀ (acc : Array Nat),
    (l.foldl (fun acc o => acc.push (o.after.foldl (fun s e => if Region.binds .any e then s ||| 2 ^ e.on ||| acc.getD e.on 0 else s) 0)) acc).size = acc.size + l.length := by
  induction l with
  | nil => intro acc; rfl
  | cons o l ih => intro acc; rw [List.foldl_cons, ih]; simp; omega
theorem after_bit (acc : Array Nat) (i : Nat) : ∀ (l : List Edge) (s : Nat), (l.foldl (fun s e => if Region.binds .any e then s ||| 2 ^ e.on ||| acc.getD e.on 0 else s) s).testBit i = true →
    s.testBit i = true ∨ ∃ e ∈ l, Region.binds .any e = true ∧ (i = e.on ∨ (acc.getD e.on 0).testBit i = true)
  | [], s, h => .inl h
  | e :: l, s, h => by
    rw [List.foldl_cons] at h
    rcases after_bit acc i l _ h with h | ⟨e', h1, h2⟩
    · split at h
      · rename_i hb
        simp only [Nat.testBit_or, Nat.testBit_two_pow, Bool.or_eq_true, decide_eq_true_eq] at h
        rcases h with (h | h) | h
        · exact .inl h
        · exact .inr ⟨e, List.mem_cons_self, hb, .inl h.symm⟩
        · exact .inr ⟨e, List.mem_cons_self, hb, .inr h⟩
      · exact .inl h
    · exact .inr ⟨e', List.mem_cons_of_mem _ h1, h2⟩
theorem reach_edge {ops : Array Oper} {i j : Nat} {o : Oper} (hj : ops[j]? = some o) (he : ∀ e ∈ o.after.toList, Region.binds .any e = true → e.on < j) (h : reach ops i j = true) :
    ∃ e ∈ o.after.toList, Region.binds .any e = true ∧ (i = e.on ∨ reach ops i e.on = true) := by
  unfold reach at h ⊢
  unfold Region.before at h ⊢
  rw [← Array.foldl_toList] at h ⊢
  have hlt : j < ops.toList.length := by
    rcases Nat.lt_or_ge j ops.toList.length with h' | h'
    · exact h'
    · rw [Array.getElem?_eq_none (by simpa using h')] at hj; cases hj
  have hsplit : ops.toList = ops.toList.take j ++ o :: ops.toList.drop (j + 1) := by
    conv => lhs; rw [← List.take_append_drop j ops.toList]
    congr 1
    rw [List.drop_eq_getElem_cons hlt]
    congr 1
    have : ops.toList[j]? = some o := by simpa using hj
    rw [List.getElem?_eq_getElem hlt] at this
    exact Option.some.inj this
  generalize hacc : (ops.toList.take j).foldl (fun acc o => acc.push (o.after.foldl (fun s e => if Region.binds .any e then s ||| 2 ^ e.on ||| acc.getD e.on 0 else s) 0)) #[] = acc at *
  have hsz : acc.size = j := by rw [← hacc, before_size]; simp only [List.length_take, List.size_toArray, List.length_nil]; omega
  rw [hsplit, List.foldl_append, hacc, List.foldl_cons] at h
  rw [before_list _ _ j (by simp; omega)] at h
  simp only [Array.getD_eq_getD_getElem?, Array.getElem?_push, hsz, if_true, Option.getD_some] at h
  rw [← Array.foldl_toList] at h
  have h' := after_bit acc i o.after.toList 0 (by simpa only [Array.getD_eq_getD_getElem?] using h)
  rcases h' with h' | ⟨e, h1, h2, h3⟩
  · simp at h'
  · refine ⟨e, h1, h2, ?_⟩
    rcases h3 with h3 | h3
    · exact .inl h3
    · refine .inr ?_
      rw [hsplit, List.foldl_append, hacc, List.foldl_cons, before_list _ _ _ (by have := he e h1 h2; simp; omega)]
      simp only [Array.getD_eq_getD_getElem?, Array.getElem?_push, if_neg (show ¬ e.on = acc.size by have := he e h1 h2; omega)]
      simpa only [Array.getD_eq_getD_getElem?] using h3
theorem reach_done {ops : Array Oper} {D : Nat → Bool} (he : ∀ (j : Nat) (o : Oper), ops[j]? = some o → ∀ e ∈ o.after.toList, Region.binds .any e = true → e.on < j)
    (hD : ∀ (j : Nat) (o : Oper), ops[j]? = some o → D j = true → ∀ e ∈ o.after.toList, Region.binds .any e = true → D e.on = true) :
    ∀ (j i : Nat) (o : Oper), ops[j]? = some o → (∀ e ∈ o.after.toList, Region.binds .any e = true → D e.on = true) → reach ops i j = true → D i = true := by
  intro j
  induction j using Nat.strongRecOn with
  | _ j ih =>
    intro i o hj hr h
    obtain ⟨e, h1, h2, h3⟩ := reach_edge hj (he j o hj) h
    have hlt := he j o hj e h1 h2
    rcases h3 with rfl | h3
    · exact hr e h1 h2
    · have hjl : j < ops.size := by
        rcases Nat.lt_or_ge j ops.size with h' | h'
        · exact h'
        · rw [Array.getElem?_eq_none h'] at hj; cases hj
      have ho : ops[e.on]? = some ops[e.on] := Array.getElem?_eq_getElem (by omega)
      exact ih e.on hlt i _ ho (hD e.on _ ho (hr e h1 h2)) h3
def hp (S : St) (p : Nat) : Option Blk := (S.heap[p]?).join
theorem hp_some {S : St} {p : Nat} {B : Blk} : hp S p = some B ↔ S.heap[p]? = some (some B) := by
  unfold hp
  cases h : S.heap[p]? with
  | none => simp
  | some x => cases x <;> simp
theorem hp_put (S : St) (i : Nat) (B : Blk) (p : Nat) : hp (S.put i B) p = if i = p then some B else hp S p := by
  unfold hp
  simp only [St.put, List.getElem?_set]
  by_cases e : i = p
  · subst e
    have : i < (S.heap ++ List.replicate (i + 1 - S.heap.length) none).length := by simp; omega
    simp only [this, if_true, Option.join_some]
  · simp only [if_neg e, List.getElem?_append]
    split
    · rfl
    · rename_i hl
      rw [List.getElem?_replicate]
      split
      · rw [List.getElem?_eq_none (by omega)]; rfl
      · rw [List.getElem?_eq_none (by omega)]
theorem len_put (S : St) (i : Nat) (B : Blk) : (S.put i B).heap.length = max S.heap.length (i + 1) := by
  simp [St.put]; omega
def wk (S : St) : Res → Option Nat
  | .alloc _ _ => some S.heap.length
  | .write i _ _ => some i
  | _ => none
def wv : Res → Blk
  | .alloc B _ => B
  | .write _ B _ => B
  | _ => .cells []
def ck (S : St) : Res → Option Nat
  | .tok _ _ => some S.nt
  | _ => none
def kk : Res → Option Nat
  | .tok k _ => k
  | _ => none
theorem hp_app (S : St) (r : Res) (p : Nat) : hp (r.app S).2 p = if wk S r = some p then some (wv r) else hp S p := by
  cases r with
  | pure v => simp [Res.app, wk]
  | alloc B mk =>
    simp only [Res.app, wk, wv, Option.some.injEq]
    rw [← put_len, hp_put]
  | tok k mk => simp [Res.app, wk, hp]
  | write i B v => simp only [Res.app, wk, wv, Option.some.injEq, hp_put]
theorem len_app (S : St) (r : Res) : S.heap.length ≤ (r.app S).2.heap.length ∧ (∀ p, wk S r = some p → p < (r.app S).2.heap.length) := by
  cases r with
  | pure v => simp [Res.app, wk]
  | alloc B mk => simp [Res.app, wk]
  | tok k mk => simp [Res.app, wk]
  | write i B v => simp only [Res.app, wk, len_put]; exact ⟨by omega, fun p hp => by cases hp; omega⟩
theorem nt_app (S : St) (r : Res) : S.nt ≤ (r.app S).2.nt ∧ (∀ p, ck S r = some p → p < (r.app S).2.nt) := by
  cases r <;> simp [Res.app, ck, St.put]
theorem toks_app (S : St) (r : Res) (k : Nat) (h : k ∈ (r.app S).2.toks) : (k ∈ S.toks ∨ ck S r = some k) ∧ (kk r = some k → ck S r = some k) := by
  cases r with
  | pure v => exact ⟨.inl h, by simp [kk]⟩
  | alloc B mk => exact ⟨.inl h, by simp [kk]⟩
  | write i B v => exact ⟨.inl h, by simp [kk]⟩
  | tok kill mk =>
    simp only [Res.app, List.mem_cons] at h
    simp only [ck, kk]
    rcases h with rfl | h
    · exact ⟨.inr rfl, fun _ => rfl⟩
    · refine ⟨.inl (killTok_sub _ h), fun e => ?_⟩
      subst e
      simp [killTok] at h
structure StepOk (E : Env) (ops : Array Oper) (free : Bool) (b : St) (o : Oper) (ts : TS) (S : St) (r : Res) : Prop where
  dst : dstOk E.N o.dst = true
  how : (wantedA ops ts o = some false ∧ r = .pure .undef) ∨
    (wantedA ops ts o = some true ∧ r.ok S ∧
      ((free = true ∧ r.calm = true ∧ astepO E.T St.none ts o.op = some r) ∨
       (free = false ∧ isW o.op = true ∧ astepO E.T S ts o.op = some r) ∨
       (free = false ∧ isW o.op = false ∧ r.quiet = true ∧ (astepO E.T b ts o.op = some r ∨
          ∃ c f args args', o.op = .call c ∧ astepO E.T b ts o.op = none ∧ callee E ts c = some (f, args) ∧ Callable E.P f ∧ SubL args args' ∧ PC E.P f args' r ∧ r.noKill = true))))
def nextB (free : Bool) (o : Oper) (w : Option Bool) (b S' : St) : St := if w = some true ∧ free = false ∧ isW o.op = true then S' else b
structure Tr where
  ts : TS
  S : St
  b : St
  r : Res
def Run (E : Env) (ops : Array Oper) (K : TS → St → Prop) (hs : List Bool) (n k : Nat) (b : St) (ts : TS) (S : St) : Prop :=
  ∃ q : Nat → Tr, (q k).ts = ts ∧ (q k).S = S ∧ (q k).b = b ∧ K (q (k + n)).ts (q (k + n)).S ∧
      ∀ j, k ≤ j → j < k + n → ∃ o, ops[j]? = some o ∧ StepOk E ops (hs.getD j false) (q j).b o (q j).ts (q j).S (q j).r ∧
        (q (j + 1)).ts = setT (q j).ts o.dst ((q j).r.app (q j).S).1 ∧ (q (j + 1)).S = ((q j).r.app (q j).S).2 ∧
        (q (j + 1)).b = nextB (hs.getD j false) o (wantedA ops (q j).ts o) (q j).b (q (j + 1)).S
theorem run_of {E : Env} {ops : Array Oper} {K : TS → St → Prop} (hs : List Bool) : ∀ (n k : Nat) (l : List Oper) (b : St) (ts : TS) (S : St), l = ops.toList.drop k → QPre E ops K n l (hs.drop k) b ts S → Run E ops K hs n k b ts S := by
  intro n
  induction n with
  | zero =>
    intro k l b ts S hl h
    exact ⟨fun _ => ⟨ts, S, b, .pure .undef⟩, rfl, rfl, rfl, h, fun j h1 h2 => by omega⟩
  | succ n ih =>
    intro k l b ts S hl h
    cases l with
    | nil => exact h.elim
    | cons o rest =>
      have ho : ops[k]? = some o := by
        have : (ops.toList.drop k)[0]? = some o := by rw [← hl]; rfl
        simpa using this
      have hrest : rest = ops.toList.drop (k + 1) := by
        have : (o :: rest).tail = (ops.toList.drop k).tail := by rw [hl]
        simpa using this
      have hhd : (hs.drop k).headD false = hs.getD k false := by
        rw [List.headD_eq_head?_getD, List.head?_drop, List.getD_eq_getElem?_getD]
      have htl : (hs.drop k).tail = hs.drop (k + 1) := by simp
      obtain ⟨hd, h⟩ := h
      have go : ∀ (r : Res) (b' : St), StepOk E ops (hs.getD k false) b o ts S r → b' = nextB (hs.getD k false) o (wantedA ops ts o) b (r.app S).2 →
          QPre E ops K n rest (hs.drop k).tail b' (setT ts o.dst (r.app S).1) (r.app S).2 → Run E ops K hs (n + 1) k b ts S := by
        intro r b' hst hb' hq
        rw [htl] at hq
        obtain ⟨q, h1, h2, h3, h4, h5⟩ := ih (k + 1) rest b' _ _ hrest hq
        refine ⟨fun j => if j = k then ⟨ts, S, b, r⟩ else q j, by simp, by simp, by simp, ?_, ?_⟩
        · have : ¬ (k + (n + 1) = k) := by omega
          simp only [this, if_false]
          rw [show k + (n + 1) = k + 1 + n by omega]; exact h4
        · intro j hj1 hj2
          by_cases e : j = k
          · subst e
            refine ⟨o, ho, by simpa using hst, ?_⟩
            have : ¬ (j + 1 = j) := by omega
            simp only [this, if_false, if_true, h1, h2, h3]
            exact ⟨trivial, trivial, hb'⟩
          · have e' : ¬ (j + 1 = k) := by omega
            simp only [e, e', if_false]
            exact h5 j (by omega) (by omega)
      split at h
      · rename_i hw
        exact go (.pure .undef) b ⟨hd, .inl ⟨hw, rfl⟩⟩ (by simp [nextB, hw]) h
      · rename_i hw
        rw [hhd] at h
        unfold QOp at h
        split at h
        · rename_i hf
          split at h
          · rename_i r hr
            obtain ⟨hc, h⟩ := h
            have : (r.app S).2 = S := by cases r <;> simp [Res.calm] at hc; rfl
            refine go r b ⟨hd, .inr ⟨hw, ?_, .inl ⟨hf, hc, hr⟩⟩⟩ (by unfold nextB; rw [if_neg (by rw [hf]; simp)]) (by rw [this]; exact h)
            cases r <;> simp [Res.calm] at hc; trivial
          · exact h.elim
        · rename_i hf
          have hf' : hs.getD k false = false := by simpa using hf
          split at h
          · rename_i hW
            split at h
            · rename_i r hr
              obtain ⟨hk, h⟩ := h
              exact go r _ ⟨hd, .inr ⟨hw, hk, .inr (.inl ⟨hf', hW, hr⟩)⟩⟩ (by unfold nextB; rw [if_pos ⟨hw, hf', hW⟩]) h
            · exact h.elim
          · rename_i hW
            have hW' : isW o.op = false := by simpa using hW
            split at h
            · rename_i r hr
              obtain ⟨hq, hk, h⟩ := h
              exact go r b ⟨hd, .inr ⟨hw, hk, .inr (.inr ⟨hf', hW', hq, .inl hr⟩)⟩⟩ (by simp [nextB, hW']) h
            · rename_i hn
              split at h
              · rename_i c hop
                split at h
                · rename_i f args hcl
                  obtain ⟨a1, args', r, a2, a3, a4, a5, h⟩ := h
                  refine go r b ⟨hd, .inr ⟨hw, ?_, .inr (.inr ⟨hf', hW', a4, .inr ⟨c, f, args, args', hop, hn, hcl, a1, a2, a3, a5⟩⟩)⟩⟩ (by simp [nextB, hW']) h
                  cases r with
                  | tok k mk => cases k with
                    | none => trivial
                    | some k => simp [Res.noKill] at a5
                  | _ => trivial
                · exact h.elim
              · exact h.elim
      · exact h.elim
end Go.Av
end
section
namespace Go.Av
open Go
theorem StRel.same {c : Cx} {S S' : St} {w : World} (h : StRel c S w) (hb : ∀ (p : Nat) (B : Blk), S'.heap[p]? = some (some B) → S.heap[p]? = some (some B)) (hl : S.heap.length ≤ S'.heap.length) (hn : S.nt ≤ S'.nt) (ht : ∀ k ∈ S'.toks, k ∈ S.toks) : StRel c S' w where
  sz := h.sz
  tab := h.tab
  tsh := h.tsh
  fr := h.fr
  K := h.K
  X := h.X
  XO := h.XO
  F := h.F
  dom i n e := ⟨Nat.lt_of_lt_of_le (h.dom i n e).1 hl, (h.dom i n e).2⟩
  tdom k x e := ⟨Nat.lt_of_lt_of_le (h.tdom k x e).1 hn, (h.tdom k x e).2⟩
  blk i B x := h.blk i B (hb i B x)
  inj i j Bi Bj n x x' e e' := h.inj i j Bi Bj n (hb _ _ x) (hb _ _ x') e e'
  tok k hk := h.tok k (ht k hk)
  tinj k k' b lo hi lo' hi' hk hk' := h.tinj k k' b lo hi lo' hi' (ht k hk) (ht k' hk')
  tblk k i b lo hi B hk x := h.tblk k i b lo hi B (ht k hk) (hb _ _ x)
theorem wantedA_same {ops : Array Oper} {ts ts' : TS} {o : Oper} (h : SameAt (seenBy ops o) ts ts') : wantedA ops ts o = wantedA ops ts' o := by
  unfold wantedA
  split
  · rfl
  · rename_i j b hg
    unfold yieldedA
    cases hd : (ops[j]?).bind (·.dst) with
    | none => rfl
    | some t =>
      simp only [Option.bind_some]
      rw [h t (by unfold seenBy; rw [hg]; simp [hd])]
theorem SameAt.ops {ops : Array Oper} {ts ts' : TS} {o : Oper} (h : SameAt (seenBy ops o) ts ts') : SameAt (tmpsOf o.op.operands.toList) ts ts' :=
  fun t ht => h t (by unfold seenBy; exact List.mem_append_left _ ht)
structure Lex (E : Env) (ops : Array Oper) (hs : List Bool) (m : Nat) (ts0 : TS) (S0 : St) (q : Nat → Tr) : Prop where
  d1 : m ≤ ops.size
  d2 : ∀ (j : Nat) (o : Oper), ops[j]? = some o → ∀ e ∈ o.after.toList, Region.binds .any e = true → e.on < j
  d3 : ∀ (i j : Nat) (oi oj : Oper), ops[i]? = some oi → ops[j]? = some oj → i ≠ j → ∀ d, oi.dst = some d → (oj.dst = some d ∨ d ∈ seenBy ops oj) → reach ops (min i j) (max i j) = true
  d4 : ∀ j, m ≤ j → j < ops.size → ∀ i, i < j → reach ops i j = true
  d5 : ∀ (i : Nat) (oi : Oper), ops[i]? = some oi → isW oi.op = true → i < m → ∀ j, j < m → hs.getD j false = false → j ≠ i → reach ops (min j i) (max j i) = true
  h0 : (q 0).ts = ts0 ∧ (q 0).S = S0 ∧ (q 0).b = S0
  tk0 : ∀ k ∈ S0.toks, k < S0.nt
  hq : ∀ j, j < m → ∃ o, ops[j]? = some o ∧ StepOk E ops (hs.getD j false) (q j).b o (q j).ts (q j).S (q j).r ∧
        (q (j + 1)).ts = setT (q j).ts o.dst ((q j).r.app (q j).S).1 ∧ (q (j + 1)).S = ((q j).r.app (q j).S).2 ∧
        (q (j + 1)).b = nextB (hs.getD j false) o (wantedA ops (q j).ts o) (q j).b (q (j + 1)).S
theorem lex_of {E : Env} {ops : Array Oper} {hs : List Bool} {m : Nat} (h : drawOk ops hs m = true) {K : TS → St → Prop} {ts0 : TS} {S0 : St} (ht : ∀ k ∈ S0.toks, k < S0.nt) (hp : QPre E ops K m ops.toList hs S0 ts0 S0) : ∃ q, Lex E ops hs m ts0 S0 q ∧ K (q m).ts (q m).S := by
  obtain ⟨q, q1, q2, q3, q4, q5⟩ := run_of (ops := ops) hs m 0 ops.toList S0 ts0 S0 (by simp) (by simpa using hp)
  rw [Nat.zero_add] at q4
  unfold drawOk at h
  simp only [Bool.and_eq_true, decide_eq_true_eq] at h
  obtain ⟨⟨⟨⟨a1, a2⟩, a3⟩, a4⟩, a5⟩ := h
  have zi : ∀ (j : Nat) (o : Oper), ops[j]? = some o → (o, j) ∈ ops.toList.zipIdx := by
    intro j o ho
    rw [List.mem_zipIdx_iff_getElem?]
    simpa using ho
  refine ⟨q, ⟨a1, ?_, ?_, ?_, ?_, ⟨q1, q2, q3⟩, ht, fun j hj => q5 j (Nat.zero_le _) (by omega)⟩, q4⟩
  · intro j o ho e he hb
    have := List.all_eq_true.1 (List.all_eq_true.1 a2 _ (zi j o ho)) e he
    simpa [hb] using this
  · intro i j oi oj hi hj hne d hd hx
    have := List.all_eq_true.1 (List.all_eq_true.1 a3 _ (zi j oj hj)) _ (zi i oi hi)
    simp only [hd, Bool.or_eq_true, Bool.not_eq_true', decide_eq_true_eq] at this
    have h2 : ((oj.dst == some d) || (seenBy ops oj).contains d) = true := by
      rcases hx with hx | hx
      · simp [hx]
      · simp [hx]
    rcases this with h3 | h3 | h3
    · exact absurd h3.symm hne
    · rw [h2] at h3; cases h3
    · rw [Nat.min_comm, Nat.max_comm]; exact h3
  · intro j h1 h2 i hi
    have := List.all_eq_true.1 a4 j (List.mem_range.2 h2)
    simp only [Bool.or_eq_true, decide_eq_true_eq] at this
    rcases this with h3 | h3
    · omega
    · exact List.all_eq_true.1 h3 i (List.mem_range.2 hi)
  · intro i oi hi hW him j hj hf hne
    have := List.all_eq_true.1 a5 _ (zi i oi hi)
    simp only [hW, Bool.not_true, Bool.false_or, Bool.or_eq_true, decide_eq_true_eq] at this
    rcases this with h3 | h3
    · omega
    · have := List.all_eq_true.1 h3 j (List.mem_range.2 hj)
      simp only [hf, Bool.false_or, Bool.or_eq_true, decide_eq_true_eq] at this
      rcases this with h4 | h4
      · exact absurd h4 hne
      · exact h4
def tkey (ops : Array Oper) (j : Nat) : Option Nat := (ops[j]?).bind (·.dst)
def tval (q : Nat → Tr) (j : Nat) : AV := ((q j).r.app (q j).S).1
def bkey (q : Nat → Tr) (j : Nat) : Option Nat := wk (q j).S (q j).r
def bval (q : Nat → Tr) (j : Nat) : Blk := wv (q j).r
def ckey (q : Nat → Tr) (j : Nat) : Option Nat := ck (q j).S (q j).r
def kkey (q : Nat → Tr) (j : Nat) : Option Nat := kk (q j).r
section
variable {E : Env} {ops : Array Oper} {hs : List Bool} {m : Nat} {ts0 : TS} {S0 : St} {q : Nat → Tr} (L : Lex E ops hs m ts0 S0 q)
include L
theorem Lex.ts_at : ∀ {j : Nat}, j ≤ m → ∀ d, (q j).ts.get d = lastW (tkey ops) (tval q) (fun _ => true) d (ts0.get d) j
  | 0, _, d => by rw [L.h0.1]; rfl
  | j + 1, h, d => by
    obtain ⟨o, h1, h2, h3, h4, h5⟩ := L.hq j (by omega)
    rw [h3]
    simp only [lastW, tkey, h1, Option.bind_some, true_and]
    cases hd : o.dst with
    | none => simp only [setT, reduceCtorEq, if_false]; exact Lex.ts_at (by omega) d
    | some t =>
      simp only [setT, TS.get_set, Option.some.injEq]
      split
      · rfl
      · exact Lex.ts_at (by omega) d
theorem Lex.hp_at : ∀ {j : Nat}, j ≤ m → ∀ p, hp (q j).S p = lastW (bkey q) (bval q) (fun _ => true) p (hp S0 p) j
  | 0, _, p => by rw [L.h0.2.1]; rfl
  | j + 1, h, p => by
    obtain ⟨o, h1, h2, h3, h4, h5⟩ := L.hq j (by omega)
    rw [h4, hp_app]
    simp only [lastW, bkey, true_and]
    split
    · rfl
    · exact Lex.hp_at (by omega) p
theorem Lex.len_le : ∀ {i j : Nat}, i ≤ j → j ≤ m → (q i).S.heap.length ≤ (q j).S.heap.length ∧ (q i).S.nt ≤ (q j).S.nt
  | i, 0, h, _ => by have : i = 0 := by omega
                     subst this; exact ⟨Nat.le_refl _, Nat.le_refl _⟩
  | i, j + 1, h, hj => by
    by_cases e : i = j + 1
    · subst e; exact ⟨Nat.le_refl _, Nat.le_refl _⟩
    · obtain ⟨o, h1, h2, h3, h4, h5⟩ := L.hq j (by omega)
      have ih := Lex.len_le (i := i) (j := j) (by omega) (by omega)
      rw [h4]
      exact ⟨Nat.le_trans ih.1 (len_app _ _).1, Nat.le_trans ih.2 (nt_app _ _).1⟩
theorem Lex.bkey_lt {j p : Nat} (hj : j < m) (h : bkey q j = some p) : p < (q (j + 1)).S.heap.length := by
  obtain ⟨o, h1, h2, h3, h4, h5⟩ := L.hq j hj
  rw [h4]; exact (len_app _ _).2 p h
theorem Lex.ckey_lt {j p : Nat} (hj : j < m) (h : ckey q j = some p) : p < (q (j + 1)).S.nt := by
  obtain ⟨o, h1, h2, h3, h4, h5⟩ := L.hq j hj
  rw [h4]; exact (nt_app _ _).2 p h
theorem Lex.tok_lt : ∀ {j : Nat}, j ≤ m → ∀ k ∈ (q j).S.toks, k < (q j).S.nt ∧ (k ∈ S0.toks ∨ ∃ i, i < j ∧ ckey q i = some k)
  | 0, _, k, hk => by rw [L.h0.2.1] at hk ⊢; exact ⟨L.tk0 k hk, .inl hk⟩
  | j + 1, h, k, hk => by
    obtain ⟨o, h1, h2, h3, h4, h5⟩ := L.hq j (by omega)
    rw [h4] at hk
    rcases (toks_app _ _ _ hk).1 with h6 | h6
    · have ih := Lex.tok_lt (j := j) (by omega) k h6
      refine ⟨by rw [h4]; exact Nat.lt_of_lt_of_le ih.1 (nt_app _ _).1, ?_⟩
      rcases ih.2 with h7 | ⟨i, h7, h8⟩
      · exact .inl h7
      · exact .inr ⟨i, by omega, h8⟩
    · exact ⟨by rw [h4]; exact (nt_app _ _).2 k h6, .inr ⟨j, by omega, h6⟩⟩
theorem Lex.kill_ok {j k : Nat} (hj : j < m) (h : kkey q j = some k) : k ∈ (q j).S.toks := by
  obtain ⟨o, h1, h2, h3, h4, h5⟩ := L.hq j hj
  unfold kkey kk at h
  rcases h2.how with ⟨_, hr⟩ | ⟨_, hok, _⟩
  · rw [hr] at h; cases h
  · split at h
    · rename_i kl mk hr
      subst h
      rw [hr] at hok
      exact hok
    · cases h
theorem Lex.killed {i k : Nat} (h : kkey q i = some k) : ∀ {j : Nat}, i < j → j ≤ m → k ∉ (q j).S.toks
  | 0, h1, _ => by omega
  | j + 1, h1, h2 => by
    intro hk
    have hki := (L.tok_lt (j := i) (by omega) k (L.kill_ok (by omega) h)).1
    have hle := (L.len_le (i := i) (j := j) (by omega) (by omega)).2
    obtain ⟨o, g1, g2, g3, g4, g5⟩ := L.hq j (by omega)
    rw [g4] at hk
    have ht := toks_app _ _ _ hk
    have hno : ck (q j).S (q j).r ≠ some k := by
      intro hc
      cases hr : (q j).r <;> rw [hr] at hc <;> simp [ck] at hc
      omega
    by_cases e : i = j
    · subst e; exact hno (ht.2 h)
    · rcases ht.1 with h6 | h6
      · exact Lex.killed h (by omega) (by omega) h6
      · exact hno h6
theorem Lex.unfree {j p : Nat} (hj : j < m) (h : bkey q j = some p) : hs.getD j false = false ∧ ((∃ B mk, (q j).r = .alloc B mk ∧ p = (q j).S.heap.length) ∨ ∃ o, ops[j]? = some o ∧ isW o.op = true) := by
  obtain ⟨o, h1, h2, h3, h4, h5⟩ := L.hq j hj
  unfold bkey at h
  rcases h2.how with ⟨_, hr⟩ | ⟨hw, hok, hh | hh | hh⟩
  · rw [hr] at h; cases h
  · obtain ⟨g1, g2, g3⟩ := hh
    cases hr : (q j).r <;> rw [hr] at h g2 <;> simp [wk, Res.calm] at h g2
  · exact ⟨hh.1, .inr ⟨o, h1, hh.2.1⟩⟩
  · refine ⟨hh.1, .inl ?_⟩
    have hqu := hh.2.2.1
    cases hr : (q j).r <;> rw [hr] at h hqu <;> simp [wk, Res.quiet] at h hqu
    exact ⟨_, _, rfl, h.symm⟩
theorem Lex.base : ∀ {j : Nat}, j ≤ m → ∃ b, b ≤ j ∧ (q j).b = (q b).S ∧ (b = 0 ∨ ∃ o, ops[b - 1]? = some o ∧ isW o.op = true) ∧ ∀ i, b ≤ i → i < j → (q i).r.quiet = true
  | 0, _ => ⟨0, Nat.le_refl _, by rw [L.h0.2.2, L.h0.2.1], .inl rfl, fun i h1 h2 => by omega⟩
  | j + 1, h => by
    obtain ⟨b, b1, b2, b3, b4⟩ := Lex.base (j := j) (by omega)
    obtain ⟨o, h1, h2, h3, h4, h5⟩ := L.hq j (by omega)
    unfold nextB at h5
    split at h5
    · rename_i hc
      exact ⟨j + 1, Nat.le_refl _, h5, .inr ⟨o, by simpa using h1, hc.2.2⟩, fun i h1 h2 => by omega⟩
    · rename_i hc
      refine ⟨b, by omega, by rw [h5, b2], b3, fun i g1 g2 => ?_⟩
      by_cases e : i = j
      · subst e
        rcases h2.how with ⟨_, hr⟩ | ⟨hw, hok, hh | hh | hh⟩
        · rw [hr]; rfl
        · have := hh.2.1
          cases hr : (q i).r <;> rw [hr] at this <;> simp [Res.calm] at this
          rfl
        · exact absurd ⟨hw, hh.1, hh.2.1⟩ hc
        · exact hh.2.2.1
      · exact b4 i g1 (by omega)
end
end Go.Av
end

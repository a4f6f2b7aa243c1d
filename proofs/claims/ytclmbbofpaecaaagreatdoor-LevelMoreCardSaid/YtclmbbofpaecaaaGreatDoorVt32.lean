/- Part 32 of the proof. -/
import Derived.Test.YtclmbbofpaecaaaGreatDoorVt31
import Derived.Test.YtclmbbofpaecaaaGreatDoorTie
import Derived.Test.YtclmbbofpaecaaaGreatDoorCards
import Derived.Lib.LaidTab
import Derived.Lib.ItoaNum
import Derived.Lay
import Derived.LaidOnce
import Derived.MakeChecks
import Derived.SevenTiedAt
set_option linter.all false
set_option linter.unusedVariables false
set_option linter.unusedSimpArgs false
set_option linter.unusedSectionVars false
open Bool renaming and_eq_true → zU
open List renaming getD_eq_getElem?_getD → zI, all_cons → zK, getElem?_map → qK, getElem?_range → qQ
open Option renaming bind_some → qU
section
namespace Go.Proofs.YtclmbbofpaecaaaGreatDoor
open Go Go.Av Go.ChangeShapes Go.WideShapes Go.ChangeAt Go.RowKit
set_option maxRecDepth 100000
theorem own:ownKnob Tryz.prog.godebug=none:=by kernel_rfl
theorem laidOut:laidOutB Tryz.prog=true:=by kernel_rfl
def tabs:List (String × DataW Unit):=[("math/bits.deBruijn32tab", Rows.laid_math_bits_deBruijn32tab),("math/bits.deBruijn64tab", Rows.laid_math_bits_deBruijn64tab),("internal/strconv.uint64pow10", Rows.laid_internal_strconv_uint64pow10),("unicode/utf8.acceptRanges", Rows.laid_unicode_utf8_acceptRanges),("unicode/utf8.first", Rows.laid_unicode_utf8_first)]
theorem pow_data:(Rows.laid_internal_strconv_uint64pow10:DataW Unit)=Lib.tabData .u64 Lib.pow10Tab:=by kernel_rfl
theorem pow_name:Tryz.prog.globalNamed "internal/strconv.uint64pow10" = some 0:=by kernel_rfl
theorem pow_type:(Tryz.prog.globals[0]?).map (·.type)=some 266:=by kernel_rfl
theorem tab_ok {W:World} (h:laidMetH Tryz.prog tabs W):Go.Av.Lx.TabOk W:=by
 rw [MakeChecks.laidMetH_plain _ _ _ (by kernel_rfl)] at h
 obtain ⟨ps,⟨_,_,_,_,_,_,_,_,_,_,⟨_,_,_,_,_,_,_,_,_,_,⟨g,t,cs,fuel,p,q,hg,ht,hv,hd,_,_⟩,_⟩,_⟩,_,_⟩:=h
 obtain rfl:=Option.some.inj (pow_name.symm.trans hg)
 obtain rfl:=Option.some.inj (pow_type.symm.trans ht)
 rw [pow_data] at hd
 have hcs:=Lib.cells_of_tab (P:=Tryz.prog) (t:=266) (e:=245) (n:=20) (k:=.u64) (by kernel_rfl) (by kernel_rfl) (by kernel_rfl) (by kernel_rfl) hd
 have hlen:Lib.pow10Tab.length=20:=by simp [Lib.pow10Tab]
 have hTab:Lib.TabIs Tryz.prog W "internal/strconv.uint64pow10" .u64 Lib.pow10Tab:=by
  unfold Lib.TabIs
  rw [hv,← hcs]
 refine ⟨fun i hi => ?_, ?_⟩
 ·have:=hTab.cell pow_name i (by rw [hlen];exact hi)
  rw [show (Lib.pow10Tab.getD i 0:Int)=((10 ^ i:Nat):Int) by
   unfold Lib.pow10Tab
   rw [zI,qK,qQ hi];rfl] at this
  exact this
 ·unfold World.var? at hv
  rw [pow_name,qU] at hv
  split at hv
  ·rename_i cs' t' fr e
   cases hv
   refine ⟨t', ?_⟩
   unfold World.shape?
   show (match W.heap[0]? with
    | some (.cells c elem _)=>some (elem,c.size)
    | _=>none)=_
   rw [e]
   have:cs.size=20:=by
    have:=congrArg List.length hcs
    simpa [hlen] using this
   simp [this]
  ·cases hv
def initS:String := "harness 6d35de1e401f8de53127ac5c61a8cef0ec1bad88697796d15747f2a67ee9c756 cut at quinaria/quinarialaw01.LevelBounds quinaria/quinarialaw01.LevelErrors quinaria/quinarialaw01.LevelFalls quinaria/quinarialaw01.LevelMeets quinaria/quinarialaw01.LevelTakes quinaria/quinarialaw01.LevelDrops quinaria/quinarialaw01.LevelMore quinaria/quinarialaw01.LevelEven quinaria/quinarialaw01.LevelNarrow quinaria/quinarialaw01.LevelPrints quinaria/quinarialaw01.LevelReads quinaria/quinarialaw01.LevelSpoilt quinaria/quinarialaw01.LevelLowest quinaria/quinarialaw01.LevelSurely quinaria/quinarialaw01.LevelHeads quinaria/quinarialaw01.LevelTrue quinaria/quinarialaw01.LevelRings quinaria/quinarialaw01.LevelFits quinaria/quinarialaw01.LevelFewest quinaria/quinarialaw01.LevelClosed"
def initL:List Char:=[.ofNat 104,.ofNat 97,.ofNat 114,.ofNat 110,.ofNat 101,.ofNat 115,.ofNat 115,.ofNat 32,.ofNat 54,.ofNat 100,.ofNat 51,.ofNat 53,.ofNat 100,.ofNat 101,.ofNat 49,.ofNat 101,.ofNat 52,.ofNat 48,.ofNat 49,.ofNat 102,.ofNat 56,.ofNat 100,.ofNat 101,.ofNat 53,.ofNat 51,.ofNat 49,.ofNat 50,.ofNat 55,.ofNat 97,.ofNat 99,.ofNat 53,.ofNat 99,.ofNat 54,.ofNat 49,.ofNat 97,.ofNat 56,.ofNat 99,.ofNat 101,.ofNat 102,.ofNat 48,.ofNat 101,.ofNat 99,.ofNat 49,.ofNat 98,.ofNat 97,.ofNat 100,.ofNat 56,.ofNat 56,.ofNat 54,.ofNat 57,.ofNat 55,.ofNat 55,.ofNat 57,.ofNat 54,.ofNat 100,.ofNat 49,.ofNat 53,.ofNat 55,.ofNat 52,.ofNat 55,.ofNat 102,.ofNat 50,.ofNat 97,.ofNat 54,.ofNat 55,.ofNat 101,.ofNat 101,.ofNat 57,.ofNat 99,.ofNat 55,.ofNat 53,.ofNat 54,.ofNat 32,.ofNat 99,.ofNat 117,.ofNat 116,.ofNat 32,.ofNat 97,.ofNat 116,.ofNat 32,.ofNat 113,.ofNat 117,.ofNat 105,.ofNat 110,.ofNat 97,.ofNat 114,.ofNat 105,.ofNat 97,.ofNat 47,.ofNat 113,.ofNat 117,.ofNat 105,.ofNat 110,.ofNat 97,.ofNat 114,.ofNat 105,.ofNat 97,.ofNat 108,.ofNat 97,.ofNat 119,.ofNat 48,.ofNat 49,.ofNat 46,.ofNat 76,.ofNat 101,.ofNat 118,.ofNat 101,.ofNat 108,.ofNat 66,.ofNat 111,.ofNat 117,.ofNat 110,.ofNat 100,.ofNat 115,.ofNat 32,.ofNat 113,.ofNat 117,.ofNat 105,.ofNat 110,.ofNat 97,.ofNat 114,.ofNat 105,.ofNat 97,.ofNat 47,.ofNat 113,.ofNat 117,.ofNat 105,.ofNat 110,.ofNat 97,.ofNat 114,.ofNat 105,.ofNat 97,.ofNat 108,.ofNat 97,.ofNat 119,.ofNat 48,.ofNat 49,.ofNat 46,.ofNat 76,.ofNat 101,.ofNat 118,.ofNat 101,.ofNat 108,.ofNat 69,.ofNat 114,.ofNat 114,.ofNat 111,.ofNat 114,.ofNat 115,.ofNat 32,.ofNat 113,.ofNat 117,.ofNat 105,.ofNat 110,.ofNat 97,.ofNat 114,.ofNat 105,.ofNat 97,.ofNat 47,.ofNat 113,.ofNat 117,.ofNat 105,.ofNat 110,.ofNat 97,.ofNat 114,.ofNat 105,.ofNat 97,.ofNat 108,.ofNat 97,.ofNat 119,.ofNat 48,.ofNat 49,.ofNat 46,.ofNat 76,.ofNat 101,.ofNat 118,.ofNat 101,.ofNat 108,.ofNat 70,.ofNat 97,.ofNat 108,.ofNat 108,.ofNat 115,.ofNat 32,.ofNat 113,.ofNat 117,.ofNat 105,.ofNat 110,.ofNat 97,.ofNat 114,.ofNat 105,.ofNat 97,.ofNat 47,.ofNat 113,.ofNat 117,.ofNat 105,.ofNat 110,.ofNat 97,.ofNat 114,.ofNat 105,.ofNat 97,.ofNat 108,.ofNat 97,.ofNat 119,.ofNat 48,.ofNat 49,.ofNat 46,.ofNat 76,.ofNat 101,.ofNat 118,.ofNat 101,.ofNat 108,.ofNat 77,.ofNat 101,.ofNat 101,.ofNat 116,.ofNat 115,.ofNat 32,.ofNat 113,.ofNat 117,.ofNat 105,.ofNat 110,.ofNat 97,.ofNat 114,.ofNat 105,.ofNat 97,.ofNat 47,.ofNat 113,.ofNat 117,.ofNat 105,.ofNat 110,.ofNat 97,.ofNat 114,.ofNat 105,.ofNat 97,.ofNat 108,.ofNat 97,.ofNat 119,.ofNat 48,.ofNat 49,.ofNat 46,.ofNat 76,.ofNat 101,.ofNat 118,.ofNat 101,.ofNat 108,.ofNat 84,.ofNat 97,.ofNat 107,.ofNat 101,.ofNat 115,.ofNat 32,.ofNat 113,.ofNat 117,.ofNat 105,.ofNat 110,.ofNat 97,.ofNat 114,.ofNat 105,.ofNat 97,.ofNat 47,.ofNat 113,.ofNat 117,.ofNat 105,.ofNat 110,.ofNat 97,.ofNat 114,.ofNat 105,.ofNat 97,.ofNat 108,.ofNat 97,.ofNat 119,.ofNat 48,.ofNat 49,.ofNat 46,.ofNat 76,.ofNat 101,.ofNat 118,.ofNat 101,.ofNat 108,.ofNat 68,.ofNat 114,.ofNat 111,.ofNat 112,.ofNat 115,.ofNat 32,.ofNat 113,.ofNat 117,.ofNat 105,.ofNat 110,.ofNat 97,.ofNat 114,.ofNat 105,.ofNat 97,.ofNat 47,.ofNat 113,.ofNat 117,.ofNat 105,.ofNat 110,.ofNat 97,.ofNat 114,.ofNat 105,.ofNat 97,.ofNat 108,.ofNat 97,.ofNat 119,.ofNat 48,.ofNat 49,.ofNat 46,.ofNat 76,.ofNat 101,.ofNat 118,.ofNat 101,.ofNat 108,.ofNat 77,.ofNat 111,.ofNat 114,.ofNat 101,.ofNat 32,.ofNat 113,.ofNat 117,.ofNat 105,.ofNat 110,.ofNat 97,.ofNat 114,.ofNat 105,.ofNat 97,.ofNat 47,.ofNat 113,.ofNat 117,.ofNat 105,.ofNat 110,.ofNat 97,.ofNat 114,.ofNat 105,.ofNat 97,.ofNat 108,.ofNat 97,.ofNat 119,.ofNat 48,.ofNat 49,.ofNat 46,.ofNat 76,.ofNat 101,.ofNat 118,.ofNat 101,.ofNat 108,.ofNat 69,.ofNat 118,.ofNat 101,.ofNat 110,.ofNat 32,.ofNat 113,.ofNat 117,.ofNat 105,.ofNat 110,.ofNat 97,.ofNat 114,.ofNat 105,.ofNat 97,.ofNat 47,.ofNat 113,.ofNat 117,.ofNat 105,.ofNat 110,.ofNat 97,.ofNat 114,.ofNat 105,.ofNat 97,.ofNat 108,.ofNat 97,.ofNat 119,.ofNat 48,.ofNat 49,.ofNat 46,.ofNat 76,.ofNat 101,.ofNat 118,.ofNat 101,.ofNat 108,.ofNat 78,.ofNat 97,.ofNat 114,.ofNat 114,.ofNat 111,.ofNat 119,.ofNat 32,.ofNat 113,.ofNat 117,.ofNat 105,.ofNat 110,.ofNat 97,.ofNat 114,.ofNat 105,.ofNat 97,.ofNat 47,.ofNat 113,.ofNat 117,.ofNat 105,.ofNat 110,.ofNat 97,.ofNat 114,.ofNat 105,.ofNat 97,.ofNat 108,.ofNat 97,.ofNat 119,.ofNat 48,.ofNat 49,.ofNat 46,.ofNat 76,.ofNat 101,.ofNat 118,.ofNat 101,.ofNat 108,.ofNat 80,.ofNat 114,.ofNat 105,.ofNat 110,.ofNat 116,.ofNat 115,.ofNat 32,.ofNat 113,.ofNat 117,.ofNat 105,.ofNat 110,.ofNat 97,.ofNat 114,.ofNat 105,.ofNat 97,.ofNat 47,.ofNat 113,.ofNat 117,.ofNat 105,.ofNat 110,.ofNat 97,.ofNat 114,.ofNat 105,.ofNat 97,.ofNat 108,.ofNat 97,.ofNat 119,.ofNat 48,.ofNat 49,.ofNat 46,.ofNat 76,.ofNat 101,.ofNat 118,.ofNat 101,.ofNat 108,.ofNat 82,.ofNat 101,.ofNat 97,.ofNat 100,.ofNat 115,.ofNat 32,.ofNat 113,.ofNat 117,.ofNat 105,.ofNat 110,.ofNat 97,.ofNat 114,.ofNat 105,.ofNat 97,.ofNat 47,.ofNat 113,.ofNat 117,.ofNat 105,.ofNat 110,.ofNat 97,.ofNat 114,.ofNat 105,.ofNat 97,.ofNat 108,.ofNat 97,.ofNat 119,.ofNat 48,.ofNat 49,.ofNat 46,.ofNat 76,.ofNat 101,.ofNat 118,.ofNat 101,.ofNat 108,.ofNat 83,.ofNat 112,.ofNat 111,.ofNat 105,.ofNat 108,.ofNat 116,.ofNat 32,.ofNat 113,.ofNat 117,.ofNat 105,.ofNat 110,.ofNat 97,.ofNat 114,.ofNat 105,.ofNat 97,.ofNat 47,.ofNat 113,.ofNat 117,.ofNat 105,.ofNat 110,.ofNat 97,.ofNat 114,.ofNat 105,.ofNat 97,.ofNat 108,.ofNat 97,.ofNat 119,.ofNat 48,.ofNat 49,.ofNat 46,.ofNat 76,.ofNat 101,.ofNat 118,.ofNat 101,.ofNat 108,.ofNat 76,.ofNat 111,.ofNat 119,.ofNat 101,.ofNat 115,.ofNat 116,.ofNat 32,.ofNat 113,.ofNat 117,.ofNat 105,.ofNat 110,.ofNat 97,.ofNat 114,.ofNat 105,.ofNat 97,.ofNat 47,.ofNat 113,.ofNat 117,.ofNat 105,.ofNat 110,.ofNat 97,.ofNat 114,.ofNat 105,.ofNat 97,.ofNat 108,.ofNat 97,.ofNat 119,.ofNat 48,.ofNat 49,.ofNat 46,.ofNat 76,.ofNat 101,.ofNat 118,.ofNat 101,.ofNat 108,.ofNat 83,.ofNat 117,.ofNat 114,.ofNat 101,.ofNat 108,.ofNat 121,.ofNat 32,.ofNat 113,.ofNat 117,.ofNat 105,.ofNat 110,.ofNat 97,.ofNat 114,.ofNat 105,.ofNat 97,.ofNat 47,.ofNat 113,.ofNat 117,.ofNat 105,.ofNat 110,.ofNat 97,.ofNat 114,.ofNat 105,.ofNat 97,.ofNat 108,.ofNat 97,.ofNat 119,.ofNat 48,.ofNat 49,.ofNat 46,.ofNat 76,.ofNat 101,.ofNat 118,.ofNat 101,.ofNat 108,.ofNat 72,.ofNat 101,.ofNat 97,.ofNat 100,.ofNat 115,.ofNat 32,.ofNat 113,.ofNat 117,.ofNat 105,.ofNat 110,.ofNat 97,.ofNat 114,.ofNat 105,.ofNat 97,.ofNat 47,.ofNat 113,.ofNat 117,.ofNat 105,.ofNat 110,.ofNat 97,.ofNat 114,.ofNat 105,.ofNat 97,.ofNat 108,.ofNat 97,.ofNat 119,.ofNat 48,.ofNat 49,.ofNat 46,.ofNat 76,.ofNat 101,.ofNat 118,.ofNat 101,.ofNat 108,.ofNat 84,.ofNat 114,.ofNat 117,.ofNat 101,.ofNat 32,.ofNat 113,.ofNat 117,.ofNat 105,.ofNat 110,.ofNat 97,.ofNat 114,.ofNat 105,.ofNat 97,.ofNat 47,.ofNat 113,.ofNat 117,.ofNat 105,.ofNat 110,.ofNat 97,.ofNat 114,.ofNat 105,.ofNat 97,.ofNat 108,.ofNat 97,.ofNat 119,.ofNat 48,.ofNat 49,.ofNat 46,.ofNat 76,.ofNat 101,.ofNat 118,.ofNat 101,.ofNat 108,.ofNat 82,.ofNat 105,.ofNat 110,.ofNat 103,.ofNat 115,.ofNat 32,.ofNat 113,.ofNat 117,.ofNat 105,.ofNat 110,.ofNat 97,.ofNat 114,.ofNat 105,.ofNat 97,.ofNat 47,.ofNat 113,.ofNat 117,.ofNat 105,.ofNat 110,.ofNat 97,.ofNat 114,.ofNat 105,.ofNat 97,.ofNat 108,.ofNat 97,.ofNat 119,.ofNat 48,.ofNat 49,.ofNat 46,.ofNat 76,.ofNat 101,.ofNat 118,.ofNat 101,.ofNat 108,.ofNat 70,.ofNat 105,.ofNat 116,.ofNat 115,.ofNat 32,.ofNat 113,.ofNat 117,.ofNat 105,.ofNat 110,.ofNat 97,.ofNat 114,.ofNat 105,.ofNat 97,.ofNat 47,.ofNat 113,.ofNat 117,.ofNat 105,.ofNat 110,.ofNat 97,.ofNat 114,.ofNat 105,.ofNat 97,.ofNat 108,.ofNat 97,.ofNat 119,.ofNat 48,.ofNat 49,.ofNat 46,.ofNat 76,.ofNat 101,.ofNat 118,.ofNat 101,.ofNat 108,.ofNat 70,.ofNat 101,.ofNat 119,.ofNat 101,.ofNat 115,.ofNat 116,.ofNat 32,.ofNat 113,.ofNat 117,.ofNat 105,.ofNat 110,.ofNat 97,.ofNat 114,.ofNat 105,.ofNat 97,.ofNat 47,.ofNat 113,.ofNat 117,.ofNat 105,.ofNat 110,.ofNat 97,.ofNat 114,.ofNat 105,.ofNat 97,.ofNat 108,.ofNat 97,.ofNat 119,.ofNat 48,.ofNat 49,.ofNat 46,.ofNat 76,.ofNat 101,.ofNat 118,.ofNat 101,.ofNat 108,.ofNat 67,.ofNat 108,.ofNat 111,.ofNat 115,.ofNat 101,.ofNat 100]
theorem init_eq:Tryz.prog.initOrder=initS:=by kernel_rfl
theorem init_lit:initS=String.ofList initL:=by kernel_rfl
theorem init_list:Tryz.prog.initOrder.toList=initL:=by rw [init_eq,init_lit,String.toList_ofList]
def initW:List (List Char):=(behindMainWord (wordsSigns initL)).tail
theorem words_eq:behindMainWord (wordsSigns initL) = "cut".toList :: initW:=by kernel_rfl
theorem words_of:behindMainWord (wordsSigns Tryz.prog.initOrder.toList) = "cut".toList :: initW:=by rw [init_list,words_eq]
theorem strip_cut (W:List (List Char)):stripLifts liftWords ("cut".toList :: W)=([], "cut".toList :: W):=by
 have h:(liftWords.all fun o => !("cut".toList == o.toList))=true:=by decide
 have key:∀ l:List String,(l.all fun o => !("cut".toList == o.toList))=true→stripLifts l ("cut".toList :: W)=([], "cut".toList :: W):=by
  intro l
  induction l with
  | nil=>intro _;rfl
  | cons o l ih =>
   intro h
   rw [zK,zU,Bool.not_eq_true'] at h
   unfold stripLifts
   rw [h.1,if_neg (by decide),ih h.2]
 exact key _ h
theorem head_of {P:Program} {W:List (List Char)} (h:behindMainWord (wordsSigns P.initOrder.toList) = "cut".toList :: W):P.headLifts=[]:=by
 unfold Program.headLifts
 rw [h,strip_cut]
 simp
theorem enter_of {P:Program} {W:List (List Char)} (h:behindMainWord (wordsSigns P.initOrder.toList) = "cut".toList :: W) (h1:P.laysLater=false) (h2:P.bearsReflect=false) (h3:P.doorFits []=true):P.mayEnter=true:=by
 unfold Program.mayEnter
 rw [h]
 simp only []
 rw [strip_cut,h1,h2,h3]
 simp
theorem lifts_of {P:Program} {W:List (List Char)} (h:behindMainWord (wordsSigns P.initOrder.toList) = "cut".toList :: W):P.liftsFinal=false:=by
 unfold Program.liftsFinal
 rw [h,head_of h]
 simp
theorem make_of {P:Program} {W:List (List Char)} (h:behindMainWord (wordsSigns P.initOrder.toList) = "cut".toList :: W):P.make=some .cut:=by
 unfold Program.make
 rw [h]
 simp
theorem enter_eq:Tryz.prog.mayEnter=true:=enter_of words_of (by kernel_rfl) (by kernel_rfl) (by kernel_rfl)
theorem lifts_eq:Tryz.prog.liftsFinal=false:=lifts_of words_of
theorem make_eq:Tryz.prog.make=some .cut:=make_of words_of
theorem rowed_eq:mapsRowed Tryz.prog=true:=by kernel_rfl
theorem heard_eq:Tryz.prog.stopsHeard=true:=by kernel_rfl
end Go.Proofs.YtclmbbofpaecaaaGreatDoor
end

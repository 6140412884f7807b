/- What the six cards share: a world that meets the condition on the listed variables, and what that condition gives a walk. No condition. -/
import Derived.Test.YtjdlhefjgceabaaGreatDoorTie
import Derived.Test.YtjdlhefjgceabaaGreatDoorCards
import Derived.Test.YtjdlhefjgceabaaGreatDoorHm
import Derived.ProofKit
import Derived.OpenShut
import Derived.LaidMore
import Derived.Lay
import Derived.SevenTiedAt
import Derived.Stop.Joined
import Derived.Stop.LaidErr
import Derived.Lib.LaidTab
import Derived.Shelf.Vars
import Derived.SizedLaws
import Derived.Test.YtjdlhefjgceabaaGreatDoorDb2
namespace Go.Proofs.YtjdlhefjgceabaaGreatDoor.Card
open Go.ChangeShapes Go.WideShapes Go.ChangeAt Go.RowKit Go.Proofs.YtjdlhefjgceabaaGreatDoor.Hand
set_option maxRecDepth 100000
abbrev laid:List (String × DataW Unit):=Rows.fnExactFailedLinesRow.laid
theorem own:ownKnob Tryz.prog.godebug = none:=by kernel_rfl
theorem plain:(laid.all fun x=>x.2.handleName?.isNone) = true:=by kernel_rfl
theorem laid_met (os:Os) (args:Array Value):laidMetH Tryz.prog laid ((World.laidAll Tryz.prog os laid).forCall (fun _ _=>0) ⟨#[],args,[]⟩).memory:=by
 rw [MakeChecks.laidMetH_plain _ _ _ plain];exact laidMet_laidAll _ (by kernel_rfl) (by kernel_rfl)
theorem shaped (os:Os) (args:Array Value):((World.laidAll Tryz.prog os laid).forCall (fun _ _=>0) ⟨#[],args,[]⟩).Shaped Tryz.prog:=World.shaped_of_ZipB (by kernel_rfl) (by kernel_rfl)
theorem tab_eq:Rows.laid_internal_strconv_uint64pow10 = Lib.tabData (H:=Unit) .u64 Lib.pow10Tab:=by kernel_rfl
theorem star : "*" ++ "errors.errorString" = "*errors.errorString":=by decide
theorem row_err (u:TypeId) (h:Tryz.prog.typeName? 3 u = some "*errors.errorString"):u = 208 :=
 typeName_ptr_named (nm := "errors.errorString") (by rw [star];kernel_rfl) (by kernel_rfl) (by decide) u (by rw [star];exact h)
theorem glob_of {W:World} (hL0:laidMetH Tryz.prog laid W) (hsh:W.ShapedOpen Tryz.prog):Glob W:=by
 rw [MakeChecks.laidMetH_plain _ _ _ plain] at hL0;have h1:laidMet Tryz.prog (laid.drop 1) W:=laidMet.tail hL0;have h2:laidMet Tryz.prog (laid.drop 2) W:=laidMet.tail h1;have h3:laidMet Tryz.prog (laid.drop 3) W:=laidMet.tail h2;have h4:laidMet Tryz.prog (laid.drop 4) W:=laidMet.tail h3;have h5:laidMet Tryz.prog (laid.drop 5) W:=laidMet.tail h4
 have hg7:Tryz.prog.globalNamed "math/bits.deBruijn64tab" = some 7:=by kernel_rfl
 have htab:Lib.TabIs Tryz.prog W "internal/strconv.uint64pow10" .u64 Lib.pow10Tab :=
  Lib.tabIs_of_head gn_tab (by kernel_rfl:(Tryz.prog.globals[1]?).map (·.type) = some 194) Tryz.underlying194 Tryz.underlying74 (by kernel_rfl) (by kernel_rfl) (show laidMet Tryz.prog (("internal/strconv.uint64pow10",Lib.tabData .u64 Lib.pow10Tab) :: laid.drop 3) W by rw [<- tab_eq];exact h2)
 obtain ⟨a0,s0,hv0,-,-,-⟩:=laid_sentinel h4 gn_ran (by kernel_rfl:(Tryz.prog.globals[5]?).map (·.type) = some 143) Tryz.underlying143 row_err Tryz.underlying208 Tryz.underlying210 rfl rfl Tryz.underlying9 (by kernel_rfl) (by kernel_rfl);obtain ⟨a1,s1,hv1,-,-,-⟩:=laid_sentinel h5 gn_syn (by kernel_rfl:(Tryz.prog.globals[4]?).map (·.type) = some 143) Tryz.underlying143 row_err Tryz.underlying208 Tryz.underlying210 rfl rfl Tryz.underlying9 (by kernel_rfl) (by kernel_rfl);refine ⟨?_,cell_of_shapedOpen_int (t:=3) (zero:=#[.int .i64 0]) hsh (of_decide_eq_true (by kernel_rfl)) (by kernel_rfl) rfl (by kernel_rfl) (by kernel_rfl) Tryz.underlying3,htab,⟨_,_,hv1⟩,⟨_,_,hv0⟩⟩;obtain ⟨ps,⟨g,t,cs,fuel,p,q,hg,ht,hv,hd,_,_⟩,_,_⟩:=h1;obtain rfl:=Option.some.inj (hg7.symm.trans hg)
 have h9:7 < W.heap.size:=by
  unfold World.var? at hv;rw [hg7,Option.bind_some] at hv
  refine Classical.byContradiction fun hn=>?_
  rw [Array.getElem?_eq_none (by omega)] at hv;cases hv
 omega
end Go.Proofs.YtjdlhefjgceabaaGreatDoor.Card
namespace Go.Proofs.YtjdlhefjgceabaaGreatDoor.Card
open Go.ChangeShapes Go.WideShapes Go.ChangeAt Go.RowKit Go.Proofs.YtjdlhefjgceabaaGreatDoor.Hand
open Go.ChangeMaps (open_string shut_string)
set_option linter.unusedVariables false
set_option maxRecDepth 100000 in
theorem desk_lifted (os:Os) (started:os.Started) (H:Type) (enc:TypeId × Value->H) :
  ReturnsInHanded {} Tryz.checked os 5 .any (fun w args=>(Rows.fnExactDeskAfterSpec.pre enc Tryz.prog Tryz.f5 Rows.fnExactDeskAfterRow.domain false w args/\laidMetH Tryz.prog laid w)/\sizedMet enc Tryz.prog Tryz.f5 (OpenSpec.ofChange Rows.fnExactDeskAfterSpec) false w args)
   (Rows.fnExactDeskAfterSpec.post enc Tryz.prog Tryz.f5 false true false false):=by
 refine returnsInHanded_of_calls own started (by kernel_rfl)
  (ChangeSpec.witness_shaped (enc:=enc) (C:=Tryz.checked) (fn:=Tryz.f5) (os:=os) (X:=fun w _=>laidMetH Tryz.prog laid w) false (World.laidAll Tryz.prog os laid) #[.string ⟨#[]⟩] 8 (World.laidAll_os _ _ _)
   (shaped os _) (by kernel_rfl) (by kernel_rfl) (by kernel_rfl) (laid_met os _)) ?_
 intro w tape i _ hsh _ hok hpre hholds;obtain ⟨_,_,_,fn',hfn',_,_,_,_,hval0⟩:=hok;obtain rfl:Tryz.f5 = fn':=Option.some.inj (Tryz.func5.symm.trans hfn');obtain ⟨⟨⟨ds,gs,before,hw,hc⟩,hx⟩,hz⟩:=hpre;have hL:laidMetH Tryz.prog laid (w.forCall tape i):=hx.of_heap (by rfl);have hW:=DataW.Whole.of_heap (w':=w.forCall tape i) (by rfl) hw;have hval:∀ (j:Nat) t v,Tryz.f5.params[j]? = some t->i.args[j]? = some v->Value.okWide Tryz.prog (w.forCall tape i) .any w.heap.size t v:=hval0;have hW':=hW;obtain ⟨p,q,hA0,hV,rfl,_,_⟩:=hW;have hA:DataW.TrodAll enc Tryz.prog (w.forCall tape i) 0 (fun _=>true) true Tryz.f5.params.toList i.args.toList ds p:=hA0;rw [Tryz.params5] at hA hval;obtain ⟨v0,d0,ea,rfl,h0⟩:=trodAll_one hA;obtain ⟨rfl,rfl⟩:=trodVars_none hV;obtain ⟨a0,rfl,rfl,rfl,y0⟩:=open_string Tryz.underlying9 (hval 0 9 v0 rfl (by rw [ea];rfl)) h0;have hg:=glob_of hL hsh;clear hA0 hval0;rw [ea] at hW';rw [ea]
 refine (law_every_desk a0 (w.forCall tape i) hg).mono fun e W' ⟨he,bel⟩=>?_
 subst he;exact ChangeSpec.post_blind ⟨_,_,_,[],_,[],hW',trodAll_mk1 (shut_bool Tryz.underlying4 _),trodAll_mk1 (shut_string Tryz.underlying9 y0),rfl,bel.frame _,fun h=>by cases h⟩
theorem desk_row:Rows.FnExactDeskAfterSaid :=
 OpenClaim.holds_of_wide 5 Tryz.f5 rfl rfl rfl rfl rfl rfl rfl ⟨rfl,rfl,rfl,rfl,rfl⟩ rfl rfl rfl rfl rfl (by kernel_rfl) Tryz.func5 (by kernel_rfl)
  (of_decide_eq_true (by kernel_rfl)) (by unfold Func.isWrapper;first | (rw [if_pos (by decide +kernel)];kernel_rfl) | (rw [if_neg (by decide +kernel)];exact ⟨rfl,rfl⟩))
  (fun os started H enc _=>desk_lifted os started H enc)
theorem desk_card:Rows.FnExactDeskAfterCardSaid :=
 Claim7.holds_tied_plain_at .later [] [.data,.data,.data,.data,.sentinel,.sentinel,.pinned] true (true,"55fcb4c5f02d6856b87b573d3be4113fdff9e3bedf1d72c69531b4ed27729133") true desk_row (fun _ h=>by cases h) (by kernel_rfl) (fun _ h=>by cases h) fnExactDeskAfter_row_tie rfl ⟨rfl,rfl⟩ (by kernel_rfl) rfl
  (fun f fn hf hfn=>by
   obtain rfl:f = 5:=Option.some.inj ((show Tryz.prog.funcNamed "loop.example/g01115/laws.FnExactDeskAfter" = some 5 by kernel_rfl).symm.trans hf) |>.symm;obtain rfl:fn = Tryz.f5:=(Option.some.inj (Tryz.func5.symm.trans hfn)).symm
   exact ⟨by kernel_rfl,fun j t ht=>by
    rw [Tryz.params5] at ht
    have hm:t ∈ [9]:=by simpa using Array.mem_of_getElem? ht
    have hall:([9].all fun u=>!Tryz.prog.wantsStandIn u) = true:=by kernel_rfl
    exact (show Tryz.prog.wantsStandIn t = false by simpa using List.all_eq_true.1 hall t hm)⟩)
  (by kernel_rfl)
end Go.Proofs.YtjdlhefjgceabaaGreatDoor.Card
namespace Go.Proofs.YtjdlhefjgceabaaGreatDoor
theorem fnExactDeskAfter_holds:Rows.FnExactDeskAfterCardSaid:=Card.desk_card
#print axioms fnExactDeskAfter_holds
end Go.Proofs.YtjdlhefjgceabaaGreatDoor

/- What the six cards share: a world that meets the condition on the listed variables, and what that condition gives a walk. No condition. -/
import Derived.Test.YtjdlhefjgceabaaGreatDoorTie
import Derived.Test.YtjdlhefjgceabaaGreatDoorCards
import Derived.ProofKit
import Derived.LaidMore
import Derived.Lay
import Derived.SevenTiedAt
import Derived.Stop.Joined
import Derived.Stop.LaidErr
import Derived.Lib.LaidTab
import Derived.Shelf.Vars
import Derived.SizedLaws
import Derived.Test.YtjdlhefjgceabaaGreatDoorDs4
import Derived.ChangeSlices
set_option linter.unusedVariables false
namespace Go.Proofs.YtjdlhefjgceabaaGreatDoor.Card
open Go.ChangeShapes Go.WideShapes Go.ChangeAt Go.RowKit Hand
set_option maxRecDepth 100000
abbrev laid:List (String × DataW Unit):=Rows.fnExactFailedLinesRow.laid
theorem own:ownKnob Tryz.prog.godebug=none:=by kernel_rfl
theorem plain:(laid.all λx=>x.2.handleName?.isNone)=true:=by kernel_rfl
theorem E5(os:Os)(args:Array Value):laidMetH Tryz.prog laid ((World.laidAll Tryz.prog os laid).forCall (λ_ _=>0) ⟨#[],args,[]⟩).memory:=by
 rw[MakeChecks.laidMetH_plain _ _ _ plain];exact laidMet_laidAll _ (by kernel_rfl) (by kernel_rfl)
theorem shaped(os:Os)(args:Array Value):((World.laidAll Tryz.prog os laid).forCall (λ_ _=>0) ⟨#[],args,[]⟩).Shaped Tryz.prog:=World.shaped_of_ZipB (by kernel_rfl) (by kernel_rfl)
theorem FR:Rows.laid_internal_strconv_uint64pow10=Lib.tabData (H:=Unit) .u64 Lib.pow10Tab:=by kernel_rfl
theorem star : "*" ++ "errors.errorString" = "*errors.errorString":=by decide
theorem wT (u:TypeId) (h:Tryz.prog.typeName? 3 u=some "*errors.errorString"):u=208 :=
 typeName_ptr_named (nm := "errors.errorString") (by rw[star];kernel_rfl) (by kernel_rfl) (by decide) u (by rw[star];exact h)
theorem FD{W:World}(hL0:laidMetH Tryz.prog laid W)(hsh:W.ShapedOpen Tryz.prog):dG W:=by
 rw[MakeChecks.laidMetH_plain _ _ _ plain]at hL0;have h1:laidMet Tryz.prog (laid.drop 1) W:=laidMet.tail hL0;have h2:laidMet Tryz.prog (laid.drop 2) W:=laidMet.tail h1;have h3:laidMet Tryz.prog (laid.drop 3) W:=laidMet.tail h2;have h4:laidMet Tryz.prog (laid.drop 4) W:=laidMet.tail h3;have h5:laidMet Tryz.prog (laid.drop 5) W:=laidMet.tail h4
 have hg7:Tryz.prog.globalNamed "math/bits.deBruijn64tab"=some 7:=by kernel_rfl
 have htab:Lib.TabIs Tryz.prog W "internal/strconv.uint64pow10" .u64 Lib.pow10Tab :=
  Lib.tabIs_of_head zQ (by kernel_rfl:(Tryz.prog.globals[1]?).map (·.type)=some 194) Tryz.underlying194 Tryz.underlying74 (by kernel_rfl) (by kernel_rfl) (show laidMet Tryz.prog (("internal/strconv.uint64pow10",Lib.tabData .u64 Lib.pow10Tab) :: laid.drop 3) W by rw[<- FR];exact h2)
 obtain ⟨a0,s0,hv0,-,-,-⟩:=laid_sentinel h4 wB (by kernel_rfl:(Tryz.prog.globals[5]?).map (·.type)=some 143) Tryz.underlying143 wT Tryz.underlying208 Tryz.underlying210 rfl rfl Tryz.underlying9 (by kernel_rfl) (by kernel_rfl);obtain ⟨a1,s1,hv1,-,-,-⟩:=laid_sentinel h5 Ah (by kernel_rfl:(Tryz.prog.globals[4]?).map (·.type)=some 143) Tryz.underlying143 wT Tryz.underlying208 Tryz.underlying210 rfl rfl Tryz.underlying9 (by kernel_rfl) (by kernel_rfl);refine ⟨?_,cell_of_shapedOpen_int (t:=3) (zero:=#[.int .i64 0]) hsh (of_decide_eq_true (by kernel_rfl)) (by kernel_rfl) rfl (by kernel_rfl) (by kernel_rfl) Tryz.underlying3,htab,⟨_,_,hv1⟩,⟨_,_,hv0⟩⟩;obtain ⟨ps,⟨g,t,cs,fuel,p,q,hg,ht,hv,hd,_,_⟩,_,_⟩:=h1;obtain rfl:=Option.some.inj (hg7.symm.trans hg)
 have h9:7<W.heap.size:=by
  unfold World.var? at hv;rw[hg7,Option.bind_some]at hv
  refine Classical.byContradiction λhn=>?_
  rw[Array.getElem?_eq_none (by omega)]at hv;cases hv
 omega
end Go.Proofs.YtjdlhefjgceabaaGreatDoor.Card
namespace Go.Proofs.YtjdlhefjgceabaaGreatDoor.Card
open Go.ChangeShapes Go.WideShapes Go.ChangeAt Go.RowKit Hand
open Go.ChangeMaps (open_string shut_string)
open YtjdlhefjgceabaaGreatDoorW.PrintWords
theorem laidOut:laidOutB Tryz.prog=true:=by kernel_rfl
def qJ(k:IntKind)(w:World)(a:Option Addr)(len cap:Nat)(zs:List Int):Prop :=
 (a=none/\len=0/\cap=0/\zs=[]) \/
 ∃x,a=some x/\len<=cap/\cap<=maxLen/\zs.length=cap/\(∀i,i<zs.length->w.cell? (x.add i)=some (.int k (zs.getD i 0)))/\∀n∈zs,(Lit.int k n).wf=true
theorem vX{H:Type}{enc:TypeId × Value->H}{W:World}{fuel:Nat}{c:List Value}{y:DataW H × List MemPlace}{a:Option Addr}{len cap:Nat}(hc:c=[.slice a len cap])(hf:DataW.trod enc Tryz.prog W 0 (λ_=>true) true fuel 49 c=some y) :
  ∃zs,qJ .u8 W a len cap zs:=by
 subst hc
 rcases open_ints Tryz.underlying49 Tryz.underlying5 (by kernel_rfl) hf with ⟨hcs,_⟩|⟨x,l,c',zs,hcs,_,hl,hm,hz,_,hcell,hwz⟩
 ·
  simp at hcs;obtain ⟨rfl,rfl,rfl⟩:=hcs;exact ⟨[],.inl ⟨rfl,rfl,rfl,rfl⟩⟩
 ·
  simp at hcs;obtain ⟨rfl,rfl,rfl⟩:=hcs;exact ⟨zs,.inr ⟨_,rfl,hl,hm,by simpa using hz,hcell,hwz⟩⟩
theorem Br(a0:Option Addr)(len0 cap0:Nat)(z0:List Int)(a1:Option Addr)(len1 cap1:Nat)(z1:List Int)(w:World)(w0:qJ .u8 w a0 len0 cap0 z0)(w1:qJ .u8 w a1 len1 cap1 z1)(hG:dG w) :
  Calls Tryz.prog 8 #[.slice a0 len0 cap0,.slice a1 len1 cap1] w λe W'=>e=.returned (.bool true)/\Below w.heap.size w W':=by
 obtain ⟨l0,rfl,hr0,hm0,hw0,hc0⟩:=jW.ofRowC w0;obtain ⟨l1,rfl,hr1,hm1,hw1,hc1⟩:=jW.ofRowC w1;exact Iz l0 l1 _ _ _ _ w (Kd.C_of_reads (d:=(0:Int)) (h1:=λ_=>rfl) hr0) hc0 (Kd.C_of_reads (d:=(0:Int)) (h1:=λ_=>rfl) hr1) hc1 (Plain.bytes_of hw0) hG
set_option maxHeartbeats 400000 in
set_option maxRecDepth 100000 in
theorem FN(os:Os)(started:os.Started)(H:Type)(enc:TypeId × Value->H) :
  ReturnsInHanded {} Tryz.checked os 8 .any (λw args=>(Rows.fnDeskScriptsSpec.pre enc Tryz.prog Tryz.f8 Rows.fnDeskScriptsRow.domain false w args/\laidMetH Tryz.prog laid w)/\sizedMet enc Tryz.prog Tryz.f8 (OpenSpec.ofChange Rows.fnDeskScriptsSpec) false w args)
   (Rows.fnDeskScriptsSpec.post enc Tryz.prog Tryz.f8 false true false false):=by
 refine returnsInHanded_of_calls own started (by kernel_rfl)
  (ChangeSpec.witness_shaped (enc:=enc) (C:=Tryz.checked) (fn:=Tryz.f8) (os:=os) (X:=λw _=>laidMetH Tryz.prog laid w) false (World.laidAll Tryz.prog os laid) #[.slice none 0 0,.slice none 0 0] 8 (World.laidAll_os _ _ _)
   (shaped os _) (by kernel_rfl) (by kernel_rfl) (by kernel_rfl) (E5 os _)) ?_
 intro w tape i _ hsh _ hok hpre hholds;obtain ⟨_,_,_,fn',hfn',_,_,_,_,hval0⟩:=hok;obtain rfl:Tryz.f8=fn':=Option.some.inj (Tryz.func8.symm.trans hfn');obtain ⟨⟨⟨ds,gs,before,hw,hc⟩,hx⟩,hz⟩:=hpre;have hL:laidMetH Tryz.prog laid (w.forCall tape i):=hx.of_heap (by rfl);have hW:=DataW.Whole.of_heap (w':=w.forCall tape i) (by rfl) hw;have hval:∀ (j:Nat) t v,Tryz.f8.params[j]?=some t->i.args[j]?=some v->Value.okWide Tryz.prog (w.forCall tape i) .any w.heap.size t v:=hval0;have hW':=hW;obtain ⟨p,q,hA0,hV,rfl,_,_⟩:=hW;have hA:DataW.TrodAll enc Tryz.prog (w.forCall tape i) 0 (λ_=>true) true Tryz.f8.params.toList i.args.toList ds p:=hA0;rw[Tryz.params8]at hA hval;obtain ⟨v0,vs0,d0,ds0,p0,q0,hargs,rfl,rfl,h0,r0⟩:=trodAll_cons hA;obtain ⟨v1,vs1,d1,ds1,p1,q1,rfl,rfl,rfl,h1,r1⟩:=trodAll_cons r0;obtain ⟨rfl,rfl,rfl⟩:=trodAll_nil r1;have ea:i.args=#[v0,v1]:=(Array.toList_inj (xs:=i.args) (ys:=#[v0,v1])).1 hargs;obtain ⟨rfl,rfl⟩:=trodVars_none hV;obtain ⟨a0,len0,cap0,rfl⟩:=okWide_slice Tryz.underlying49 (hval 0 49 v0 rfl (by rw[ea];rfl));obtain ⟨a1,len1,cap1,rfl⟩:=okWide_slice Tryz.underlying49 (hval 1 49 v1 rfl (by rw[ea];rfl));have k0:=h0;have k1:=h1
 have lt0:∀x∈p0,x.block<(w.forCall tape i).heap.size:=by obtain ⟨m,hm⟩:=k0;exact DataW.trod_lt m _ _ _ hm
 have lt1:∀x∈p1,x.block<(w.forCall tape i).heap.size:=by obtain ⟨m,hm⟩:=k1;exact DataW.trod_lt m _ _ _ hm
 obtain ⟨z0,w0⟩:∃zs,qJ .u8 (w.forCall tape i) a0 len0 cap0 zs:=by
  obtain ⟨fuel,hf⟩:=h0;exact vX (by simp[Value.cells]) hf
 obtain ⟨z1,w1⟩:∃zs,qJ .u8 (w.forCall tape i) a1 len1 cap1 zs:=by
  obtain ⟨fuel,hf⟩:=h1;exact vX (by simp[Value.cells]) hf
 have hg:=FD hL hsh;clear hA0 hval0;rw[ea]at hW';rw[ea]
 refine (Br a0 len0 cap0 z0 a1 len1 cap1 z1 (w.forCall tape i) w0 w1 hg).mono λe W' ⟨he,bel⟩=>?_
 subst he;exact ChangeSpec.post_blind ⟨_,_,_,[],_,[],hW',trodAll_mk1 (shut_bool Tryz.underlying4 _),(trodAll_cons_mk (Below.trod laidOut (by kernel_rfl) (of_decide_eq_true (by kernel_rfl)) k0 bel lt0) (trodAll_cons_mk (Below.trod laidOut (by kernel_rfl) (of_decide_eq_true (by kernel_rfl)) k1 bel lt1) trodAll_mk0)),rfl,bel.frame _,λh=>by cases h⟩
theorem IX:Rows.FnDeskScriptsSaid :=
 OpenClaim.holds_of_wide 8 Tryz.f8 rfl rfl rfl rfl rfl rfl rfl ⟨rfl,rfl,rfl,rfl,rfl⟩ rfl rfl rfl rfl rfl (by kernel_rfl) Tryz.func8 (by kernel_rfl)
  (of_decide_eq_true (by kernel_rfl)) (by unfold Func.isWrapper;first|(rw[if_pos (by decide +kernel)];kernel_rfl)|(rw[if_neg (by decide +kernel)];exact ⟨rfl,rfl⟩))
  (λos started H enc _=>FN os started H enc)
theorem scripts_card:Rows.FnDeskScriptsCardSaid :=
 Claim7.holds_tied_plain_at .later [] [.data,.data,.data,.data,.sentinel,.sentinel,.pinned] true (true,"55fcb4c5f02d6856b87b573d3be4113fdff9e3bedf1d72c69531b4ed27729133") true IX (λ_ h=>by cases h) (by kernel_rfl) (λ_ h=>by cases h) fnDeskScripts_row_tie rfl ⟨rfl,rfl⟩ (by kernel_rfl) rfl
  (λf fn hf hfn=>by
   obtain rfl:f=8:=Option.some.inj ((show Tryz.prog.funcNamed "loop.example/g01115/laws.FnDeskScripts"=some 8 by kernel_rfl).symm.trans hf) |>.symm;obtain rfl:fn=Tryz.f8:=(Option.some.inj (Tryz.func8.symm.trans hfn)).symm
   exact ⟨by kernel_rfl,λj t ht=>by
    rw[Tryz.params8]at ht
    have hm:t∈[49,49]:=by simpa using Array.mem_of_getElem? ht
    have hall:([49,49].all λu=>!Tryz.prog.wantsStandIn u)=true:=by kernel_rfl
    exact (show Tryz.prog.wantsStandIn t=false by simpa using List.all_eq_true.1 hall t hm)⟩)
  (by kernel_rfl)
end Go.Proofs.YtjdlhefjgceabaaGreatDoor.Card
namespace Go.Proofs.YtjdlhefjgceabaaGreatDoor
theorem fnDeskScripts_holds:Rows.FnDeskScriptsCardSaid:=Card.scripts_card
#print axioms fnDeskScripts_holds
end Go.Proofs.YtjdlhefjgceabaaGreatDoor

/- What the six cards share: a world that meets the condition on the listed variables, and what that condition gives a walk. No condition. -/
import Derived.Test.YtjdlhefjgceabaaGreatDoorTie
import Derived.Test.YtjdlhefjgceabaaGreatDoorCards
import Derived.Test.YtjdlhefjgceabaaGreatDoorHm3
import Derived.ProofKit
import Derived.OpenShut
import Derived.LaidMore
import Derived.Lay
import Derived.SevenTiedAt
import Derived.Stop.Joined
import Derived.Stop.LaidErr
import Derived.Lib.LaidTab
import Derived.Shelf.Vars
import Derived.SizedLaws
import Derived.Test.YtjdlhefjgceabaaGreatDoorDb3
import Derived.ChangeSlices
namespace Go.Proofs.YtjdlhefjgceabaaGreatDoor.Card
open Go.ChangeShapes Go.WideShapes Go.ChangeAt Go.RowKit Go.Proofs.YtjdlhefjgceabaaGreatDoor.Hand
set_option maxRecDepth 100000
abbrev laid:List (String × DataW Unit):=Rows.fnExactFailedLinesRow.laid
theorem own:ownKnob Tryz.prog.godebug = none:=by kernel_rfl
theorem plain:(laid.all fun x=>x.2.handleName?.isNone) = true:=by kernel_rfl
theorem laid_met (os:Os) (args:Array Value):laidMetH Tryz.prog laid ((World.laidAll Tryz.prog os laid).forCall (fun _ _=>0) ⟨#[],args,[]⟩).memory:=by
 rw [MakeChecks.laidMetH_plain _ _ _ plain];exact laidMet_laidAll _ (by kernel_rfl) (by kernel_rfl)
theorem shaped (os:Os) (args:Array Value):((World.laidAll Tryz.prog os laid).forCall (fun _ _=>0) ⟨#[],args,[]⟩).Shaped Tryz.prog:=World.shaped_of_ZipB (by kernel_rfl) (by kernel_rfl)
theorem tab_eq:Rows.laid_internal_strconv_uint64pow10 = Lib.tabData (H:=Unit) .u64 Lib.pow10Tab:=by kernel_rfl
theorem star : "*" ++ "errors.errorString" = "*errors.errorString":=by decide
theorem row_err (u:TypeId) (h:Tryz.prog.typeName? 3 u = some "*errors.errorString"):u = 208 :=
 typeName_ptr_named (nm := "errors.errorString") (by rw [star];kernel_rfl) (by kernel_rfl) (by decide) u (by rw [star];exact h)
theorem glob_of {W:World} (hL0:laidMetH Tryz.prog laid W) (hsh:W.ShapedOpen Tryz.prog):Glob W:=by
 rw [MakeChecks.laidMetH_plain _ _ _ plain] at hL0;have h1:laidMet Tryz.prog (laid.drop 1) W:=laidMet.tail hL0;have h2:laidMet Tryz.prog (laid.drop 2) W:=laidMet.tail h1;have h3:laidMet Tryz.prog (laid.drop 3) W:=laidMet.tail h2;have h4:laidMet Tryz.prog (laid.drop 4) W:=laidMet.tail h3;have h5:laidMet Tryz.prog (laid.drop 5) W:=laidMet.tail h4
 have hg7:Tryz.prog.globalNamed "math/bits.deBruijn64tab" = some 7:=by kernel_rfl
 have htab:Lib.TabIs Tryz.prog W "internal/strconv.uint64pow10" .u64 Lib.pow10Tab :=
  Lib.tabIs_of_head gn_tab (by kernel_rfl:(Tryz.prog.globals[1]?).map (·.type) = some 194) Tryz.underlying194 Tryz.underlying74 (by kernel_rfl) (by kernel_rfl) (show laidMet Tryz.prog (("internal/strconv.uint64pow10",Lib.tabData .u64 Lib.pow10Tab) :: laid.drop 3) W by rw [<- tab_eq];exact h2)
 obtain ⟨a0,s0,hv0,-,-,-⟩:=laid_sentinel h4 gn_ran (by kernel_rfl:(Tryz.prog.globals[5]?).map (·.type) = some 143) Tryz.underlying143 row_err Tryz.underlying208 Tryz.underlying210 rfl rfl Tryz.underlying9 (by kernel_rfl) (by kernel_rfl);obtain ⟨a1,s1,hv1,-,-,-⟩:=laid_sentinel h5 gn_syn (by kernel_rfl:(Tryz.prog.globals[4]?).map (·.type) = some 143) Tryz.underlying143 row_err Tryz.underlying208 Tryz.underlying210 rfl rfl Tryz.underlying9 (by kernel_rfl) (by kernel_rfl);refine ⟨?_,cell_of_shapedOpen_int (t:=3) (zero:=#[.int .i64 0]) hsh (of_decide_eq_true (by kernel_rfl)) (by kernel_rfl) rfl (by kernel_rfl) (by kernel_rfl) Tryz.underlying3,htab,⟨_,_,hv1⟩,⟨_,_,hv0⟩⟩;obtain ⟨ps,⟨g,t,cs,fuel,p,q,hg,ht,hv,hd,_,_⟩,_,_⟩:=h1;obtain rfl:=Option.some.inj (hg7.symm.trans hg)
 have h9:7 < W.heap.size:=by
  unfold World.var? at hv;rw [hg7,Option.bind_some] at hv
  refine Classical.byContradiction fun hn=>?_
  rw [Array.getElem?_eq_none (by omega)] at hv;cases hv
 omega
end Go.Proofs.YtjdlhefjgceabaaGreatDoor.Card
namespace Go.Proofs.YtjdlhefjgceabaaGreatDoor.Card
open Go.ChangeShapes Go.WideShapes Go.ChangeAt Go.RowKit Go.Proofs.YtjdlhefjgceabaaGreatDoor.Hand
open Go.ChangeMaps (open_string shut_string)
open Go.Proofs.YtjdlhefjgceabaaGreatDoorW.PrintWords
set_option linter.unusedVariables false
theorem laidOut:laidOutB Tryz.prog = true:=by kernel_rfl
def IsRow (k:IntKind) (w:World) (a:Option Addr) (len cap:Nat) (zs:List Int):Prop :=
 (a = none/\len = 0/\cap = 0/\zs = []) \/
 ∃ x,a = some x/\len<=cap/\cap<=maxLen/\zs.length = cap/\(∀ i,i < zs.length->w.cell? (x.add i) = some (.int k (zs.getD i 0)))/\∀ n ∈ zs,(Lit.int k n).wf = true
theorem open_row_ {H:Type} {enc:TypeId × Value->H} {W:World} {fuel:Nat} {c:Value} {y:DataW H × List MemPlace} (hf:DataW.trod enc Tryz.prog W 0 (fun _=>true) true fuel 22 [c] = some y) :
  ∃ a len cap zs,c = .slice a len cap/\IsRow .i64 W a len cap zs:=by
 rcases open_ints Tryz.underlying22 Tryz.underlying3 (by kernel_rfl) hf with ⟨hcs,_⟩ | ⟨x,l,c',zs,hcs,_,hl,hm,hz,_,hcell,hwz⟩
 ·
  simp only [List.cons.injEq,and_true] at hcs;exact ⟨none,0,0,[],hcs,.inl ⟨rfl,rfl,rfl,rfl⟩⟩
 ·
  simp only [List.cons.injEq,and_true] at hcs;exact ⟨_,l,c',zs,hcs,.inr ⟨_,rfl,hl,hm,by simpa using hz,hcell,hwz⟩⟩
theorem two_ {cs:Array Value} (h:cs.size = 2):∃ c0 c1,cs = #[c0,c1]:=by
 obtain ⟨l⟩:=cs
 match l,h with
 | [c0,c1],_=>exact ⟨c0,c1,rfl⟩
theorem walk (a0:Option Addr) (len0 cap0:Nat) (z0:List Int) (a1:Option Addr) (len1 cap1:Nat) (z1:List Int) (s:ByteArray) (w:World) (w0:IsRow .i64 w a0 len0 cap0 z0) (w1:IsRow .i64 w a1 len1 cap1 z1) (hG:Glob w) :
  Calls Tryz.prog 6 #[.agg #[.slice a0 len0 cap0,.slice a1 len1 cap1],.string s] w fun e W'=>e = .returned (.bool true)/\Below w.heap.size w W':=by
 obtain ⟨l0,rfl,hr0,hm0,hw0,hc0⟩:=ReadsInt.ofRowC w0;obtain ⟨l1,rfl,hr1,hm1,hw1,hc1⟩:=ReadsInt.ofRowC w1;exact law_every_line l0 l1 _ _ _ _ s w ⟨Kd.C_of_reads (d:=(0:Int)) (h1:=fun _=>rfl) hr0,hc0⟩ ⟨Kd.C_of_reads (d:=(0:Int)) (h1:=fun _=>rfl) hr1,hc1⟩ (Nat.le_trans hm0 (by decide)) (Nat.le_trans hm1 (by decide)) hG
set_option maxHeartbeats 400000 in
set_option maxRecDepth 100000 in
theorem line_lifted (os:Os) (started:os.Started) (H:Type) (enc:TypeId × Value->H) :
  ReturnsInHanded {} Tryz.checked os 6 .any (fun w args=>(Rows.fnExactDeskLineSpec.pre enc Tryz.prog Tryz.f6 Rows.fnExactDeskLineRow.domain false w args/\laidMetH Tryz.prog laid w)/\sizedMet enc Tryz.prog Tryz.f6 (OpenSpec.ofChange Rows.fnExactDeskLineSpec) false w args)
   (Rows.fnExactDeskLineSpec.post enc Tryz.prog Tryz.f6 false true false false):=by
 refine returnsInHanded_of_calls own started (by kernel_rfl)
  (ChangeSpec.witness_shaped (enc:=enc) (C:=Tryz.checked) (fn:=Tryz.f6) (os:=os) (X:=fun w _=>laidMetH Tryz.prog laid w) false (World.laidAll Tryz.prog os laid) #[.agg #[.slice none 0 0,.slice none 0 0],.string ⟨#[]⟩] 8 (World.laidAll_os _ _ _)
   (shaped os _) (by kernel_rfl) (by kernel_rfl) (by kernel_rfl) (laid_met os _)) ?_
 intro w tape i _ hsh _ hok hpre hholds;obtain ⟨_,_,_,fn',hfn',_,_,_,_,hval0⟩:=hok;obtain rfl:Tryz.f6 = fn':=Option.some.inj (Tryz.func6.symm.trans hfn');obtain ⟨⟨⟨ds,gs,before,hw,hc⟩,hx⟩,hz⟩:=hpre;have hL:laidMetH Tryz.prog laid (w.forCall tape i):=hx.of_heap (by rfl);have hW:=DataW.Whole.of_heap (w':=w.forCall tape i) (by rfl) hw;have hval:∀ (j:Nat) t v,Tryz.f6.params[j]? = some t->i.args[j]? = some v->Value.okWide Tryz.prog (w.forCall tape i) .any w.heap.size t v:=hval0;have hW':=hW;obtain ⟨p,q,hA0,hV,rfl,_,_⟩:=hW;have hA:DataW.TrodAll enc Tryz.prog (w.forCall tape i) 0 (fun _=>true) true Tryz.f6.params.toList i.args.toList ds p:=hA0;rw [Tryz.params6] at hA hval;obtain ⟨v0,vs0,d0,ds0,p0,q0,hargs,rfl,rfl,h0,r0⟩:=trodAll_cons hA;obtain ⟨v1,vs1,d1,ds1,p1,q1,rfl,rfl,rfl,h1,r1⟩:=trodAll_cons r0;obtain ⟨rfl,rfl,rfl⟩:=trodAll_nil r1;have ea:i.args = #[v0,v1]:=(Array.toList_inj (xs:=i.args) (ys:=#[v0,v1])).1 hargs;obtain ⟨rfl,rfl⟩:=trodVars_none hV;have k0:=h0
 have lt0:∀ x ∈ p0,x.block < (w.forCall tape i).heap.size:=by obtain ⟨m,hm⟩:=k0;exact DataW.trod_lt m _ _ _ hm
 obtain ⟨cs,rfl,hsz⟩:=okWide_struct Tryz.underlying43 (hval 0 43 v0 rfl (by rw [ea];rfl));obtain ⟨s0,rfl,rfl,rfl,y0⟩:=open_string Tryz.underlying9 (hval 1 9 v1 rfl (by rw [ea];rfl)) h1;rw [show Tryz.prog.cellsOf 43 = 2 by kernel_rfl] at hsz;obtain ⟨c0,c1,rfl⟩:=two_ hsz;obtain ⟨fuel,hf⟩:=h0;obtain ⟨x0,x1,m,hx1,_,hy0,hy1⟩:=trod_struct2 Tryz.underlying43 hf
 have hy0':DataW.trod enc Tryz.prog (w.forCall tape i) 0 (fun _=>true) true m 22 [c0] = some x0:=by simpa [Value.cells,show Tryz.prog.cellsOf 22 = 1 by kernel_rfl] using hy0
 have hy1'':DataW.trod enc Tryz.prog (w.forCall tape i) 0 (fun _=>true) true m 41 [c1] = some x1:=by simpa [Value.cells,show Tryz.prog.cellsOf 41 = 1 by kernel_rfl] using hy1
 obtain ⟨x2,m2,hx2,_,hy2⟩:=trod_struct1 Tryz.underlying41 hy1''
 have hy1':DataW.trod enc Tryz.prog (w.forCall tape i) 0 (fun _=>true) true m2 22 [c1] = some x2:=by simpa [Value.cells,show Tryz.prog.cellsOf 22 = 1 by kernel_rfl] using hy2
 obtain ⟨a0,len0,cap0,z0,rfl,w0⟩:=open_row_ hy0';obtain ⟨a1,len1,cap1,z1,rfl,w1⟩:=open_row_ hy1';have hg:=glob_of hL hsh;clear hA0 hval0;rw [ea] at hW';rw [ea]
 refine (walk a0 len0 cap0 z0 a1 len1 cap1 z1 s0 (w.forCall tape i) w0 w1 hg).mono fun e W' ⟨he,bel⟩=>?_
 subst he;exact ChangeSpec.post_blind ⟨_,_,_,[],_,[],hW',trodAll_mk1 (shut_bool Tryz.underlying4 _),(trodAll_cons_mk (Below.trod laidOut (by kernel_rfl) (of_decide_eq_true (by kernel_rfl)) k0 bel lt0) (trodAll_mk1 (shut_string Tryz.underlying9 y0))),rfl,bel.frame _,fun h=>by cases h⟩
theorem line_row:Rows.FnExactDeskLineSaid :=
 OpenClaim.holds_of_wide 6 Tryz.f6 rfl rfl rfl rfl rfl rfl rfl ⟨rfl,rfl,rfl,rfl,rfl⟩ rfl rfl rfl rfl rfl (by kernel_rfl) Tryz.func6 (by kernel_rfl)
  (of_decide_eq_true (by kernel_rfl)) (by unfold Func.isWrapper;first | (rw [if_pos (by decide +kernel)];kernel_rfl) | (rw [if_neg (by decide +kernel)];exact ⟨rfl,rfl⟩))
  (fun os started H enc _=>line_lifted os started H enc)
theorem line_card:Rows.FnExactDeskLineCardSaid :=
 Claim7.holds_tied_plain_at .later [] [.data,.data,.data,.data,.sentinel,.sentinel,.pinned] true (true,"55fcb4c5f02d6856b87b573d3be4113fdff9e3bedf1d72c69531b4ed27729133") true line_row (fun _ h=>by cases h) (by kernel_rfl) (fun _ h=>by cases h) fnExactDeskLine_row_tie rfl ⟨rfl,rfl⟩ (by kernel_rfl) rfl
  (fun f fn hf hfn=>by
   obtain rfl:f = 6:=Option.some.inj ((show Tryz.prog.funcNamed "loop.example/g01115/laws.FnExactDeskLine" = some 6 by kernel_rfl).symm.trans hf) |>.symm;obtain rfl:fn = Tryz.f6:=(Option.some.inj (Tryz.func6.symm.trans hfn)).symm
   exact ⟨by kernel_rfl,fun j t ht=>by
    rw [Tryz.params6] at ht
    have hm:t ∈ [43,9]:=by simpa using Array.mem_of_getElem? ht
    have hall:([43,9].all fun u=>!Tryz.prog.wantsStandIn u) = true:=by kernel_rfl
    exact (show Tryz.prog.wantsStandIn t = false by simpa using List.all_eq_true.1 hall t hm)⟩)
  (by kernel_rfl)
end Go.Proofs.YtjdlhefjgceabaaGreatDoor.Card
namespace Go.Proofs.YtjdlhefjgceabaaGreatDoor
theorem fnExactDeskLine_holds:Rows.FnExactDeskLineCardSaid:=Card.line_card
#print axioms fnExactDeskLine_holds
end Go.Proofs.YtjdlhefjgceabaaGreatDoor

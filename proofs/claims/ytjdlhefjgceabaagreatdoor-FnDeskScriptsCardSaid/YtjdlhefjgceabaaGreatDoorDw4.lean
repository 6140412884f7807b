-- written by a program of this session (wip/gen/xpatch.py over the translation); Lean checks it
import Derived.OpenShut
import Derived.Laws.Bits64b
import Derived.Test.YtjdlhefjgceabaaGreatDoorPm4
set_option linter.unusedVariables false
set_option linter.unusedSimpArgs false
namespace Go.Proofs.YtjdlhefjgceabaaGreatDoor.PDr
open Go.RowKit Hand YtjdlhefjgceabaaGreatDoorW.PrintWords YtjdlhefjgceabaaGreatDoorW.PrintLast YtjdlhefjgceabaaGreatDoorW.PrintMore
attribute [local go_sem] l8 mF lZ mo mr mK nI mQ   -- for this text's walks alone
def pW:Option Int->Value
  | none=>.nilIface
  | some c=>.iface 0 (.int .i64 c)
theorem ig:pW none=.nilIface:=rfl
theorem ic(c:Int):pW (some c)=.iface 0 (.int .i64 c):=rfl
theorem info3:(Tryz.prog.info? 3).map (λi=>(i.zero,i.size,i.bytes))=some (some (.int .i64 0),1,8):=by kernel_rfl
-- the values' own types
theorem aV{P:Prop}{Q1:Prop}(x1_:Q1)(h:Q1->P:=by intro x1_;repeat (first|(with_reducible first|exact x1_|apply aH.alloc|apply aH.drewN|apply aH.drew|apply aH.set_1|apply aH.set_2)|exact x1_)):P:=h x1_
theorem a_{P:Prop}(h:P:=by repeat (first|(with_reducible first|exact HK.out|apply aQ.set_|apply Ai|apply Hy|apply EN)|exact HK.out)):P:=h
theorem bn{P:Prop}{Q1:Prop}(x1_:Q1)(h:Q1->P:=by intro x1_;repeat (first|(with_reducible first|exact HB.out|apply aG|apply dD|apply dw|refine bf ?_ (aH.ge x1_))|exact HB.out)):P:=h x1_
open PAll
attribute [local go_sem] l8 mF lZ mo mr mK nI mQ
set_option maxHeartbeats 8000000
set_option maxRecDepth 100000
def aH(w0 W:World)(g:Nat)(f0:List Int)(f1:Int)(f2:Int):Prop:=∃A0 c0,W.heap[g]?=some (.cells #[.slice A0 f0.length c0,.int .i64 f1,.int .u64 f2] 76 (0,0))/\w0.heap.size<=g/\Kd.C (Kd.int .u8) w0 A0 f0.length f0
theorem aH.grown{w0 W:World}{g:Nat}{f0:List Int}{f1:Int}{f2:Int}{W1:World}{row:Option Nat}(h:aH w0 W g f0 f1 f2)(hw:W.grownBy W1 row)(hne:some g≠row):aH w0 W1 g f0 f1 f2:=by
 obtain ⟨A0,c0,hb,hg,hr0⟩:=h;exact ⟨A0,c0,iM hb hw hne,hg,hr0⟩
theorem aH.below{w0 W:World}{g:Nat}{f0:List Int}{f1:Int}{f2:Int}{W1:World}(h:aH w0 W g f0 f1 f2)(hw:Below W.heap.size W W1):aH w0 W1 g f0 f1 f2:=h.grown (ku hw none) (by simp)
theorem aH.alloc{w0 W:World}{g:Nat}{f0:List Int}{f1:Int}{f2:Int}(h:aH w0 W g f0 f1 f2)(o:Obj):aH w0 (W.alloc o) g f0 f1 f2:=h.below (aG (Below.refl _ _) o)
theorem aH.drewN{w0 W:World}{g:Nat}{f0:List Int}{f1:Int}{f2:Int}(h:aH w0 W g f0 f1 f2)(m:Nat):aH w0 (W.drewN m) g f0 f1 f2:=h
theorem aH.drew{w0 W:World}{g:Nat}{f0:List Int}{f1:Int}{f2:Int}(h:aH w0 W g f0 f1 f2):aH w0 W.drew g f0 f1 f2:=h
theorem aH.at_{w0 W:World}{g:Nat}{f0:List Int}{f1:Int}{f2:Int}{w':World}{m:Nat}(hq:W.drewN m=w')(h:aH w0 W g f0 f1 f2):aH w0 w' g f0 f1 f2:=by subst hq;exact aH.drewN h m
theorem aH.apart{w0 W:World}{g:Nat}{f0:List Int}{f1:Int}{f2:Int}{α:Type}{d:Kd α}{e:Nat}{base:Nat}{ok:Nat->Prop}{v:Value}{xs:List α}(h:aH w0 W g f0 f1 f2)(ho:d.R e W base ok v xs)(ht:∀q,q∈e :: d.E->q≠76):d.R e W base (λk=>ok k/\k≠g) v xs:=by
 obtain ⟨A0,c0,hb,hg,hr0⟩:=h;exact Kd.R_types ho hb ht
theorem aH.own_ne{w0 W:World}{g:Nat}{f0:List Int}{f1:Int}{f2:Int}{α:Type}{d:Kd α}{e:Nat}{base:Nat}{ok:Nat->Prop}{v:Value}{xs:List α}(h:aH w0 W g f0 f1 f2)(ho:d.R e W base ok v xs)(ht:e≠76):some g≠v.ownBlock:=by
 obtain ⟨A0,c0,hb,hg,hr0⟩:=h;exact Kd.R_ne ho hb ht
theorem aH.lt{w0 W:World}{g:Nat}{f0:List Int}{f1:Int}{f2:Int}(h:aH w0 W g f0 f1 f2):g<W.heap.size:=by
 obtain ⟨A0,c0,hb,hg,hr0⟩:=h;exact dC hb
theorem aH.ge{w0 W:World}{g:Nat}{f0:List Int}{f1:Int}{f2:Int}(h:aH w0 W g f0 f1 f2):w0.heap.size<=g:=by
 obtain ⟨A0,c0,hb,hg,hr0⟩:=h;exact hg
theorem aH.far{w0 W:World}{g:Nat}{f0:List Int}{f1:Int}{f2:Int}{p:Addr}(h:aH w0 W g f0 f1 f2)(hne:g≠p.block)(u:Value):aH w0 (W.setCell p u) g f0 f1 f2:=by
 obtain ⟨A0,c0,hb,hg,hr0⟩:=h;exact ⟨A0,c0,fZ hb hne u,hg,hr0⟩
theorem sV{W:World}{g:Nat}{A0:Option Addr}{c0:Nat}{f0:List Int}{f1:Int}{f2:Int}(h:W.heap[g]?=some (.cells #[.slice A0 f0.length c0,.int .i64 f1,.int .u64 f2] 76 (0,0))):W.cell? ⟨g,0,none⟩=some (.slice A0 f0.length c0):=(ah h 0).trans rfl
theorem rC{W:World}{g:Nat}{A0:Option Addr}{c0:Nat}{f0:List Int}{f1:Int}{f2:Int}(h:W.heap[g]?=some (.cells #[.slice A0 f0.length c0,.int .i64 f1,.int .u64 f2] 76 (0,0))):W.cell? ⟨g,1,none⟩=some (.int .i64 f1):=(ah h 1).trans rfl
theorem aH.set_1{w0 W:World}{g:Nat}{f0:List Int}{f1:Int}{f2:Int}(h:aH w0 W g f0 f1 f2)(x:Int):aH w0 (W.setCell ⟨g,1,none⟩ (.int .i64 x)) g f0 x f2:=by
 obtain ⟨A0,c0,hb,hg,hr0⟩:=h;exact ⟨A0,c0,by simpa using iq hb 1 (.int .i64 x),hg,hr0⟩
theorem ry{W:World}{g:Nat}{A0:Option Addr}{c0:Nat}{f0:List Int}{f1:Int}{f2:Int}(h:W.heap[g]?=some (.cells #[.slice A0 f0.length c0,.int .i64 f1,.int .u64 f2] 76 (0,0))):W.cell? ⟨g,2,none⟩=some (.int .u64 f2):=(ah h 2).trans rfl
theorem aH.set_2{w0 W:World}{g:Nat}{f0:List Int}{f1:Int}{f2:Int}(h:aH w0 W g f0 f1 f2)(x:Int):aH w0 (W.setCell ⟨g,2,none⟩ (.int .u64 x)) g f0 f1 x:=by
 obtain ⟨A0,c0,hb,hg,hr0⟩:=h;exact ⟨A0,c0,by simpa using iq hb 2 (.int .u64 x),hg,hr0⟩
theorem aH.new(w0 W:World)(A0:Option Addr)(c0:Nat)(f0:List Int)(f1:Int)(f2:Int)(hB:Below w0.heap.size w0 W)(hr0:Kd.C (Kd.int .u8) w0 A0 f0.length f0):aH w0 (W.alloc (.cells #[.slice A0 f0.length c0,.int .i64 f1,.int .u64 f2] 76)) W.heap.size f0 f1 f2:=⟨A0,c0,by simpa using heap_alloc_new W _,hB.size,hr0⟩
def lU.f(s0_0:List Int)(s0_1:Int)(s0_2:Int):Option (Int × Int × Int):=if s0_1<(s0_0.length:Int)then (if 0<=s0_1 then (if (wrap64 (s0_1+1))<=(s0_0.length:Int)then (some (wrap64 (rd s0_0 s0_1),wrap64 (s0_1+1),IntKind.u64.wrap ((IntKind.u64.wrap ((IntKind.u64.wrap (s0_2 * 6364136223846793005))+(IntKind.u64.wrap (wrap64 (rd s0_0 s0_1)))))+1442695040888963407)))else (some (wrap64 (Go.bits .and .u64 ((IntKind.u64.wrap ((IntKind.u64.wrap ((IntKind.u64.wrap (s0_2 * 6364136223846793005))+(IntKind.u64.wrap (wrap64 (rd s0_0 s0_1)))))+1442695040888963407)) / 1099511627776) 255),wrap64 (s0_1+1),IntKind.u64.wrap ((IntKind.u64.wrap ((IntKind.u64.wrap (s0_2 * 6364136223846793005))+(IntKind.u64.wrap (wrap64 (rd s0_0 s0_1)))))+1442695040888963407))))else (none))else (if (wrap64 (s0_1+1))<=(s0_0.length:Int)then (some (0,wrap64 (s0_1+1),IntKind.u64.wrap ((IntKind.u64.wrap (IntKind.u64.wrap (s0_2 * 6364136223846793005)))+1442695040888963407)))else (some (wrap64 (Go.bits .and .u64 ((IntKind.u64.wrap ((IntKind.u64.wrap (IntKind.u64.wrap (s0_2 * 6364136223846793005)))+1442695040888963407)) / 1099511627776) 255),wrap64 (s0_1+1),IntKind.u64.wrap ((IntKind.u64.wrap (IntKind.u64.wrap (s0_2 * 6364136223846793005)))+1442695040888963407))))
theorem lU.calls(g:Nat)(s0_0:List Int)(s0_1:Int)(s0_2:Int)(r1:Int)(r2:Int)(r3:Int)(w0 w:World)(hI:aH w0 w g s0_0 s0_1 s0_2)(hB:Below w0.heap.size w0 w)(h:lU.f s0_0 s0_1 s0_2=some (r1,r2,r3)) :
  Calls Tryz.prog 163 #[.pointer (some ⟨g,0,none⟩)] w λe w'=>e=.returned (.int .i64 r1)/\aH w0 w' g s0_0 r2 r3/\Below w0.heap.size w0 w'/\aQ w w' g none:=by
 have HI0:=aa hI;have HK:=aa (aQ.refl w g none);have HL:=aa hB.size;clear hI;have HW0:=aa hB.size;have HB:=aa hB;clear hB;unfold lU.f at h;have H:=h;clear h;revert H;refine bi (λc2b0 H=>?_) λc2b0 H=>?_
 ·
  revert H;refine aX λc3b0 H=>?_;revert H;refine bi (λc4b0 H=>?_) λc4b0 H=>?_
  ·
   obtain ⟨rfl,rfl,rfl⟩:=eD H;obtain ⟨ASz5_0,cSz5_0,HGz5,hgz5,HSz5_0⟩:=HI0.out;have hcz5_0:=sV HGz5;have hcz5_1:=rC HGz5;have hcz5_2:=ry HGz5;have hfz5_1:=au HGz5 1;have hfz5_2:=au HGz5 2;clear HGz5 hgz5;have p101:0<=(s0_1:Int):=of_decide_eq_true aD;have q101:s0_1<(s0_0.length:Int):=of_decide_eq_true aD;obtain ⟨ad101,e101,hx101_0⟩:=Kd.at_int HSz5_0 s0_1 p101 q101;cases e101;replace hx101_0:=uI HB.out hx101_0;replace p101:=eq_true p101;replace q101:=eq_true q101;go_enter Tryz.func163,Tryz.ntmps163;go_wp2
   repeat (go_quiet (fail);try go_wp2)
   go_ret;exact ⟨aU,aV HI0.out,bn HI0.out,a_⟩
  obtain ⟨rfl,rfl,rfl⟩:=eD H;obtain ⟨ASz6_0,cSz6_0,HGz6,hgz6,HSz6_0⟩:=HI0.out;have hcz6_0:=sV HGz6;have hcz6_1:=rC HGz6;have hcz6_2:=ry HGz6;have hfz6_1:=au HGz6 1;have hfz6_2:=au HGz6 2;clear HGz6 hgz6;have p101:0<=(s0_1:Int):=of_decide_eq_true aD;have q101:s0_1<(s0_0.length:Int):=of_decide_eq_true aD;obtain ⟨ad101,e101,hx101_0⟩:=Kd.at_int HSz6_0 s0_1 p101 q101;cases e101;replace hx101_0:=uI HB.out hx101_0;replace p101:=eq_true p101;replace q101:=eq_true q101;go_enter Tryz.func163,Tryz.ntmps163;go_wp2
  repeat (go_quiet (fail);try go_wp2)
  go_ret;exact ⟨aU,aV HI0.out,bn HI0.out,a_⟩
 revert H;refine bi (λc7b0 H=>?_) λc7b0 H=>?_
 ·
  obtain ⟨rfl,rfl,rfl⟩:=eD H;obtain ⟨ASz8_0,cSz8_0,HGz8,hgz8,HSz8_0⟩:=HI0.out;have hcz8_0:=sV HGz8;have hcz8_1:=rC HGz8;have hcz8_2:=ry HGz8;have hfz8_1:=au HGz8 1;have hfz8_2:=au HGz8 2;clear HGz8 hgz8;go_enter Tryz.func163,Tryz.ntmps163;go_wp2
  repeat (go_quiet (fail);try go_wp2)
  go_ret;exact ⟨aU,aV HI0.out,bn HI0.out,a_⟩
 obtain ⟨rfl,rfl,rfl⟩:=eD H;obtain ⟨ASz9_0,cSz9_0,HGz9,hgz9,HSz9_0⟩:=HI0.out;have hcz9_0:=sV HGz9;have hcz9_1:=rC HGz9;have hcz9_2:=ry HGz9;have hfz9_1:=au HGz9 1;have hfz9_2:=au HGz9 2;clear HGz9 hgz9;go_enter Tryz.func163,Tryz.ntmps163;go_wp2
 repeat (go_quiet (fail);try go_wp2)
 go_ret;exact ⟨aU,aV HI0.out,bn HI0.out,a_⟩
def cB.f(s0_0:List Int)(s0_1:Int)(s0_2:Int)(a1:Int):Option (Int × Int × Int):=if a1<=1 then (some (0,s0_1,s0_2))else ((lU.f s0_0 s0_1 s0_2).bind λbt102=>(if a1>200 then ((lU.f s0_0 bt102.2.1 bt102.2.2).bind λbt105=>(if a1=0 then (none)else (some (Int.tmod (wrap64 ((wrap64 (bt102.1 * 256))+bt105.1)) a1,bt105.2.1,bt105.2.2))))else (if a1=0 then (none)else (some (Int.tmod bt102.1 a1,bt102.2.1,bt102.2.2)))))
theorem cB.calls(g:Nat)(s0_0:List Int)(s0_1:Int)(s0_2:Int)(a1:Int)(r1:Int)(r2:Int)(r3:Int)(w0 w:World)(hI:aH w0 w g s0_0 s0_1 s0_2)(hB:Below w0.heap.size w0 w)(h:cB.f s0_0 s0_1 s0_2 a1=some (r1,r2,r3)) :
  Calls Tryz.prog 85 #[.pointer (some ⟨g,0,none⟩),.int .i64 a1] w λe w'=>e=.returned (.int .i64 r1)/\aH w0 w' g s0_0 r2 r3/\Below w0.heap.size w0 w'/\aQ w w' g none:=by
 have HI0:=aa hI;have HK:=aa (aQ.refl w g none);have HL:=aa hB.size;clear hI;have HW0:=aa hB.size;have HB:=aa hB;clear hB;unfold cB.f at h;have H:=h;clear h;revert H;refine bi (λc3b0 H=>?_) λc3b0 H=>?_
 ·
  obtain ⟨rfl,rfl,rfl⟩:=eD H;go_enter Tryz.func85,Tryz.ntmps85;go_wp2;go_ret;exact ⟨aU,aV HI0.out,bn HI0.out,a_⟩
 obtain ⟨⟨t102,t103,t104⟩,A4,H⟩:=aA H;dsimp only at H
 revert H;refine bi (λc5b0 H=>?_) λc5b0 H=>?_
 ·
  obtain ⟨⟨t105,t106,t107⟩,A6,H⟩:=aA H;dsimp only at H;revert H;refine jb λc7 H=>?_;have c7b0:=beq_eq_false_iff_ne.mpr c7;have c7b1:=bne_iff_ne.mpr c7;obtain ⟨rfl,rfl,rfl⟩:=eD H;go_enter Tryz.func85,Tryz.ntmps85;go_wp2_with (first|((with_reducible refine av 163 ?_);refine ax 9 Tryz.func163 #[.pointer (some ⟨g,0,none⟩)] ?_;(with_reducible refine (lU.calls g s0_0 s0_1 s0_2 t102 t103 t104 w0 _ ?s1 ?s2 A4.out).mono ?_);(case s1=>exact aV HI0.out);(case s2=>exact bn HI0.out);rintro e w8 ⟨rfl,hi,hb,hk⟩;refine ⟨_,rfl,?_⟩;replace HK:=aa (aQ.trans a_ hk (.inl rfl));replace HB:=aa (hb);replace HI0:=aa (hi);clear hb hk hi)|((with_reducible refine av 163 ?_);refine ax 15 Tryz.func163 #[.pointer (some ⟨g,0,none⟩)] ?_;(with_reducible refine (lU.calls g s0_0 t103 t104 t105 t106 t107 w0 _ ?s1 ?s2 A6.out).mono ?_);(case s1=>exact aV HI0.out);(case s2=>exact bn HI0.out);rintro e w9 ⟨rfl,hi,hb,hk⟩;refine ⟨_,rfl,?_⟩;replace HK:=aa (aQ.trans a_ hk (.inl rfl));replace HB:=aa (hb);replace HI0:=aa (hi);clear hb hk hi));go_ret;exact ⟨aU,aV HI0.out,bn HI0.out,a_⟩
 revert H;refine jb λc10 H=>?_;have c10b0:=beq_eq_false_iff_ne.mpr c10;have c10b1:=bne_iff_ne.mpr c10;obtain ⟨rfl,rfl,rfl⟩:=eD H;go_enter Tryz.func85,Tryz.ntmps85;go_wp2_with (first|((with_reducible refine av 163 ?_);refine ax 9 Tryz.func163 #[.pointer (some ⟨g,0,none⟩)] ?_;(with_reducible refine (lU.calls g s0_0 s0_1 s0_2 t102 t103 t104 w0 _ ?s1 ?s2 A4.out).mono ?_);(case s1=>exact aV HI0.out);(case s2=>exact bn HI0.out);rintro e w11 ⟨rfl,hi,hb,hk⟩;refine ⟨_,rfl,?_⟩;replace HK:=aa (aQ.trans a_ hk (.inl rfl));replace HB:=aa (hb);replace HI0:=aa (hi);clear hb hk hi));go_ret;exact ⟨aU,aV HI0.out,bn HI0.out,a_⟩
def jd.f(s0_0:List Int)(s0_1:Int)(s0_2:Int)(a1:Int):Option (Bool × Int × Int):=(cB.f s0_0 s0_1 s0_2 a1).bind λbt108=>(some ((bt108.1 == 0),bt108.2.1,bt108.2.2))
theorem jd.calls(g:Nat)(s0_0:List Int)(s0_1:Int)(s0_2:Int)(a1:Int)(r1:Bool)(r2:Int)(r3:Int)(w0 w:World)(hI:aH w0 w g s0_0 s0_1 s0_2)(hB:Below w0.heap.size w0 w)(h:jd.f s0_0 s0_1 s0_2 a1=some (r1,r2,r3)) :
  Calls Tryz.prog 57 #[.pointer (some ⟨g,0,none⟩),.int .i64 a1] w λe w'=>e=.returned (.bool r1)/\aH w0 w' g s0_0 r2 r3/\Below w0.heap.size w0 w'/\aQ w w' g none:=by
 have HI0:=aa hI;have HK:=aa (aQ.refl w g none);have HL:=aa hB.size;clear hI;have HW0:=aa hB.size;have HB:=aa hB;clear hB;unfold jd.f at h;have H:=h;clear h;obtain ⟨⟨t108,t109,t110⟩,A3,H⟩:=aA H;dsimp only at H;obtain ⟨rfl,rfl,rfl⟩:=eD H;go_enter Tryz.func57,Tryz.ntmps57;go_wp2_with (first|((with_reducible refine av 85 ?_);refine ax 7 Tryz.func85 #[.pointer (some ⟨g,0,none⟩),.int .i64 a1] ?_;(with_reducible refine (cB.calls g s0_0 s0_1 s0_2 a1 t108 t109 t110 w0 _ ?s1 ?s2 A3.out).mono ?_);(case s1=>exact aV HI0.out);(case s2=>exact bn HI0.out);rintro e w4 ⟨rfl,hi,hb,hk⟩;refine ⟨_,rfl,?_⟩;replace HK:=aa (aQ.trans a_ hk (.inl rfl));replace HB:=aa (hb);replace HI0:=aa (hi);clear hb hk hi));go_ret;exact ⟨aU,aV HI0.out,bn HI0.out,a_⟩
def ko.f(s0_0:List Int)(s0_1:Int)(s0_2:Int)(l1:List Int):Option (Int × Int × Int):=(cB.f s0_0 s0_1 s0_2 (l1.length:Int)).bind λbt111=>(if 0<=bt111.1 then (if bt111.1<(l1.length:Int)then (some (rd l1 bt111.1,bt111.2.1,bt111.2.2))else (none))else (none))
theorem ko.calls(g:Nat)(s0_0:List Int)(s0_1:Int)(s0_2:Int)(A1:Option Addr)(c1:Nat)(l1:List Int)(r1:Int)(r2:Int)(r3:Int)(w0 w:World)(hI:aH w0 w g s0_0 s0_1 s0_2)(hB:Below w0.heap.size w0 w)(hr1:Kd.C (Kd.int .i64) w A1 l1.length l1)(hc1:l1.length<=c1)(hf1:∀ad,A1=some ad->0<l1.length->ad.block≠g)(h:ko.f s0_0 s0_1 s0_2 l1=some (r1,r2,r3)) :
  Calls Tryz.prog 87 #[.pointer (some ⟨g,0,none⟩),.slice A1 l1.length c1] w λe w'=>e=.returned (.int .i64 r1)/\aH w0 w' g s0_0 r2 r3/\Below w0.heap.size w0 w'/\aQ w w' g none:=by
 have HR1:=aa hr1;have HC1:=aa hc1;clear hr1 hc1;have HI0:=aa hI;have HK:=aa (aQ.refl w g none);have HL:=aa hB.size;clear hI;have HW0:=aa hB.size;have HB:=aa hB;clear hB;unfold ko.f at h;have H:=h;clear h;obtain ⟨⟨t111,t112,t113⟩,A3,H⟩:=aA H;dsimp only at H;revert H;refine aX λc4b0 H=>?_;revert H;refine aX λc5b0 H=>?_;obtain ⟨rfl,rfl,rfl⟩:=eD H;go_enter Tryz.func87,Tryz.ntmps87;go_wp2_with (first|((with_reducible refine av 85 ?_);refine ax 9 Tryz.func85 #[.pointer (some ⟨g,0,none⟩),.int .i64 (l1.length:Int)] ?_;(with_reducible refine (cB.calls g s0_0 s0_1 s0_2 (l1.length:Int) t111 t112 t113 w0 _ ?s1 ?s2 A3.out).mono ?_);(case s1=>exact aV HI0.out);(case s2=>exact bn HI0.out);rintro e w6 ⟨rfl,hi,hb,hk⟩;refine ⟨_,rfl,?_⟩;replace HK:=aa (aQ.trans a_ hk (.inl rfl));replace HB:=aa (hb);replace HI0:=aa (hi);clear hb hk hi;have p114:0<=(t111:Int):=of_decide_eq_true aD;have q114:t111<(l1.length:Int):=of_decide_eq_true aD;obtain ⟨ad114,e114,hx114_0⟩:=Kd.at_int HR1.out t111 p114 q114;cases e114;replace hx114_0:=yM HK.out hx114_0 (by first|(rw[add_block];exact hf1 _ rfl (by omega))|exact hf1 _ rfl (by omega)|exact hf1 ad114 rfl (by omega));replace p114:=eq_true p114;replace q114:=eq_true q114));go_ret;exact ⟨aU,aV HI0.out,bn HI0.out,a_⟩
def oQ.f(s0_0:List Int)(s0_1:Int)(s0_2:Int)(l1:List ByteArray):Option (ByteArray × Int × Int):=(cB.f s0_0 s0_1 s0_2 (l1.length:Int)).bind λbt115=>(if 0<=bt115.1 then (if bt115.1<(l1.length:Int)then (some (dS ByteArray.empty l1 bt115.1,bt115.2.1,bt115.2.2))else (none))else (none))
theorem oQ.calls(g:Nat)(s0_0:List Int)(s0_1:Int)(s0_2:Int)(A1:Option Addr)(c1:Nat)(l1:List ByteArray)(r1:ByteArray)(r2:Int)(r3:Int)(w0 w:World)(hI:aH w0 w g s0_0 s0_1 s0_2)(hB:Below w0.heap.size w0 w)(hr1:Kd.C Kd.string w A1 l1.length l1)(hc1:l1.length<=c1)(hf1:∀ad,A1=some ad->0<l1.length->ad.block≠g)(h:oQ.f s0_0 s0_1 s0_2 l1=some (r1,r2,r3)) :
  Calls Tryz.prog 88 #[.pointer (some ⟨g,0,none⟩),.slice A1 l1.length c1] w λe w'=>e=.returned (.string r1)/\aH w0 w' g s0_0 r2 r3/\Below w0.heap.size w0 w'/\aQ w w' g none:=by
 have HR1:=aa hr1;have HC1:=aa hc1;clear hr1 hc1;have HI0:=aa hI;have HK:=aa (aQ.refl w g none);have HL:=aa hB.size;clear hI;have HW0:=aa hB.size;have HB:=aa hB;clear hB;unfold oQ.f at h;have H:=h;clear h;obtain ⟨⟨t115,t116,t117⟩,A3,H⟩:=aA H;dsimp only at H;revert H;refine aX λc4b0 H=>?_;revert H;refine aX λc5b0 H=>?_;obtain ⟨rfl,rfl,rfl⟩:=eD H;go_enter Tryz.func88,Tryz.ntmps88;go_wp2_with (first|((with_reducible refine av 85 ?_);refine ax 9 Tryz.func85 #[.pointer (some ⟨g,0,none⟩),.int .i64 (l1.length:Int)] ?_;(with_reducible refine (cB.calls g s0_0 s0_1 s0_2 (l1.length:Int) t115 t116 t117 w0 _ ?s1 ?s2 A3.out).mono ?_);(case s1=>exact aV HI0.out);(case s2=>exact bn HI0.out);rintro e w6 ⟨rfl,hi,hb,hk⟩;refine ⟨_,rfl,?_⟩;replace HK:=aa (aQ.trans a_ hk (.inl rfl));replace HB:=aa (hb);replace HI0:=aa (hi);clear hb hk hi;have p118:0<=(t115:Int):=of_decide_eq_true aD;have q118:t115<(l1.length:Int):=of_decide_eq_true aD;obtain ⟨ad118,e118,hx118_0⟩:=Kd.at_string HR1.out t115 p118 q118;cases e118;replace hx118_0:=yM HK.out hx118_0 (by first|(rw[add_block];exact hf1 _ rfl (by omega))|exact hf1 _ rfl (by omega)|exact hf1 ad118 rfl (by omega));replace p118:=eq_true p118;replace q118:=eq_true q118));go_ret;exact ⟨aU,aV HI0.out,bn HI0.out,a_⟩
mutual
def fI.l0:Nat->Int->List Int->Int->List Int->Int->Int->Option (List Int × Int × Int)
 | 0,_,_,_,_,_,_=>none
 | k+1,x3,x4,x5,x1000,x1001,x1002=>if x5<x3 then ((cB.f x1000 x1001 x1002 (wrap64 (x3+1))).bind λbt172=>(if x4.length<17592186044416 then (fI.l0 k x3 (x4++[bt172.1]) (wrap64 (x5+1)) x1000 bt172.2.1 bt172.2.2)else (none)))else (if (x4.length:Int)>0 then ((jd.f x1000 x1001 x1002 15).bind λbt178=>(fI.j1 k x3 x4 bt178.1 x1000 bt178.2.1 bt178.2.2))else (fI.j1 k x3 x4 false x1000 x1001 x1002))
def fI.j1:Nat->Int->List Int->Bool->List Int->Int->Int->Option (List Int × Int × Int)
 | 0,_,_,_,_,_,_=>none
 | k+1,x3,x4,x26,x1000,x1001,x1002=>if x26=true then ((cB.f x1000 x1001 x1002 x3).bind λbt181=>((ko.f x1000 bt181.2.1 bt181.2.2 (([(-1),wrap64 (x3+1),4611686018427387904]:List Int))).bind λbt187=>(if 0<=bt181.1 then (if bt181.1<(x4.length:Int)then ((jd.f x1000 bt187.2.1 bt187.2.2 25).bind λbt191=>(if bt191.1=true then (if 9<=35184372088832 then (some ((List.replicate 9 0),bt191.2.1,bt191.2.2))else (none))else (some ((x4.set (bt181.1:Int).toNat bt187.1),bt191.2.1,bt191.2.2))))else (none))else (none))))else ((jd.f x1000 x1001 x1002 25).bind λbt197=>(if bt197.1=true then (if 9<=35184372088832 then (some ((List.replicate 9 0),bt197.2.1,bt197.2.2))else (none))else (some (x4,bt197.2.1,bt197.2.2))))
end
def fI.f(k:Nat)(s0_0:List Int)(s0_1:Int)(s0_2:Int):Option (List Int × Int × Int):=(cB.f s0_0 s0_1 s0_2 9).bind λbt169=>(fI.l0 k bt169.1 ([]:List Int) 0 s0_0 bt169.2.1 bt169.2.2)
theorem fI.calls(k:Nat)(g:Nat)(s0_0:List Int)(s0_1:Int)(s0_2:Int)(r1:List Int)(r2:Int)(r3:Int)(w0 w:World)(hI:aH w0 w g s0_0 s0_1 s0_2)(hB:Below w0.heap.size w0 w)(h:fI.f k s0_0 s0_1 s0_2=some (r1,r2,r3)) :
  Calls Tryz.prog 90 #[.pointer (some ⟨g,0,none⟩)] w λe w'=>∃v0_:Value,e=.returned (v0_)/\Kd.R (Kd.int .i64) 3 w' w.heap.size (λ_=>True) v0_ r1/\aH w0 w' g s0_0 r2 r3/\Below w0.heap.size w0 w'/\aQ w w' g none:=by
 have HI0:=aa hI;have HK:=aa (aQ.refl w g none);have HL:=aa hB.size;clear hI;have HW0:=aa hB.size;have HB:=aa hB;clear hB;unfold fI.f at h;have H:=h;clear h;obtain ⟨⟨t169,t170,t171⟩,A2,H⟩:=aA H;dsimp only at H;have H':=aa H;clear H;go_enter Tryz.func90,Tryz.ntmps90;go_wp2_with (first|((with_reducible refine av 85 ?_);refine ax 7 Tryz.func85 #[.pointer (some ⟨g,0,none⟩),.int .i64 9] ?_;(with_reducible refine (cB.calls g s0_0 s0_1 s0_2 9 t169 t170 t171 w0 _ ?s1 ?s2 A2.out).mono ?_);(case s1=>exact aV HI0.out);(case s2=>exact bn HI0.out);rintro e w3 ⟨rfl,hi,hb,hk⟩;refine ⟨_,rfl,?_⟩;replace HK:=aa (aQ.trans a_ hk (.inl rfl));replace HB:=aa (hb);replace HI0:=aa (hi);clear hb hk hi))
 go_loopg [4,5] k (λkq v4 v5 w'=>∃ (x4_1:List Int) (x5_1:Int) (x1001_1:Int) (x1002_1:Int),v5=.int .i64 x5_1/\ae (fI.l0 kq t169 x4_1 x5_1 s0_0 x1001_1 x1002_1=some (r1,r2,r3))/\ae (kq<=k)/\ae (Kd.R (Kd.int .i64) 3 w' w.heap.size (λ_=>True) v4 x4_1)/\ae (aH w0 w' g s0_0 x1001_1 x1002_1)/\ae (aQ w w' g none)/\ae (Below w0.heap.size w0 w'))
 case atStart=>exact ⟨(([]:List Int)),(0),(t170),(t171),ag,H',⟨Nat.le_refl _⟩,⟨d9⟩,⟨aV HI0.out⟩,⟨a_⟩,⟨bn HI0.out⟩⟩
 case round =>
  clear H';obtain ⟨x4_1,x5_1,x1001_1,x1002_1,rfl,HA,HK1,HO_4,HI0,HK,HB⟩:=hrel;cases gk with
  | zero=>exact ak HA.out
  | succ k1 =>
   have H:=HA.out;clear HA;simp only[fI.l0]at H;revert H;refine bi (λc4b0 H=>?_) λc4b0 H=>?_
   ·
    obtain ⟨⟨t172,t173,t174⟩,A5,H⟩:=aA H;dsimp only at H;revert H;refine bZ λc6 H=>?_;have LMc6:=aa c6;clear c6;obtain ⟨y175,hy175⟩:=bv ((x4_1++[t172]):List Int);replace H:(fI.l0 k1 t169 y175 (wrap64 (x5_1+1)) s0_0 t173 t174)=some (r1,r2,r3):=bu hy175 H;have Ny175:=aa hy175;clear hy175;have H':=aa H;clear H;go_wp2_with (first|((with_reducible refine av 85 ?_);refine ax 17 Tryz.func85 #[.pointer (some ⟨g,0,none⟩),.int .i64 (wrap64 (t169+1))] ?_;(with_reducible refine (cB.calls g s0_0 x1001_1 x1002_1 (wrap64 (t169+1)) t172 t173 t174 w0 _ ?s1 ?s2 A5.out).mono ?_);(case s1=>exact aV HI0.out);(case s2=>exact bn HI0.out);rintro e w7 ⟨rfl,hi,hb,hk⟩;refine ⟨_,rfl,?_⟩;replace HO_4:=aa (Kd.R_mono (Kd.R_keep (aH.apart (show aH w0 _ g s0_0 x1001_1 x1002_1 from aV HI0.out) (ai HO_4.out) (by decide)) hk (λ_ h=>h.2)) (λ_ h=>h.1));replace HK:=aa (aQ.trans a_ hk (.inl rfl));replace HB:=aa (hb);replace HI0:=aa (hi);clear hb hk hi)|((with_reducible refine dE (b:=.append) (xs:=#[.tmp 13,.tmp 18]) rfl ?_);at_builtin;refine Kd.R_append (Kd.int .i64) w.heap.size rfl (.tmp 13) (.tmp 18) 22 3 (.int .i64 0) 8 rfl Tryz.underlying22 info3 rfl (by decide) (by omega) u4 x4_1 t172 [.int .i64 t172] (λ_=>True) (λ_=>False) rfl rfl ?aP (λ_ hk=>hk.elim) ?aF ?aO (Below.refl _ _) ?aS ?aL ?_;(case aP=>exact rfl);(case aF=>exact (λ_ _=>trivial));(case aO=>exact (ai HO_4.out));(case aS=>exact (jR (w:=w) (g:=g) (row:=none) a_));(case aL=>exact bB LMc6.out);intro v176 w8 ho hb hg hat;rw[<- Ny175.out]at ho;have ak:=aa (aH.grown (aV HI0.out) hg (aH.own_ne HI0.out HO_4.out (by decide)));have n1_:=aa (qG (bn HI0.out) HL.out hb);have n2_:=aa (aQ.trans a_ (aQ.of_grown hg g) (Kd.R_base2 HO_4.out));have n3_:=aa (ho);replace HI0:=ak;replace HB:=n1_;replace HK:=n2_;have HO177:=n3_;clear ak n1_ n2_ n3_;clear ho hb hg hat));go_roundg k1
    case measure=>have:=HK1.out;omega
    case rel=>exact ⟨(y175),(wrap64 (x5_1+1)),(t173),(t174),ag,H',⟨bB HK1.out⟩,⟨ai HO177.out⟩,⟨aV HI0.out⟩,⟨a_⟩,⟨bn HI0.out⟩⟩
   have HC9:=aa H;clear H
   go_upto_region 7 with (fail)
   go_cut [26] (λv26 wc=>∃ (kq:Nat) (x26_8:Bool) (x1001_8:Int) (x1002_8:Int),v26=.bool x26_8/\ae (fI.j1 kq t169 x4_1 x26_8 s0_0 x1001_8 x1002_8=some (r1,r2,r3))/\ae (kq<=k1)/\ae (Kd.R (Kd.int .i64) 3 wc w.heap.size (λ_=>True) u4 x4_1)/\ae (aH w0 wc g s0_0 x1001_8 x1002_8)/\ae (aQ w wc g none)/\ae (Below w0.heap.size w0 wc))
   case first =>
    have H:=HC9.out;clear HC9
    by_cases c10:(x4_1.length:Int)>0
    ·
     rw[if_pos c10]at H;have c10b0:=decide_eq_true c10;have c10b1:decide (0<x4_1.length)=true:=decide_eq_true (by omega);clear c10
     (first|rw[c10b0]|(simp only[cO,eB];rw[c10b0])|skip)
     obtain ⟨⟨t178,t179,t180⟩,A11,H⟩:=aA H;dsimp only at H;have H':=aa H;clear H;obtain ⟨Ao12,co12,eo12⟩:=Kd.R_slice HO_4.out;subst eo12;go_wp2_with (first|(go_at_call 57;(with_reducible refine (jd.calls g s0_0 x1001_1 x1002_1 15 t178 t179 t180 w0 _ ?s1 ?s2 A11.out).mono ?_);(case s1=>exact aV HI0.out);(case s2=>exact bn HI0.out);rintro e w13 ⟨rfl,hi,hb,hk⟩;replace HO_4:=aa (Kd.R_mono (Kd.R_keep (aH.apart (show aH w0 _ g s0_0 x1001_1 x1002_1 from aV HI0.out) (ai HO_4.out) (by decide)) hk (λ_ h=>h.2)) (λ_ h=>h.1));replace HK:=aa (aQ.trans a_ hk (.inl rfl));replace HB:=aa (hb);replace HI0:=aa (hi);clear hb hk hi));go_meet
     case rel=>exact ⟨_,(t178),(t179),(t180),ag,H',⟨lw HK1.out⟩,⟨ai HO_4.out⟩,⟨aV HI0.out⟩,⟨a_⟩,⟨bn HI0.out⟩⟩
    rw[if_neg c10]at H;have c10b0:=decide_eq_false c10;have c10b1:decide (0<x4_1.length)=false:=decide_eq_false (by omega);clear c10
    (first|rw[c10b0]|(simp only[cO,eB];rw[c10b0])|skip)
    have H':=aa H;clear H;obtain ⟨Ao14,co14,eo14⟩:=Kd.R_slice HO_4.out;subst eo14;go_wp2;go_meet
    case rel=>exact ⟨_,(false),(x1001_1),(x1002_1),ag,H',⟨lw HK1.out⟩,⟨ai HO_4.out⟩,⟨aV HI0.out⟩,⟨a_⟩,⟨bn HI0.out⟩⟩
   case rest =>
    clear HC9;obtain ⟨kq,x26_8,x1001_8,x1002_8,rfl,HA,HJ8,HO_4,HI0,HK,HB⟩:=hcut;cases kq with
    | zero=>exact ak HA.out
    | succ kj8 =>
     have H:=HA.out;clear HA;simp only[fI.j1]at H;revert H;refine bA (λc15 H=>?_) λc15 H=>?_
     ·
      subst c15;obtain ⟨⟨t181,t182,t183⟩,A16,H⟩:=aA H;dsimp only at H;obtain ⟨y184,hy184⟩:=bv ((([(-1),wrap64 (t169+1),4611686018427387904]:List Int)):List Int);replace H:((ko.f s0_0 t182 t183 y184).bind λbt187=>(if 0<=t181 then (if t181<(x4_1.length:Int)then ((jd.f s0_0 bt187.2.1 bt187.2.2 25).bind λbt191=>(if bt191.1=true then (if 9<=35184372088832 then (some ((List.replicate 9 0),bt191.2.1,bt191.2.2))else (none))else (some ((x4_1.set (t181:Int).toNat bt187.1),bt191.2.1,bt191.2.2))))else (none))else (none)))=some (r1,r2,r3):=bu hy184 H;have Ny184:=aa hy184;clear hy184;obtain ⟨⟨t187,t188,t189⟩,A17,H⟩:=aA H;dsimp only at H;revert H;refine aX λc18b0 H=>?_;revert H;refine aX λc19b0 H=>?_;obtain ⟨y190,hy190⟩:=bv ((x4_1.set (t181:Int).toNat t187):List Int);replace H:((jd.f s0_0 t188 t189 25).bind λbt191=>(if bt191.1=true then (if 9<=35184372088832 then (some ((List.replicate 9 0),bt191.2.1,bt191.2.2))else (none))else (some (y190,bt191.2.1,bt191.2.2))))=some (r1,r2,r3):=bu hy190 H;have Ny190:=aa hy190;clear hy190;obtain ⟨⟨t191,t192,t193⟩,A21,H⟩:=aA H;dsimp only at H
      revert H;refine bA (λc22 H=>?_) λc22 H=>?_
      ·
       subst c22;revert H;refine dI λc23b0 c23b1 H=>?_;obtain ⟨y194,hy194⟩:=bv ((List.replicate 9 0):List Int);replace H:(some (y194,t192,t193))=some (r1,r2,r3):=bu hy194 H;have Ny194:=aa hy194;clear hy194;obtain ⟨rfl,rfl,rfl⟩:=eD H
       go_wp2_with (first|((with_reducible refine av 85 ?_);refine ax 30 Tryz.func85 #[.pointer (some ⟨g,0,none⟩),.int .i64 t169] ?_;(with_reducible refine (cB.calls g s0_0 x1001_8 x1002_8 t169 t181 t182 t183 w0 _ ?s1 ?s2 A16.out).mono ?_);(case s1=>exact aV HI0.out);(case s2=>exact bn HI0.out);rintro e w24 ⟨rfl,hi,hb,hk⟩;refine ⟨_,rfl,?_⟩;replace HO_4:=aa (Kd.R_mono (Kd.R_keep (aH.apart (show aH w0 _ g s0_0 x1001_8 x1002_8 from aV HI0.out) (ai HO_4.out) (by decide)) hk (λ_ h=>h.2)) (λ_ h=>h.1));replace HK:=aa (aQ.trans a_ hk (.inl rfl));replace HB:=aa (hb);replace HI0:=aa (hi);clear hb hk hi)|((with_reducible refine dm 34 ?_);refine Kd.R_lit (Kd.int .i64) _ 3 ?hg (N:=34) ?hd (xs:=([(-1),wrap64 (t169+1),4611686018427387904]:List Int)) (inner:=[.int .i64 (-1),.int .i64 (wrap64 (t169+1)),.int .i64 4611686018427387904]) (ok:=λ_=>True) (okp:=λ_=>True) ?hr ?hp (λ_ hk=>hk) trivial (Below.refl _ _) (Nat.le_refl _) (by simp) ?_;(case hd=>rfl);(case hg=>rfl);(case hr=>exact eO);(case hp=>exact (bG.one (show Kd.M (Kd.int .i64) _ _ _ (-1) [.int .i64 (-1)] from rfl) (bG.one (show Kd.M (Kd.int .i64) _ _ _ (wrap64 (t169+1)) [.int .i64 (wrap64 (t169+1))] from rfl) (bG.one (show Kd.M (Kd.int .i64) _ _ _ 4611686018427387904 [.int .i64 4611686018427387904] from rfl) (bG.none _ _)))));intro v185 w25 ho26 hb hg_ hnew_;clear hg_ hnew_;(first|rw[<- Ny184.out]at ho26|(simp only[Int.reduceToNat]at ho26;rw[<- Ny184.out]at ho26));have ak:=aa (Kd.R_elder' (ai HO_4.out) (Kd.R_base ho26) hb);have n1_:=aa (Kd.R_lower (Kd.R_new' ho26 (Kd.R_lt (ai HO_4.out))) (jR (w:=w) (g:=g) (row:=none) a_));have n2_:=aa (aH.below (aV HI0.out) hb);have n3_:=aa (aQ.trans a_ (aQ.of_below hb g none) (.inl rfl));have n4_:=aa (aj (bn HI0.out) hb);replace HO_4:=ak;have HO186:=n1_;replace HI0:=n2_;replace HK:=n3_;replace HB:=n4_;clear ak n1_ n2_ n3_ n4_;clear hb ho26;obtain ⟨Ao27,co27,eo27⟩:=Kd.R_slice HO186.out;subst eo27)|((with_reducible refine av 87 ?_);refine ax 35 Tryz.func87 #[.pointer (some ⟨g,0,none⟩),.slice Ao27 y184.length co27] ?_;(with_reducible refine (ko.calls g s0_0 t182 t183 _ _ y184 t187 t188 t189 w0 _ ?s1 ?s2 ?s3 ?s4 ?s5 A17.out).mono ?_);(case s1=>exact aV HI0.out);(case s2=>exact bn HI0.out);(case s3=>exact eH HO186.out);(case s4=>exact (Kd.R_reads' HO186.out).2.1);(case s5=>exact vP (aH.own_ne HI0.out HO186.out (by decide)));rintro e w28 ⟨rfl,hi,hb,hk⟩;refine ⟨_,rfl,?_⟩;replace HO_4:=aa (Kd.R_mono (Kd.R_keep (aH.apart (show aH w0 _ g s0_0 t182 t183 from aV HI0.out) (ai HO_4.out) (by decide)) hk (λ_ h=>h.2)) (λ_ h=>h.1));replace HO186:=aa (Kd.R_mono (Kd.R_keep (aH.apart (show aH w0 _ g s0_0 t182 t183 from aV HI0.out) (ai HO186.out) (by decide)) hk (λ_ h=>h.2)) (λ_ h=>h.1));replace HK:=aa (aQ.trans a_ hk (.inl rfl));replace HB:=aa (hb);replace HI0:=aa (hi);clear hb hk hi;have p20:0<=(t181:Int):=of_decide_eq_true aD;have q20:(t181:Int)<((x4_1.length:Int):Int):=of_decide_eq_true aD;obtain ⟨go20,co20,eo20,gb20,gl20,cl20,HG20⟩:=Kd.R_form HO_4.out (by omega);(first|cases eo20|(injection eo20 with ea_ en_ ec_;(first|subst ea_|(injection ea_ with ea_;subst ea_));subst ec_;clear en_));have GB20:=aa gb20;have GG20:=aa HG20;clear gb20 gl20 HG20;obtain ⟨hx20_0,hf20_0⟩:=Kd.R_celln 0 HO_4.out (t181:Int) p20 q20;replace p20:=eq_true p20;replace q20:=eq_true q20;(try (have n_:=aa (Kd.R_mono (ok':=(λk_=>some k_≠(.slice Ao27 y184.length co27:Value).ownBlock)) HO_4.out (λk_ hk=>hk.2));clear HO_4;have HO_4:=n_;clear n_));obtain ⟨hy29_,hz29_⟩:=Kd.R_celln 0 HO_4.out (t181:Int) (of_decide_eq_true aD) (of_decide_eq_true aD);have HP29:=Kd.R_putg HO_4.out (t181:Int) t187)|((with_reducible refine jh (t:=3) (p:=36) rfl ?_);refine jF (t:=3) (p:=36) (v:=?vo_w30) (w1:=(w28.setCell ⟨go20,(t181:Int).toNat,none⟩ (.int .i64 t187))) ?hg ?ho ?hn ?hr ?_;(case ho=>rfl);(case hg=>rfl);(case hn=>rfl);(case hr=>exact eO);intro w30 hw;have hg:w28.grownBy w30 (some go20):=(by rw[hw];exact HP29.2);have hp_:Kd.R (Kd.int .i64) 3 w30 w.heap.size (λk_=>some k_≠(.slice Ao27 y184.length co27:Value).ownBlock) (.slice (some ⟨go20,0,none⟩) x4_1.length co20) y190:=(by rw[hw,Ny190.out];exact HP29.1);clear HP29;replace HI0:=aa (aH.grown (aV HI0.out) hg (aH.own_ne HI0.out HO_4.out (by decide)));replace HO186:=aa (Kd.R_after (v:=(.slice (some ⟨go20,0,none⟩) x4_1.length co20)) (v1:=(.slice (some ⟨go20,0,none⟩) x4_1.length co20)) (ok:=(λ_=>True)) (ai HO186.out) hg (.inl rfl));replace HK:=aa (aQ.trans a_ (aQ.of_grown hg g) (Kd.R_base2 HO_4.out));replace HO_4:=aa (hp_);replace HB:=aa ((by rw[hw];exact bf (HB.out) (Nat.le_trans HL.out GB20.out):Below w0.heap.size w0 w30));clear hg hw hp_)|((with_reducible refine av 57 ?_);refine ax 38 Tryz.func57 #[.pointer (some ⟨g,0,none⟩),.int .i64 25] ?_;(with_reducible refine (jd.calls g s0_0 t188 t189 25 true t192 t193 w0 _ ?s1 ?s2 A21.out).mono ?_);(case s1=>exact aV HI0.out);(case s2=>exact bn HI0.out);rintro e w31 ⟨rfl,hi,hb,hk⟩;refine ⟨_,rfl,?_⟩;replace HO_4:=aa (Kd.R_mono (Kd.R_keep (aH.apart (show aH w0 _ g s0_0 t188 t189 from aV HI0.out) (ai HO_4.out) (by decide)) hk (λ_ h=>h.2)) (λ_ h=>h.1));replace HO186:=aa (Kd.R_mono (Kd.R_keep (aH.apart (show aH w0 _ g s0_0 t188 t189 from aV HI0.out) (ai HO186.out) (by decide)) hk (λ_ h=>h.2)) (λ_ h=>h.1));replace HK:=aa (aQ.trans a_ hk (.inl rfl));replace HB:=aa (hb);replace HI0:=aa (hi);clear hb hk hi)|((with_reducible refine dm 39 ?_);refine Kd.R_make (Kd.int .i64) _ 3 rfl (N:=39) rfl 22 _ _ rfl 9 rfl rfl Tryz.underlying22 (.int .i64 0) 8 info3 rfl (by decide) (by omega) 0 (ok:=λ_=>True) (okp:=λ_=>True) rfl (λ_ hk=>hk) trivial (by omega) (by omega) (Below.refl _ _) (Nat.le_refl _) ?_;intro v195 w32 ho33 hb hg_ hnew_;clear hg_ hnew_;(first|rw[<- Ny194.out]at ho33|(simp only[Int.reduceToNat]at ho33;rw[<- Ny194.out]at ho33));have ak:=aa (Kd.R_elder' (ai HO_4.out) (Kd.R_base ho33) hb);have n1_:=aa (Kd.R_elder' (ai HO186.out) (Kd.R_base ho33) hb);have n2_:=aa (Kd.R_lower (Kd.R_new' (Kd.R_new' ho33 (Kd.R_lt (ai HO_4.out))) (Kd.R_lt (ai HO186.out))) (jR (w:=w) (g:=g) (row:=none) a_));have n3_:=aa (aH.below (aV HI0.out) hb);have n4_:=aa (aQ.trans a_ (aQ.of_below hb g none) (.inl rfl));have n5_:=aa (aj (bn HI0.out) hb);replace HO_4:=ak;replace HO186:=n1_;have HO196:=n2_;replace HI0:=n3_;replace HK:=n4_;replace HB:=n5_;clear ak n1_ n2_ n3_ n4_ n5_;clear hb ho33))
       go_ret;exact ⟨_,aU,kJ HO196.out,aV HI0.out,bn HI0.out,a_⟩
      subst c22;obtain ⟨rfl,rfl,rfl⟩:=eD H
      go_wp2_with (first|((with_reducible refine av 85 ?_);refine ax 30 Tryz.func85 #[.pointer (some ⟨g,0,none⟩),.int .i64 t169] ?_;(with_reducible refine (cB.calls g s0_0 x1001_8 x1002_8 t169 t181 t182 t183 w0 _ ?s1 ?s2 A16.out).mono ?_);(case s1=>exact aV HI0.out);(case s2=>exact bn HI0.out);rintro e w34 ⟨rfl,hi,hb,hk⟩;refine ⟨_,rfl,?_⟩;replace HO_4:=aa (Kd.R_mono (Kd.R_keep (aH.apart (show aH w0 _ g s0_0 x1001_8 x1002_8 from aV HI0.out) (ai HO_4.out) (by decide)) hk (λ_ h=>h.2)) (λ_ h=>h.1));replace HK:=aa (aQ.trans a_ hk (.inl rfl));replace HB:=aa (hb);replace HI0:=aa (hi);clear hb hk hi)|((with_reducible refine dm 34 ?_);refine Kd.R_lit (Kd.int .i64) _ 3 ?hg (N:=34) ?hd (xs:=([(-1),wrap64 (t169+1),4611686018427387904]:List Int)) (inner:=[.int .i64 (-1),.int .i64 (wrap64 (t169+1)),.int .i64 4611686018427387904]) (ok:=λ_=>True) (okp:=λ_=>True) ?hr ?hp (λ_ hk=>hk) trivial (Below.refl _ _) (Nat.le_refl _) (by simp) ?_;(case hd=>rfl);(case hg=>rfl);(case hr=>exact eO);(case hp=>exact (bG.one (show Kd.M (Kd.int .i64) _ _ _ (-1) [.int .i64 (-1)] from rfl) (bG.one (show Kd.M (Kd.int .i64) _ _ _ (wrap64 (t169+1)) [.int .i64 (wrap64 (t169+1))] from rfl) (bG.one (show Kd.M (Kd.int .i64) _ _ _ 4611686018427387904 [.int .i64 4611686018427387904] from rfl) (bG.none _ _)))));intro v185 w35 ho36 hb hg_ hnew_;clear hg_ hnew_;(first|rw[<- Ny184.out]at ho36|(simp only[Int.reduceToNat]at ho36;rw[<- Ny184.out]at ho36));have ak:=aa (Kd.R_elder' (ai HO_4.out) (Kd.R_base ho36) hb);have n1_:=aa (Kd.R_lower (Kd.R_new' ho36 (Kd.R_lt (ai HO_4.out))) (jR (w:=w) (g:=g) (row:=none) a_));have n2_:=aa (aH.below (aV HI0.out) hb);have n3_:=aa (aQ.trans a_ (aQ.of_below hb g none) (.inl rfl));have n4_:=aa (aj (bn HI0.out) hb);replace HO_4:=ak;have HO186:=n1_;replace HI0:=n2_;replace HK:=n3_;replace HB:=n4_;clear ak n1_ n2_ n3_ n4_;clear hb ho36;obtain ⟨Ao37,co37,eo37⟩:=Kd.R_slice HO186.out;subst eo37)|((with_reducible refine av 87 ?_);refine ax 35 Tryz.func87 #[.pointer (some ⟨g,0,none⟩),.slice Ao37 y184.length co37] ?_;(with_reducible refine (ko.calls g s0_0 t182 t183 _ _ y184 t187 t188 t189 w0 _ ?s1 ?s2 ?s3 ?s4 ?s5 A17.out).mono ?_);(case s1=>exact aV HI0.out);(case s2=>exact bn HI0.out);(case s3=>exact eH HO186.out);(case s4=>exact (Kd.R_reads' HO186.out).2.1);(case s5=>exact vP (aH.own_ne HI0.out HO186.out (by decide)));rintro e w38 ⟨rfl,hi,hb,hk⟩;refine ⟨_,rfl,?_⟩;replace HO_4:=aa (Kd.R_mono (Kd.R_keep (aH.apart (show aH w0 _ g s0_0 t182 t183 from aV HI0.out) (ai HO_4.out) (by decide)) hk (λ_ h=>h.2)) (λ_ h=>h.1));replace HO186:=aa (Kd.R_mono (Kd.R_keep (aH.apart (show aH w0 _ g s0_0 t182 t183 from aV HI0.out) (ai HO186.out) (by decide)) hk (λ_ h=>h.2)) (λ_ h=>h.1));replace HK:=aa (aQ.trans a_ hk (.inl rfl));replace HB:=aa (hb);replace HI0:=aa (hi);clear hb hk hi;have p20:0<=(t181:Int):=of_decide_eq_true aD;have q20:(t181:Int)<((x4_1.length:Int):Int):=of_decide_eq_true aD;obtain ⟨go20,co20,eo20,gb20,gl20,cl20,HG20⟩:=Kd.R_form HO_4.out (by omega);(first|cases eo20|(injection eo20 with ea_ en_ ec_;(first|subst ea_|(injection ea_ with ea_;subst ea_));subst ec_;clear en_));have GB20:=aa gb20;have GG20:=aa HG20;clear gb20 gl20 HG20;obtain ⟨hx20_0,hf20_0⟩:=Kd.R_celln 0 HO_4.out (t181:Int) p20 q20;replace p20:=eq_true p20;replace q20:=eq_true q20;(try (have n_:=aa (Kd.R_mono (ok':=(λk_=>some k_≠(.slice Ao37 y184.length co37:Value).ownBlock)) HO_4.out (λk_ hk=>hk.2));clear HO_4;have HO_4:=n_;clear n_));obtain ⟨hy39_,hz39_⟩:=Kd.R_celln 0 HO_4.out (t181:Int) (of_decide_eq_true aD) (of_decide_eq_true aD);have HP39:=Kd.R_putg HO_4.out (t181:Int) t187)|((with_reducible refine jh (t:=3) (p:=36) rfl ?_);refine jF (t:=3) (p:=36) (v:=?vo_w40) (w1:=(w38.setCell ⟨go20,(t181:Int).toNat,none⟩ (.int .i64 t187))) ?hg ?ho ?hn ?hr ?_;(case ho=>rfl);(case hg=>rfl);(case hn=>rfl);(case hr=>exact eO);intro w40 hw;have hg:w38.grownBy w40 (some go20):=(by rw[hw];exact HP39.2);have hp_:Kd.R (Kd.int .i64) 3 w40 w.heap.size (λk_=>some k_≠(.slice Ao37 y184.length co37:Value).ownBlock) (.slice (some ⟨go20,0,none⟩) x4_1.length co20) y190:=(by rw[hw,Ny190.out];exact HP39.1);clear HP39;replace HI0:=aa (aH.grown (aV HI0.out) hg (aH.own_ne HI0.out HO_4.out (by decide)));replace HO186:=aa (Kd.R_after (v:=(.slice (some ⟨go20,0,none⟩) x4_1.length co20)) (v1:=(.slice (some ⟨go20,0,none⟩) x4_1.length co20)) (ok:=(λ_=>True)) (ai HO186.out) hg (.inl rfl));replace HK:=aa (aQ.trans a_ (aQ.of_grown hg g) (Kd.R_base2 HO_4.out));replace HO_4:=aa (hp_);replace HB:=aa ((by rw[hw];exact bf (HB.out) (Nat.le_trans HL.out GB20.out):Below w0.heap.size w0 w40));clear hg hw hp_)|((with_reducible refine av 57 ?_);refine ax 38 Tryz.func57 #[.pointer (some ⟨g,0,none⟩),.int .i64 25] ?_;(with_reducible refine (jd.calls g s0_0 t188 t189 25 false t192 t193 w0 _ ?s1 ?s2 A21.out).mono ?_);(case s1=>exact aV HI0.out);(case s2=>exact bn HI0.out);rintro e w41 ⟨rfl,hi,hb,hk⟩;refine ⟨_,rfl,?_⟩;replace HO_4:=aa (Kd.R_mono (Kd.R_keep (aH.apart (show aH w0 _ g s0_0 t188 t189 from aV HI0.out) (ai HO_4.out) (by decide)) hk (λ_ h=>h.2)) (λ_ h=>h.1));replace HO186:=aa (Kd.R_mono (Kd.R_keep (aH.apart (show aH w0 _ g s0_0 t188 t189 from aV HI0.out) (ai HO186.out) (by decide)) hk (λ_ h=>h.2)) (λ_ h=>h.1));replace HK:=aa (aQ.trans a_ hk (.inl rfl));replace HB:=aa (hb);replace HI0:=aa (hi);clear hb hk hi))
      go_ret;exact ⟨_,aU,kJ HO_4.out,aV HI0.out,bn HI0.out,a_⟩
     subst c15;obtain ⟨⟨t197,t198,t199⟩,A42,H⟩:=aA H;dsimp only at H
     revert H;refine bA (λc43 H=>?_) λc43 H=>?_
     ·
      subst c43;revert H;refine dI λc44b0 c44b1 H=>?_;obtain ⟨y200,hy200⟩:=bv ((List.replicate 9 0):List Int);replace H:(some (y200,t198,t199))=some (r1,r2,r3):=bu hy200 H;have Ny200:=aa hy200;clear hy200;obtain ⟨rfl,rfl,rfl⟩:=eD H;go_wp2_with (first|((with_reducible refine av 57 ?_);refine ax 38 Tryz.func57 #[.pointer (some ⟨g,0,none⟩),.int .i64 25] ?_;(with_reducible refine (jd.calls g s0_0 x1001_8 x1002_8 25 true t198 t199 w0 _ ?s1 ?s2 A42.out).mono ?_);(case s1=>exact aV HI0.out);(case s2=>exact bn HI0.out);rintro e w45 ⟨rfl,hi,hb,hk⟩;refine ⟨_,rfl,?_⟩;replace HO_4:=aa (Kd.R_mono (Kd.R_keep (aH.apart (show aH w0 _ g s0_0 x1001_8 x1002_8 from aV HI0.out) (ai HO_4.out) (by decide)) hk (λ_ h=>h.2)) (λ_ h=>h.1));replace HK:=aa (aQ.trans a_ hk (.inl rfl));replace HB:=aa (hb);replace HI0:=aa (hi);clear hb hk hi)|((with_reducible refine dm 39 ?_);refine Kd.R_make (Kd.int .i64) _ 3 rfl (N:=39) rfl 22 _ _ rfl 9 rfl rfl Tryz.underlying22 (.int .i64 0) 8 info3 rfl (by decide) (by omega) 0 (ok:=λ_=>True) (okp:=λ_=>True) rfl (λ_ hk=>hk) trivial (by omega) (by omega) (Below.refl _ _) (Nat.le_refl _) ?_;intro v201 w46 ho47 hb hg_ hnew_;clear hg_ hnew_;(first|rw[<- Ny200.out]at ho47|(simp only[Int.reduceToNat]at ho47;rw[<- Ny200.out]at ho47));have ak:=aa (Kd.R_elder' (ai HO_4.out) (Kd.R_base ho47) hb);have n1_:=aa (Kd.R_lower (Kd.R_new' ho47 (Kd.R_lt (ai HO_4.out))) (jR (w:=w) (g:=g) (row:=none) a_));have n2_:=aa (aH.below (aV HI0.out) hb);have n3_:=aa (aQ.trans a_ (aQ.of_below hb g none) (.inl rfl));have n4_:=aa (aj (bn HI0.out) hb);replace HO_4:=ak;have HO202:=n1_;replace HI0:=n2_;replace HK:=n3_;replace HB:=n4_;clear ak n1_ n2_ n3_ n4_;clear hb ho47));go_ret;exact ⟨_,aU,kJ HO202.out,aV HI0.out,bn HI0.out,a_⟩
     subst c43;obtain ⟨rfl,rfl,rfl⟩:=eD H;go_wp2_with (first|((with_reducible refine av 57 ?_);refine ax 38 Tryz.func57 #[.pointer (some ⟨g,0,none⟩),.int .i64 25] ?_;(with_reducible refine (jd.calls g s0_0 x1001_8 x1002_8 25 false t198 t199 w0 _ ?s1 ?s2 A42.out).mono ?_);(case s1=>exact aV HI0.out);(case s2=>exact bn HI0.out);rintro e w48 ⟨rfl,hi,hb,hk⟩;refine ⟨_,rfl,?_⟩;replace HO_4:=aa (Kd.R_mono (Kd.R_keep (aH.apart (show aH w0 _ g s0_0 x1001_8 x1002_8 from aV HI0.out) (ai HO_4.out) (by decide)) hk (λ_ h=>h.2)) (λ_ h=>h.1));replace HK:=aa (aQ.trans a_ hk (.inl rfl));replace HB:=aa (hb);replace HI0:=aa (hi);clear hb hk hi));go_ret;exact ⟨_,aU,ai HO_4.out,aV HI0.out,bn HI0.out,a_⟩
mutual
def fo.l0:Nat->List Int->Int->List Int->Int->Int->Option (List Int × Int × Int)
 | 0,_,_,_,_,_=>none
 | k+1,x5,x6,x1000,x1001,x1002=>if x6>0 then ((cB.f x1000 x1001 x1002 (wrap64 ((x5.length:Int)+1))).bind λbt279=>((cB.f x1000 bt279.2.1 bt279.2.2 (wrap64 ((x5.length:Int)+1))).bind λbt282=>(if 0<=bt282.1 then (if bt282.1<=(x5.length:Int)then ((fH.f (x5.take (bt282.1:Int).toNat)).bind λt289=>(if t289.length<17592186044416 then ((some (t289++[bt279.1]:List Int)).bind λy292=>((some (x5.drop (bt282.1:Int).toNat:List Int)).bind λy295=>(if y292.length+y295.length<17592186044416 then (fo.l0 k (y292++y295) (wrap64 (x6 - 1)) x1000 bt282.2.1 bt282.2.2)else (none))))else (none)))else (none))else (none))))else ((cB.f x1000 x1001 x1002 20).bind λbt302=>(if bt302.1=0 then ((ko.f x1000 bt302.2.1 bt302.2.2 (([(-1),0,(x5.length:Int),wrap64 ((x5.length:Int)+1),99,100]:List Int))).bind λbt308=>(if x5.length<17592186044416 then (some ((x5++[bt308.1]),bt308.2.1,bt308.2.2))else (none)))else (if bt302.1=1 then (if (x5.length:Int)>0 then ((cB.f x1000 bt302.2.1 bt302.2.2 (x5.length:Int)).bind λbt314=>((cB.f x1000 bt314.2.1 bt314.2.2 (x5.length:Int)).bind λbt317=>(if 0<=bt314.1 then (if bt314.1<(x5.length:Int)then (some ((x5.set (bt314.1:Int).toNat bt317.1),bt317.2.1,bt317.2.2))else (none))else (none))))else (some (x5,bt302.2.1,bt302.2.2)))else (if bt302.1=2 then (fo.l1 k x5 x1000 bt302.2.1 bt302.2.2)else (some (x5,bt302.2.1,bt302.2.2))))))
def fo.l1:Nat->List Int->List Int->Int->Int->Option (List Int × Int × Int)
 | 0,_,_,_,_=>none
 | k+1,x5,x1000,x1001,x1002=>if (x5.length:Int)<9 then (if x5.length<17592186044416 then (fo.l1 k (x5++[0]) x1000 x1001 x1002)else (none))else (some (x5,x1001,x1002))
end
def fo.f(k:Nat)(s0_0:List Int)(s0_1:Int)(s0_2:Int)(a1:Int):Option (List Int × Int × Int):=(cB.f s0_0 s0_1 s0_2 (wrap64 (a1+1))).bind λbt276=>(fo.l0 k ([]:List Int) bt276.1 s0_0 bt276.2.1 bt276.2.2)
theorem fo.calls(k:Nat)(g:Nat)(s0_0:List Int)(s0_1:Int)(s0_2:Int)(a1:Int)(r1:List Int)(r2:Int)(r3:Int)(w0 w:World)(hI:aH w0 w g s0_0 s0_1 s0_2)(hB:Below w0.heap.size w0 w)(h:fo.f k s0_0 s0_1 s0_2 a1=some (r1,r2,r3)) :
  Calls Tryz.prog 83 #[.pointer (some ⟨g,0,none⟩),.int .i64 a1] w λe w'=>∃v0_:Value,e=.returned (v0_)/\Kd.R (Kd.int .i64) 3 w' w.heap.size (λ_=>True) v0_ r1/\aH w0 w' g s0_0 r2 r3/\Below w0.heap.size w0 w'/\aQ w w' g none:=by
 have HI0:=aa hI;have HK:=aa (aQ.refl w g none);have HL:=aa hB.size;clear hI;have HW0:=aa hB.size;have HB:=aa hB;clear hB;unfold fo.f at h;have H:=h;clear h;obtain ⟨⟨t276,t277,t278⟩,A3,H⟩:=aA H;dsimp only at H;have H':=aa H;clear H;go_enter Tryz.func83,Tryz.ntmps83;go_wp2_with (first|((with_reducible refine av 85 ?_);refine ax 13 Tryz.func85 #[.pointer (some ⟨g,0,none⟩),.int .i64 (wrap64 (a1+1))] ?_;(with_reducible refine (cB.calls g s0_0 s0_1 s0_2 (wrap64 (a1+1)) t276 t277 t278 w0 _ ?s1 ?s2 A3.out).mono ?_);(case s1=>exact aV HI0.out);(case s2=>exact bn HI0.out);rintro e w4 ⟨rfl,hi,hb,hk⟩;refine ⟨_,rfl,?_⟩;replace HK:=aa (aQ.trans a_ hk (.inl rfl));replace HB:=aa (hb);replace HI0:=aa (hi);clear hb hk hi))
 go_loopg [5,6] k (λkq v5 v6 w'=>∃ (x5_1:List Int) (x6_1:Int) (x1001_1:Int) (x1002_1:Int),v6=.int .i64 x6_1/\ae (fo.l0 kq x5_1 x6_1 s0_0 x1001_1 x1002_1=some (r1,r2,r3))/\ae (kq<=k)/\ae (Kd.R (Kd.int .i64) 3 w' w.heap.size (λ_=>True) v5 x5_1)/\ae (aH w0 w' g s0_0 x1001_1 x1002_1)/\ae (aQ w w' g none)/\ae (Below w0.heap.size w0 w'))
 case atStart=>exact ⟨(([]:List Int)),(t276),(t277),(t278),ag,H',⟨Nat.le_refl _⟩,⟨d9⟩,⟨aV HI0.out⟩,⟨a_⟩,⟨bn HI0.out⟩⟩
 case round =>
  clear H';obtain ⟨x5_1,x6_1,x1001_1,x1002_1,rfl,HA,HK1,HO_5,HI0,HK,HB⟩:=hrel;cases gk with
  | zero=>exact ak HA.out
  | succ k1 =>
   have H:=HA.out;clear HA;simp only[fo.l0]at H;revert H;refine bi (λc5b0 H=>?_) λc5b0 H=>?_
   ·
    obtain ⟨⟨t279,t280,t281⟩,A6,H⟩:=aA H;dsimp only at H;obtain ⟨⟨t282,t283,t284⟩,A7,H⟩:=aA H;dsimp only at H;revert H;refine dI λc8b0 c8b1 H=>?_;revert H;refine dI λc9b0 c9b1 H=>?_;obtain ⟨y285,hy285⟩:=bv ((x5_1.take (t282:Int).toNat):List Int);replace H:((fH.f y285).bind λt289=>(if t289.length<17592186044416 then ((some (t289++[t279]:List Int)).bind λy292=>((some (x5_1.drop (t282:Int).toNat:List Int)).bind λy295=>(if y292.length+y295.length<17592186044416 then (fo.l0 k1 (y292++y295) (wrap64 (x6_1 - 1)) s0_0 t283 t284)else (none))))else (none)))=some (r1,r2,r3):=bu hy285 H;have Ny285:=aa hy285;clear hy285;obtain ⟨t289,A10,H⟩:=aA H;revert H;refine bZ λc11 H=>?_;have LMc11:=aa c11;clear c11;obtain ⟨y292,hy292⟩:=bv ((t289++[t279]):List Int);replace H:((some (x5_1.drop (t282:Int).toNat:List Int)).bind λy295=>(if y292.length+y295.length<17592186044416 then (fo.l0 k1 (y292++y295) (wrap64 (x6_1 - 1)) s0_0 t283 t284)else (none)))=some (r1,r2,r3):=bu hy292 H;have Ny292:=aa hy292;clear hy292;have c12b0:=eq_true (of_decide_eq_true aD:0<=t282);have c13b0:=eq_true (of_decide_eq_true aD:t282<=(x5_1.length:Int));obtain ⟨y295,hy295⟩:=bv ((x5_1.drop (t282:Int).toNat):List Int);replace H:(if y292.length+y295.length<17592186044416 then (fo.l0 k1 (y292++y295) (wrap64 (x6_1 - 1)) s0_0 t283 t284)else (none))=some (r1,r2,r3):=bu hy295 H;have Ny295:=aa hy295;clear hy295;revert H;refine bZ λc14 H=>?_;have LMc14:=aa c14;clear c14;obtain ⟨y299,hy299⟩:=bv ((y292++y295):List Int);replace H:(fo.l0 k1 y299 (wrap64 (x6_1 - 1)) s0_0 t283 t284)=some (r1,r2,r3):=bu hy299 H;have Ny299:=aa hy299;clear hy299;have H':=aa H;clear H;obtain ⟨Ao15,co15,eo15⟩:=Kd.R_slice HO_5.out;subst eo15
    go_wp2_with (first|((with_reducible refine av 85 ?_);refine ax 22 Tryz.func85 #[.pointer (some ⟨g,0,none⟩),.int .i64 (wrap64 ((x5_1.length:Int)+1))] ?_;(with_reducible refine (cB.calls g s0_0 x1001_1 x1002_1 (wrap64 ((x5_1.length:Int)+1)) t279 t280 t281 w0 _ ?s1 ?s2 A6.out).mono ?_);(case s1=>exact aV HI0.out);(case s2=>exact bn HI0.out);rintro e w16 ⟨rfl,hi,hb,hk⟩;refine ⟨_,rfl,?_⟩;replace HO_5:=aa (Kd.R_mono (Kd.R_keep (aH.apart (show aH w0 _ g s0_0 x1001_1 x1002_1 from aV HI0.out) (ai HO_5.out) (by decide)) hk (λ_ h=>h.2)) (λ_ h=>h.1));replace HK:=aa (aQ.trans a_ hk (.inl rfl));replace HB:=aa (hb);replace HI0:=aa (hi);clear hb hk hi)|((with_reducible refine av 85 ?_);refine ax 27 Tryz.func85 #[.pointer (some ⟨g,0,none⟩),.int .i64 (wrap64 ((x5_1.length:Int)+1))] ?_;(with_reducible refine (cB.calls g s0_0 t280 t281 (wrap64 ((x5_1.length:Int)+1)) t282 t283 t284 w0 _ ?s1 ?s2 A7.out).mono ?_);(case s1=>exact aV HI0.out);(case s2=>exact bn HI0.out);rintro e w17 ⟨rfl,hi,hb,hk⟩;refine ⟨_,rfl,?_⟩;replace HO_5:=aa (Kd.R_mono (Kd.R_keep (aH.apart (show aH w0 _ g s0_0 t280 t281 from aV HI0.out) (ai HO_5.out) (by decide)) hk (λ_ h=>h.2)) (λ_ h=>h.1));replace HK:=aa (aQ.trans a_ hk (.inl rfl));replace HB:=aa (hb);replace HI0:=aa (hi);clear hb hk hi;have q18:(t282:Int)<=((x5_1.length:Int):Int):=of_decide_eq_true aD;obtain ⟨i018,hi018,_,hsz18,_⟩:=info_parts info3;have hroom18:x5_1.length<=co15:=(Kd.R_reads' HO_5.out).2.1;have hC18:Kd.C (Kd.int .i64) _ Ao15 x5_1.length x5_1:=(Kd.R_reads' HO_5.out).2.2;have hcut18:=FO (P:=Tryz.prog) 22 3 .i64 Tryz.underlying22 hi018 Ao15 x5_1.length co15 t282 (of_decide_eq_true aD) q18 hroom18;have hr18:=Kd.C_take (m:=(t282:Int).toNat) hC18 (by omega);have hy18:y285.length=(t282:Int).toNat:=(by rw[Ny285.out,List.length_take];omega);rw[<- Ny285.out]at hr18;rw[<- hy18]at hcut18;have HR288:=aa hr18;have HC288:=aa (show y285.length<=co15 from by omega);clear hr18 hC18 hroom18 hi018 hsz18;have KY18:=aa hy18;clear hy18;have KL18:=aa (show (t282:Int).toNat<=x5_1.length from by omega);replace q18:=eq_true q18)|((with_reducible refine av 70 ?_);refine ax 31 Tryz.func70 #[.slice Ao15 y285.length co15] ?_;(with_reducible refine (fH.calls _ _ y285 t289 _ ?s1 ?s2 A10.out).mono ?_);(case s1=>exact rP HR288.out);(case s2=>exact HC288.out);rintro e w19 ⟨v290,rfl,ho0,hb⟩;refine ⟨_,rfl,?_⟩;have ak:=aa (Kd.R_elder' (ai HO_5.out) (Kd.R_base ho0) hb);have n1_:=aa (Kd.R_lower (Kd.R_new' ho0 (Kd.R_lt (ai HO_5.out))) (jR (w:=w) (g:=g) (row:=none) a_));have n2_:=aa (aH.below (aV HI0.out) hb);have n3_:=aa (Kd.C_below (rJ HR288.out) hb);have n4_:=aa (aQ.trans a_ (aQ.of_below hb g none) (.inl rfl));have n5_:=aa (aj (bn HI0.out) hb);replace HO_5:=ak;have HO291:=n1_;replace HI0:=n2_;replace HR288:=n3_;replace HK:=n4_;replace HB:=n5_;clear ak n1_ n2_ n3_ n4_ n5_;clear hb ho0)|((with_reducible refine dE (b:=.append) (xs:=#[.tmp 31,.tmp 33]) rfl ?_);at_builtin;refine Kd.R_append (Kd.int .i64) w.heap.size rfl (.tmp 31) (.tmp 33) 22 3 (.int .i64 0) 8 rfl Tryz.underlying22 info3 rfl (by decide) (by omega) v290 t289 t279 [.int .i64 t279] (λk_=>some k_≠(.slice Ao15 x5_1.length co15:Value).ownBlock) (λ_=>False) rfl rfl ?aP (λ_ hk=>hk.elim) ?aF ?aO (Below.refl _ _) ?aS ?aL ?_;(case aP=>exact rfl);(case aF=>exact (λk_ hk=>Kd.fresh' (Kd.R_lt (ai HO_5.out)) k_ hk));(case aO=>exact (lC HO291.out));(case aS=>exact (jR (w:=w) (g:=g) (row:=none) a_));(case aL=>exact bB LMc11.out);intro v293 w20 ho hb hg hat;rw[<- Ny292.out]at ho;have ak:=aa (Kd.R_after (ok:=(λ_=>True)) (ai HO_5.out) hg hat);have n1_:=aa (aH.grown (aV HI0.out) hg (aH.own_ne HI0.out HO291.out (by decide)));have n2_:=aa (qG (bn HI0.out) HL.out hb);have n3_:=aa (aQ.trans a_ (aQ.of_grown hg g) (Kd.R_base2 HO291.out));have n4_:=aa ((show Kd.C (Kd.int .i64) w20 Ao15 y285.length y285 from by rw[Ny285.out];exact Kd.C_take (m:=(t282:Int).toNat) ((Kd.R_reads' (Kd.R_after (ok:=(λ_=>True)) (ai HO_5.out) hg hat)).2.2) KL18.out));have n5_:=aa (ho);replace HO_5:=ak;replace HI0:=n1_;replace HB:=n2_;replace HK:=n3_;replace HR288:=n4_;have HO294:=n5_;clear ak n1_ n2_ n3_ n4_ n5_;clear ho hb hg hat;have q21:(t282:Int)<=((x5_1.length:Int):Int):=of_decide_eq_true aD;obtain ⟨i021,hi021,_,hsz21,_⟩:=info_parts info3;have hroom21:x5_1.length<=co15:=(Kd.R_reads' HO_5.out).2.1;have hC21:Kd.C (Kd.int .i64) _ Ao15 x5_1.length x5_1:=(Kd.R_reads' HO_5.out).2.2;have q021:(0:Int)<=(t282:Int):=of_decide_eq_true aD;have hcut21:=Ij (P:=Tryz.prog) 22 3 .i64 Tryz.underlying22 hi021 1 hsz21 Ao15 x5_1.length co15 t282 q021 q21;have hr21:=Kd.C_drop (m:=(t282:Int).toNat) (c:=co15) hC21 (by omega) hroom21;obtain ⟨A21,hA21⟩:∃A1,A1=(if co15=(t282:Int).toNat then Ao15 else (Ao15:Option Addr).map (·.add ((t282:Int).toNat * 1))):=⟨_,rfl⟩;obtain ⟨c21,hc21⟩:∃c1,c1=co15 - (t282:Int).toNat:=⟨_,rfl⟩;have hy21:y295.length=x5_1.length - (t282:Int).toNat:=(by rw[Ny295.out,List.length_drop] <;> omega);rw[show (x5_1).drop (t282:Int).toNat=y295 from Ny295.out.symm]at hr21;replace hr21:Kd.C (Kd.int .i64) _ A21 y295.length y295:=(by rw[hA21];exact hr21);rw[<- hy21,<- hA21,<- hc21]at hcut21;have HR298:=aa hr21;have HC298:=aa (show y295.length<=c21 from by rw[hy21,hc21];exact Nat.sub_le_sub_right hroom21 _);clear hr21 hC21 hroom21 hi021 hsz21 hc21;have KY21:=aa hy21;have KA21:=aa hA21;clear hy21 hA21;have KL21:=aa (show (t282:Int).toNat<=x5_1.length from by omega);replace q21:=eq_true q21)|((with_reducible refine dE (b:=.append) (xs:=#[.tmp 35,.tmp 38]) rfl ?_);at_builtin;refine Kd.R_append_rows (Kd.int .i64) w.heap.size rfl (.tmp 35) (.tmp 38) 22 3 (.int .i64 0) 8 rfl Tryz.underlying22 info3 rfl (by decide) (by omega) v293 y292 y295 _ _ _ (λk_=>some k_≠(.slice Ao15 x5_1.length co15:Value).ownBlock) (λ_=>False) rfl rfl ?aO ?aR (λ_ _ h=>h) (λ_ h=>h.elim) ?aF (Below.refl _ _) ?aS ?aL ?_;(case aR=>exact rP HR298.out);(case aF=>exact (λk_ hk=>Kd.fresh' (Kd.R_lt (ai HO_5.out)) k_ hk));(case aO=>exact (ai HO294.out));(case aS=>exact (jR (w:=w) (g:=g) (row:=none) a_));(case aL=>exact bB LMc14.out);intro v300 w22 ho hb hg hat;rw[<- Ny299.out]at ho;have ak:=aa (Kd.R_after (ok:=(λ_=>True)) (ai HO_5.out) hg hat);have n1_:=aa (aH.grown (aV HI0.out) hg (aH.own_ne HI0.out HO294.out (by decide)));have n2_:=aa (qG (bn HI0.out) HL.out hb);have n3_:=aa (aQ.trans a_ (aQ.of_grown hg g) (Kd.R_base2 HO294.out));have n4_:=aa ((show Kd.C (Kd.int .i64) w22 Ao15 y285.length y285 from by rw[Ny285.out];exact Kd.C_take (m:=(t282:Int).toNat) ((Kd.R_reads' (Kd.R_after (ok:=(λ_=>True)) (ai HO_5.out) hg hat)).2.2) KL18.out));have n5_:=aa ((show Kd.C (Kd.int .i64) w22 A21 y295.length y295 from by rw[Ny295.out,KA21.out];exact Kd.C_drop (m:=(t282:Int).toNat) (c:=co15) ((Kd.R_reads' (Kd.R_after (ok:=(λ_=>True)) (ai HO_5.out) hg hat)).2.2) KL21.out ((Kd.R_reads' (Kd.R_after (ok:=(λ_=>True)) (ai HO_5.out) hg hat)).2.1)));have n6_:=aa (ho);replace HO_5:=ak;replace HI0:=n1_;replace HB:=n2_;replace HK:=n3_;replace HR288:=n4_;replace HR298:=n5_;have HO301:=n6_;clear ak n1_ n2_ n3_ n4_ n5_ n6_;clear ho hb hg hat))
    go_roundg k1
    case measure=>have:=HK1.out;omega
    case rel=>exact ⟨(y299),(wrap64 (x6_1 - 1)),(t283),(t284),ag,H',⟨bB HK1.out⟩,⟨kJ HO301.out⟩,⟨aV HI0.out⟩,⟨a_⟩,⟨bn HI0.out⟩⟩
   obtain ⟨⟨t302,t303,t304⟩,A23,H⟩:=aA H;dsimp only at H
   revert H;refine dH (λc24b0 c24b1 H=>?_) λc24 c24b0 c24b1 H=>?_
   ·
    obtain ⟨y305,hy305⟩:=bv ((([(-1),0,(x5_1.length:Int),wrap64 ((x5_1.length:Int)+1),99,100]:List Int)):List Int);replace H:((ko.f s0_0 t303 t304 y305).bind λbt308=>(if x5_1.length<17592186044416 then (some ((x5_1++[bt308.1]),bt308.2.1,bt308.2.2))else (none)))=some (r1,r2,r3):=bu hy305 H;have Ny305:=aa hy305;clear hy305;obtain ⟨⟨t308,t309,t310⟩,A25,H⟩:=aA H;dsimp only at H;revert H;refine bZ λc26 H=>?_;have LMc26:=aa c26;clear c26;obtain ⟨y311,hy311⟩:=bv ((x5_1++[t308]):List Int);replace H:(some (y311,t309,t310))=some (r1,r2,r3):=bu hy311 H;have Ny311:=aa hy311;clear hy311;obtain ⟨rfl,rfl,rfl⟩:=eD H
    go_wp2_with (first|((with_reducible refine av 85 ?_);refine ax 41 Tryz.func85 #[.pointer (some ⟨g,0,none⟩),.int .i64 20] ?_;(with_reducible refine (cB.calls g s0_0 x1001_1 x1002_1 20 t302 t303 t304 w0 _ ?s1 ?s2 A23.out).mono ?_);(case s1=>exact aV HI0.out);(case s2=>exact bn HI0.out);rintro e w27 ⟨rfl,hi,hb,hk⟩;refine ⟨_,rfl,?_⟩;replace HO_5:=aa (Kd.R_mono (Kd.R_keep (aH.apart (show aH w0 _ g s0_0 x1001_1 x1002_1 from aV HI0.out) (ai HO_5.out) (by decide)) hk (λ_ h=>h.2)) (λ_ h=>h.1));replace HK:=aa (aQ.trans a_ hk (.inl rfl));replace HB:=aa (hb);replace HI0:=aa (hi);clear hb hk hi;obtain ⟨Ao28,co28,eo28⟩:=Kd.R_slice HO_5.out;subst eo28)|((with_reducible refine dm 51 ?_);refine Kd.R_lit (Kd.int .i64) _ 3 ?hg (N:=51) ?hd (xs:=([(-1),0,(x5_1.length:Int),wrap64 ((x5_1.length:Int)+1),99,100]:List Int)) (inner:=[.int .i64 (-1),.int .i64 0,.int .i64 (x5_1.length:Int),.int .i64 (wrap64 ((x5_1.length:Int)+1)),.int .i64 99,.int .i64 100]) (ok:=λ_=>True) (okp:=λ_=>True) ?hr ?hp (λ_ hk=>hk) trivial (Below.refl _ _) (Nat.le_refl _) (by simp) ?_;(case hd=>rfl);(case hg=>rfl);(case hr=>exact eO);(case hp=>exact (bG.one (show Kd.M (Kd.int .i64) _ _ _ (-1) [.int .i64 (-1)] from rfl) (bG.one (show Kd.M (Kd.int .i64) _ _ _ 0 [.int .i64 0] from rfl) (bG.one (show Kd.M (Kd.int .i64) _ _ _ (x5_1.length:Int) [.int .i64 (x5_1.length:Int)] from rfl) (bG.one (show Kd.M (Kd.int .i64) _ _ _ (wrap64 ((x5_1.length:Int)+1)) [.int .i64 (wrap64 ((x5_1.length:Int)+1))] from rfl) (bG.one (show Kd.M (Kd.int .i64) _ _ _ 99 [.int .i64 99] from rfl) (bG.one (show Kd.M (Kd.int .i64) _ _ _ 100 [.int .i64 100] from rfl) (bG.none _ _))))))));intro v306 w29 ho30 hb hg_ hnew_;clear hg_ hnew_;(first|rw[<- Ny305.out]at ho30|(simp only[Int.reduceToNat]at ho30;rw[<- Ny305.out]at ho30));have ak:=aa (Kd.R_elder' (ai HO_5.out) (Kd.R_base ho30) hb);have n1_:=aa (Kd.R_lower (Kd.R_new' ho30 (Kd.R_lt (ai HO_5.out))) (jR (w:=w) (g:=g) (row:=none) a_));have n2_:=aa (aH.below (aV HI0.out) hb);have n3_:=aa (aQ.trans a_ (aQ.of_below hb g none) (.inl rfl));have n4_:=aa (aj (bn HI0.out) hb);replace HO_5:=ak;have HO307:=n1_;replace HI0:=n2_;replace HK:=n3_;replace HB:=n4_;clear ak n1_ n2_ n3_ n4_;clear hb ho30;obtain ⟨Ao31,co31,eo31⟩:=Kd.R_slice HO307.out;subst eo31)|((with_reducible refine av 87 ?_);refine ax 52 Tryz.func87 #[.pointer (some ⟨g,0,none⟩),.slice Ao31 y305.length co31] ?_;(with_reducible refine (ko.calls g s0_0 t303 t304 _ _ y305 t308 t309 t310 w0 _ ?s1 ?s2 ?s3 ?s4 ?s5 A25.out).mono ?_);(case s1=>exact aV HI0.out);(case s2=>exact bn HI0.out);(case s3=>exact eH HO307.out);(case s4=>exact (Kd.R_reads' HO307.out).2.1);(case s5=>exact vP (aH.own_ne HI0.out HO307.out (by decide)));rintro e w32 ⟨rfl,hi,hb,hk⟩;refine ⟨_,rfl,?_⟩;replace HO_5:=aa (Kd.R_mono (Kd.R_keep (aH.apart (show aH w0 _ g s0_0 t303 t304 from aV HI0.out) (ai HO_5.out) (by decide)) hk (λ_ h=>h.2)) (λ_ h=>h.1));replace HO307:=aa (Kd.R_mono (Kd.R_keep (aH.apart (show aH w0 _ g s0_0 t303 t304 from aV HI0.out) (ai HO307.out) (by decide)) hk (λ_ h=>h.2)) (λ_ h=>h.1));replace HK:=aa (aQ.trans a_ hk (.inl rfl));replace HB:=aa (hb);replace HI0:=aa (hi);clear hb hk hi)|((with_reducible refine dE (b:=.append) (xs:=#[.tmp 44,.tmp 53]) rfl ?_);at_builtin;refine Kd.R_append (Kd.int .i64) w.heap.size rfl (.tmp 44) (.tmp 53) 22 3 (.int .i64 0) 8 rfl Tryz.underlying22 info3 rfl (by decide) (by omega) (.slice Ao28 x5_1.length co28) x5_1 t308 [.int .i64 t308] (λk_=>some k_≠(.slice Ao31 y305.length co31:Value).ownBlock) (λ_=>False) rfl rfl ?aP (λ_ hk=>hk.elim) ?aF ?aO (Below.refl _ _) ?aS ?aL ?_;(case aP=>exact rfl);(case aF=>exact (λk_ hk=>Kd.fresh' (Kd.R_lt (ai HO307.out)) k_ hk));(case aO=>exact (lC HO_5.out));(case aS=>exact (jR (w:=w) (g:=g) (row:=none) a_));(case aL=>exact bB LMc26.out);intro v312 w33 ho hb hg hat;rw[<- Ny311.out]at ho;have ak:=aa (aH.grown (aV HI0.out) hg (aH.own_ne HI0.out HO_5.out (by decide)));have n1_:=aa (Kd.R_after (ok:=(λ_=>True)) (ai HO307.out) hg hat);have n2_:=aa (qG (bn HI0.out) HL.out hb);have n3_:=aa (aQ.trans a_ (aQ.of_grown hg g) (Kd.R_base2 HO_5.out));have n4_:=aa (ho);replace HI0:=ak;replace HO307:=n1_;replace HB:=n2_;replace HK:=n3_;have HO313:=n4_;clear ak n1_ n2_ n3_ n4_;clear ho hb hg hat))
    go_ret;exact ⟨_,aU,kJ HO313.out,aV HI0.out,bn HI0.out,a_⟩
   revert H;refine dH (λc34b0 c34b1 H=>?_) λc34 c34b0 c34b1 H=>?_
   ·
    by_cases c35:(x5_1.length:Int)>0
    ·
     rw[if_pos c35]at H;have c35b0:=decide_eq_true c35;have c35b1:decide (0<x5_1.length)=true:=decide_eq_true (by omega);clear c35;obtain ⟨⟨t314,t315,t316⟩,A36,H⟩:=aA H;dsimp only at H;obtain ⟨⟨t317,t318,t319⟩,A37,H⟩:=aA H;dsimp only at H;revert H;refine aX λc38b0 H=>?_;revert H;refine aX λc39b0 H=>?_;obtain ⟨y320,hy320⟩:=bv ((x5_1.set (t314:Int).toNat t317):List Int);replace H:(some (y320,t318,t319))=some (r1,r2,r3):=bu hy320 H;have Ny320:=aa hy320;clear hy320;obtain ⟨rfl,rfl,rfl⟩:=eD H
     go_wp2_with (first|((with_reducible refine av 85 ?_);refine ax 41 Tryz.func85 #[.pointer (some ⟨g,0,none⟩),.int .i64 20] ?_;(with_reducible refine (cB.calls g s0_0 x1001_1 x1002_1 20 t302 t303 t304 w0 _ ?s1 ?s2 A23.out).mono ?_);(case s1=>exact aV HI0.out);(case s2=>exact bn HI0.out);rintro e w41 ⟨rfl,hi,hb,hk⟩;refine ⟨_,rfl,?_⟩;replace HO_5:=aa (Kd.R_mono (Kd.R_keep (aH.apart (show aH w0 _ g s0_0 x1001_1 x1002_1 from aV HI0.out) (ai HO_5.out) (by decide)) hk (λ_ h=>h.2)) (λ_ h=>h.1));replace HK:=aa (aQ.trans a_ hk (.inl rfl));replace HB:=aa (hb);replace HI0:=aa (hi);clear hb hk hi;obtain ⟨Ao42,co42,eo42⟩:=Kd.R_slice HO_5.out;subst eo42)|((with_reducible refine av 85 ?_);refine ax 64 Tryz.func85 #[.pointer (some ⟨g,0,none⟩),.int .i64 (x5_1.length:Int)] ?_;(with_reducible refine (cB.calls g s0_0 t303 t304 (x5_1.length:Int) t314 t315 t316 w0 _ ?s1 ?s2 A36.out).mono ?_);(case s1=>exact aV HI0.out);(case s2=>exact bn HI0.out);rintro e w43 ⟨rfl,hi,hb,hk⟩;refine ⟨_,rfl,?_⟩;replace HO_5:=aa (Kd.R_mono (Kd.R_keep (aH.apart (show aH w0 _ g s0_0 t303 t304 from aV HI0.out) (ai HO_5.out) (by decide)) hk (λ_ h=>h.2)) (λ_ h=>h.1));replace HK:=aa (aQ.trans a_ hk (.inl rfl));replace HB:=aa (hb);replace HI0:=aa (hi);clear hb hk hi)|((with_reducible refine av 85 ?_);refine ax 68 Tryz.func85 #[.pointer (some ⟨g,0,none⟩),.int .i64 (x5_1.length:Int)] ?_;(with_reducible refine (cB.calls g s0_0 t315 t316 (x5_1.length:Int) t317 t318 t319 w0 _ ?s1 ?s2 A37.out).mono ?_);(case s1=>exact aV HI0.out);(case s2=>exact bn HI0.out);rintro e w44 ⟨rfl,hi,hb,hk⟩;refine ⟨_,rfl,?_⟩;replace HO_5:=aa (Kd.R_mono (Kd.R_keep (aH.apart (show aH w0 _ g s0_0 t315 t316 from aV HI0.out) (ai HO_5.out) (by decide)) hk (λ_ h=>h.2)) (λ_ h=>h.1));replace HK:=aa (aQ.trans a_ hk (.inl rfl));replace HB:=aa (hb);replace HI0:=aa (hi);clear hb hk hi;have p40:0<=(t314:Int):=of_decide_eq_true aD;have q40:(t314:Int)<((x5_1.length:Int):Int):=of_decide_eq_true aD;obtain ⟨go40,co40,eo40,gb40,gl40,cl40,HG40⟩:=Kd.R_form HO_5.out (by omega);(first|cases eo40|(injection eo40 with ea_ en_ ec_;(first|subst ea_|(injection ea_ with ea_;subst ea_));subst ec_;clear en_));have GB40:=aa gb40;have GG40:=aa HG40;clear gb40 gl40 HG40;obtain ⟨hx40_0,hf40_0⟩:=Kd.R_celln 0 HO_5.out (t314:Int) p40 q40;replace p40:=eq_true p40;replace q40:=eq_true q40;obtain ⟨hy45_,hz45_⟩:=Kd.R_celln 0 HO_5.out (t314:Int) (of_decide_eq_true aD) (of_decide_eq_true aD);have HP45:=Kd.R_putg HO_5.out (t314:Int) t317)|((with_reducible refine jh (t:=3) (p:=69) rfl ?_);refine jF (t:=3) (p:=69) (v:=?vo_w46) (w1:=(w44.setCell ⟨go40,(t314:Int).toNat,none⟩ (.int .i64 t317))) ?hg ?ho ?hn ?hr ?_;(case ho=>rfl);(case hg=>rfl);(case hn=>rfl);(case hr=>exact eO);intro w46 hw;have hg:w44.grownBy w46 (some go40):=(by rw[hw];exact HP45.2);have hp_:Kd.R (Kd.int .i64) 3 w46 w.heap.size (λ_=>True) (.slice (some ⟨go40,0,none⟩) x5_1.length co42) y320:=(by rw[hw,Ny320.out];exact HP45.1);clear HP45;replace HI0:=aa (aH.grown (aV HI0.out) hg (aH.own_ne HI0.out HO_5.out (by decide)));replace HK:=aa (aQ.trans a_ (aQ.of_grown hg g) (Kd.R_base2 HO_5.out));replace HO_5:=aa (hp_);replace HB:=aa ((by rw[hw];exact bf (HB.out) (Nat.le_trans HL.out GB40.out):Below w0.heap.size w0 w46));clear hg hw hp_));go_ret
     exact ⟨_,aU,ai HO_5.out,aV HI0.out,bn HI0.out,a_⟩
    rw[if_neg c35]at H;have c35b0:=decide_eq_false c35;have c35b1:decide (0<x5_1.length)=false:=decide_eq_false (by omega);clear c35;obtain ⟨rfl,rfl,rfl⟩:=eD H;go_wp2_with (first|((with_reducible refine av 85 ?_);refine ax 41 Tryz.func85 #[.pointer (some ⟨g,0,none⟩),.int .i64 20] ?_;(with_reducible refine (cB.calls g s0_0 x1001_1 x1002_1 20 t302 t303 t304 w0 _ ?s1 ?s2 A23.out).mono ?_);(case s1=>exact aV HI0.out);(case s2=>exact bn HI0.out);rintro e w47 ⟨rfl,hi,hb,hk⟩;refine ⟨_,rfl,?_⟩;replace HO_5:=aa (Kd.R_mono (Kd.R_keep (aH.apart (show aH w0 _ g s0_0 x1001_1 x1002_1 from aV HI0.out) (ai HO_5.out) (by decide)) hk (λ_ h=>h.2)) (λ_ h=>h.1));replace HK:=aa (aQ.trans a_ hk (.inl rfl));replace HB:=aa (hb);replace HI0:=aa (hi);clear hb hk hi;obtain ⟨Ao48,co48,eo48⟩:=Kd.R_slice HO_5.out;subst eo48));go_ret;exact ⟨_,aU,ai HO_5.out,aV HI0.out,bn HI0.out,a_⟩
   revert H;refine dH (λc49b0 c49b1 H=>?_) λc49 c49b0 c49b1 H=>?_
   ·
    have H':=aa H;clear H;go_wp2_with (first|((with_reducible refine av 85 ?_);refine ax 41 Tryz.func85 #[.pointer (some ⟨g,0,none⟩),.int .i64 20] ?_;(with_reducible refine (cB.calls g s0_0 x1001_1 x1002_1 20 t302 t303 t304 w0 _ ?s1 ?s2 A23.out).mono ?_);(case s1=>exact aV HI0.out);(case s2=>exact bn HI0.out);rintro e w50 ⟨rfl,hi,hb,hk⟩;refine ⟨_,rfl,?_⟩;replace HO_5:=aa (Kd.R_mono (Kd.R_keep (aH.apart (show aH w0 _ g s0_0 x1001_1 x1002_1 from aV HI0.out) (ai HO_5.out) (by decide)) hk (λ_ h=>h.2)) (λ_ h=>h.1));replace HK:=aa (aQ.trans a_ hk (.inl rfl));replace HB:=aa (hb);replace HI0:=aa (hi);clear hb hk hi))
    go_loopg [5] k1 (λkq v5 w'=>∃ (x5_2:List Int),ae (fo.l1 kq x5_2 s0_0 t303 t304=some (r1,r2,r3))/\ae (kq<=k1)/\ae (Kd.R (Kd.int .i64) 3 w' w.heap.size (λ_=>True) v5 x5_2)/\ae (aH w0 w' g s0_0 t303 t304)/\ae (aQ w w' g none)/\ae (Below w0.heap.size w0 w'))
    case atStart=>exact ⟨(x5_1),H',⟨Nat.le_refl _⟩,⟨ai HO_5.out⟩,⟨aV HI0.out⟩,⟨a_⟩,⟨bn HI0.out⟩⟩
    case round =>
     clear H';obtain ⟨x5_2,HA,HK2,HO_5,HI0,HK,HB⟩:=hrel;cases gk with
     | zero=>exact ak HA.out
     | succ k2 =>
      have H:=HA.out;clear HA;simp only[fo.l1]at H
      by_cases c51:(x5_2.length:Int)<9
      ·
       rw[if_pos c51]at H;have c51b0:=decide_eq_true c51;have c51b1:decide (x5_2.length<9)=true:=decide_eq_true (by omega);clear c51;revert H;refine bZ λc52 H=>?_;have LMc52:=aa c52;clear c52;obtain ⟨y321,hy321⟩:=bv ((x5_2++[0]):List Int);replace H:(fo.l1 k2 y321 s0_0 t303 t304)=some (r1,r2,r3):=bu hy321 H;have Ny321:=aa hy321;clear hy321;have H':=aa H;clear H;obtain ⟨Ao53,co53,eo53⟩:=Kd.R_slice HO_5.out;subst eo53;go_wp2_with (first|((with_reducible refine dE (b:=.append) (xs:=#[.tmp 75,.tmp 76]) rfl ?_);at_builtin;refine Kd.R_append (Kd.int .i64) w.heap.size rfl (.tmp 75) (.tmp 76) 22 3 (.int .i64 0) 8 rfl Tryz.underlying22 info3 rfl (by decide) (by omega) (.slice Ao53 x5_2.length co53) x5_2 0 [.int .i64 0] (λ_=>True) (λ_=>False) rfl rfl ?aP (λ_ hk=>hk.elim) ?aF ?aO (Below.refl _ _) ?aS ?aL ?_;(case aP=>exact rfl);(case aF=>exact (λ_ _=>trivial));(case aO=>exact (ai HO_5.out));(case aS=>exact (jR (w:=w) (g:=g) (row:=none) a_));(case aL=>exact bB LMc52.out);intro v322 w54 ho hb hg hat;rw[<- Ny321.out]at ho;have ak:=aa (aH.grown (aV HI0.out) hg (aH.own_ne HI0.out HO_5.out (by decide)));have n1_:=aa (qG (bn HI0.out) HL.out hb);have n2_:=aa (aQ.trans a_ (aQ.of_grown hg g) (Kd.R_base2 HO_5.out));have n3_:=aa (ho);replace HI0:=ak;replace HB:=n1_;replace HK:=n2_;have HO323:=n3_;clear ak n1_ n2_ n3_;clear ho hb hg hat));go_roundg k2
       case measure=>have:=HK1.out;have:=HK2.out;omega
       case rel=>exact ⟨(y321),H',⟨dR HK1.out HK2.out⟩,⟨ai HO323.out⟩,⟨aV HI0.out⟩,⟨a_⟩,⟨bn HI0.out⟩⟩
      rw[if_neg c51]at H;have c51b0:=decide_eq_false c51;have c51b1:decide (x5_2.length<9)=false:=decide_eq_false (by omega);clear c51;obtain ⟨rfl,rfl,rfl⟩:=eD H;obtain ⟨Ao55,co55,eo55⟩:=Kd.R_slice HO_5.out;subst eo55;go_wp2;go_ret;exact ⟨_,aU,ai HO_5.out,aV HI0.out,bn HI0.out,a_⟩
   obtain ⟨rfl,rfl,rfl⟩:=eD H;go_wp2_with (first|((with_reducible refine av 85 ?_);refine ax 41 Tryz.func85 #[.pointer (some ⟨g,0,none⟩),.int .i64 20] ?_;(with_reducible refine (cB.calls g s0_0 x1001_1 x1002_1 20 t302 t303 t304 w0 _ ?s1 ?s2 A23.out).mono ?_);(case s1=>exact aV HI0.out);(case s2=>exact bn HI0.out);rintro e w56 ⟨rfl,hi,hb,hk⟩;refine ⟨_,rfl,?_⟩;replace HO_5:=aa (Kd.R_mono (Kd.R_keep (aH.apart (show aH w0 _ g s0_0 x1001_1 x1002_1 from aV HI0.out) (ai HO_5.out) (by decide)) hk (λ_ h=>h.2)) (λ_ h=>h.1));replace HK:=aa (aQ.trans a_ hk (.inl rfl));replace HB:=aa (hb);replace HI0:=aa (hi);clear hb hk hi));go_ret;exact ⟨_,aU,ai HO_5.out,aV HI0.out,bn HI0.out,a_⟩
mutual
def dY.l0:Nat->ByteArray->ByteArray->Int->List Int->Int->Int->Option (ByteArray × Int × Int)
 | 0,_,_,_,_,_,_=>none
 | k+1,x1,x2,x7,x1000,x1001,x1002=>if x7>0 then (dY.j1 k x1 x2 x7 (decide ((x1.size:Int)>0)) x1000 x1001 x1002)else (dY.j1 k x1 x2 x7 false x1000 x1001 x1002)
def dY.j1:Nat->ByteArray->ByteArray->Int->Bool->List Int->Int->Int->Option (ByteArray × Int × Int)
 | 0,_,_,_,_,_,_,_=>none
 | k+1,x1,x2,x7,x19,x1000,x1001,x1002=>if x19=true then ((cB.f x1000 x1001 x1002 (x1.size:Int)).bind λbt388=>((cB.f x1000 bt388.2.1 bt388.2.2 (x2.size:Int)).bind λbt391=>(if 0<=bt391.1 then (if bt391.1<(x2.size:Int)then ((some (([bt x2 bt391.1]:List Int):List Int)).bind λy394=>((cB.f x1000 bt391.2.1 bt391.2.2 3).bind λbt397=>(if bt397.1=0 then (if 0<=bt388.1 then (if bt388.1<=(x1.size:Int)then (if (x1.extract 0 (bt388.1:Int).toNat).size+(strOfNums y394).size<=9223372036854775807 then (if ((x1.extract 0 (bt388.1:Int).toNat)++(strOfNums y394)).size+(x1.extract (bt388.1:Int).toNat x1.size).size<=9223372036854775807 then (dY.l0 k (((x1.extract 0 (bt388.1:Int).toNat)++(strOfNums y394))++(x1.extract (bt388.1:Int).toNat x1.size)) x2 (wrap64 (x7 - 1)) x1000 bt397.2.1 bt397.2.2)else (none))else (none))else (none))else (none))else (if bt397.1=1 then (if 0<=bt388.1 then (if bt388.1<=(x1.size:Int)then (if (x1.extract 0 (bt388.1:Int).toNat).size+(strOfNums y394).size<=9223372036854775807 then (if 0<=(wrap64 (bt388.1+1))then (if (wrap64 (bt388.1+1))<=(x1.size:Int)then (if ((x1.extract 0 (bt388.1:Int).toNat)++(strOfNums y394)).size+(x1.extract ((wrap64 (bt388.1+1)):Int).toNat x1.size).size<=9223372036854775807 then (dY.l0 k (((x1.extract 0 (bt388.1:Int).toNat)++(strOfNums y394))++(x1.extract ((wrap64 (bt388.1+1)):Int).toNat x1.size)) x2 (wrap64 (x7 - 1)) x1000 bt397.2.1 bt397.2.2)else (none))else (none))else (none))else (none))else (none))else (none))else (if 0<=bt388.1 then (if bt388.1<=(x1.size:Int)then (if 0<=(wrap64 (bt388.1+1))then (if (wrap64 (bt388.1+1))<=(x1.size:Int)then (if (x1.extract 0 (bt388.1:Int).toNat).size+(x1.extract ((wrap64 (bt388.1+1)):Int).toNat x1.size).size<=9223372036854775807 then (dY.l0 k ((x1.extract 0 (bt388.1:Int).toNat)++(x1.extract ((wrap64 (bt388.1+1)):Int).toNat x1.size)) x2 (wrap64 (x7 - 1)) x1000 bt397.2.1 bt397.2.2)else (none))else (none))else (none))else (none))else (none))))))else (none))else (none))))else (some (x1,x1001,x1002))
end
def dY.f(k:Nat)(s0_0:List Int)(s0_1:Int)(s0_2:Int)(a1:ByteArray)(a2:ByteArray):Option (ByteArray × Int × Int):=(cB.f s0_0 s0_1 s0_2 2).bind λbt385=>(dY.l0 k a1 a2 (wrap64 (1+bt385.1)) s0_0 bt385.2.1 bt385.2.2)
theorem dY.calls(k:Nat)(g:Nat)(s0_0:List Int)(s0_1:Int)(s0_2:Int)(a1:ByteArray)(a2:ByteArray)(r1:ByteArray)(r2:Int)(r3:Int)(w0 w:World)(hI:aH w0 w g s0_0 s0_1 s0_2)(hB:Below w0.heap.size w0 w)(h:dY.f k s0_0 s0_1 s0_2 a1 a2=some (r1,r2,r3)) :
  Calls Tryz.prog 105 #[.pointer (some ⟨g,0,none⟩),.string a1,.string a2] w λe w'=>e=.returned (.string r1)/\aH w0 w' g s0_0 r2 r3/\Below w0.heap.size w0 w'/\aQ w w' g none:=by
 have HI0:=aa hI;have HK:=aa (aQ.refl w g none);have HL:=aa hB.size;clear hI;have HW0:=aa hB.size;have HB:=aa hB;clear hB;unfold dY.f at h;have H:=h;clear h;obtain ⟨⟨t385,t386,t387⟩,A4,H⟩:=aA H;dsimp only at H;have H':=aa H;clear H;go_enter Tryz.func105,Tryz.ntmps105;have zz_:=trivial
 repeat (clear zz_;go_wp2_with (first|(go_at_call 85;(with_reducible refine (cB.calls g s0_0 s0_1 s0_2 2 t385 t386 t387 w0 _ ?s1 ?s2 A4.out).mono ?_);(case s1=>exact aV HI0.out);(case s2=>exact bn HI0.out);rintro e w5 ⟨rfl,hi,hb,hk⟩;replace HK:=aa (aQ.trans a_ hk (.inl rfl));replace HB:=aa (hb);replace HI0:=aa (hi);clear hb hk hi));try (go_quiet (fail);have zz_:=trivial))
 go_loopg [1,7] k (λkq v1 v7 w'=>∃ (x1_1:ByteArray) (x7_1:Int) (x1001_1:Int) (x1002_1:Int),v1=.string x1_1/\v7=.int .i64 x7_1/\ae (dY.l0 kq x1_1 a2 x7_1 s0_0 x1001_1 x1002_1=some (r1,r2,r3))/\ae (kq<=k)/\ae (aH w0 w' g s0_0 x1001_1 x1002_1)/\ae (aQ w w' g none)/\ae (Below w0.heap.size w0 w'))
 case atStart=>exact ⟨(a1),(wrap64 (1+t385)),(t386),(t387),ag,ag,H',⟨Nat.le_refl _⟩,⟨aV HI0.out⟩,⟨a_⟩,⟨bn HI0.out⟩⟩
 case round =>
  clear H';obtain ⟨x1_1,x7_1,x1001_1,x1002_1,rfl,rfl,HA,HK1,HI0,HK,HB⟩:=hrel;cases gk with
  | zero=>exact ak HA.out
  | succ k1 =>
   have H:=HA.out;clear HA;simp only[dY.l0]at H;have HC6:=aa H;clear H
   go_upto_region 2 with (fail)
   repeat (go_quiet (fail);try go_upto_region 2 with (fail))
   go_cut [19] (λv19 wc=>∃ (kq:Nat) (x19_5:Bool),v19=.bool x19_5/\ae (dY.j1 kq x1_1 a2 x7_1 x19_5 s0_0 x1001_1 x1002_1=some (r1,r2,r3))/\ae (kq<=k1)/\ae (aH w0 wc g s0_0 x1001_1 x1002_1)/\ae (aQ w wc g none)/\ae (Below w0.heap.size w0 wc))
   case first =>
    have H:=HC6.out;clear HC6;revert H;refine bi (λc7b0 H=>?_) λc7b0 H=>?_
    ·
     (first|rw[c7b0]|(simp only[cO,eB];rw[c7b0])|skip)
     have H':=aa H;clear H;go_wp2
     repeat (go_quiet (fail);try go_wp2)
     go_meet
     case rel=>exact ⟨_,(decide ((x1_1.size:Int)>0)),ag,H',⟨lw HK1.out⟩,⟨aV HI0.out⟩,⟨a_⟩,⟨bn HI0.out⟩⟩
    (first|rw[c7b0]|(simp only[cO,eB];rw[c7b0])|skip)
    have H':=aa H;clear H;go_wp2
    repeat (go_quiet (fail);try go_wp2)
    go_meet
    case rel=>exact ⟨_,(false),ag,H',⟨lw HK1.out⟩,⟨aV HI0.out⟩,⟨a_⟩,⟨bn HI0.out⟩⟩
   case rest =>
    clear HC6;obtain ⟨kq,x19_5,rfl,HA,HJ5,HI0,HK,HB⟩:=hcut;cases kq with
    | zero=>exact ak HA.out
    | succ kj5 =>
     have H:=HA.out;clear HA;simp only[dY.j1]at H;revert H;refine bA (λc8 H=>?_) λc8 H=>?_
     ·
      subst c8;obtain ⟨⟨t388,t389,t390⟩,A9,H⟩:=aA H;dsimp only at H;obtain ⟨⟨t391,t392,t393⟩,A10,H⟩:=aA H;dsimp only at H;revert H;refine aX λc11b0 H=>?_;revert H;refine aX λc12b0 H=>?_;obtain ⟨y394,hy394⟩:=bv ((([bt a2 t391]:List Int)):List Int);replace H:((cB.f s0_0 t392 t393 3).bind λbt397=>(if bt397.1=0 then (if 0<=t388 then (if t388<=(x1_1.size:Int)then (if (x1_1.extract 0 (t388:Int).toNat).size+(strOfNums y394).size<=9223372036854775807 then (if ((x1_1.extract 0 (t388:Int).toNat)++(strOfNums y394)).size+(x1_1.extract (t388:Int).toNat x1_1.size).size<=9223372036854775807 then (dY.l0 kj5 (((x1_1.extract 0 (t388:Int).toNat)++(strOfNums y394))++(x1_1.extract (t388:Int).toNat x1_1.size)) a2 (wrap64 (x7_1 - 1)) s0_0 bt397.2.1 bt397.2.2)else (none))else (none))else (none))else (none))else (if bt397.1=1 then (if 0<=t388 then (if t388<=(x1_1.size:Int)then (if (x1_1.extract 0 (t388:Int).toNat).size+(strOfNums y394).size<=9223372036854775807 then (if 0<=(wrap64 (t388+1))then (if (wrap64 (t388+1))<=(x1_1.size:Int)then (if ((x1_1.extract 0 (t388:Int).toNat)++(strOfNums y394)).size+(x1_1.extract ((wrap64 (t388+1)):Int).toNat x1_1.size).size<=9223372036854775807 then (dY.l0 kj5 (((x1_1.extract 0 (t388:Int).toNat)++(strOfNums y394))++(x1_1.extract ((wrap64 (t388+1)):Int).toNat x1_1.size)) a2 (wrap64 (x7_1 - 1)) s0_0 bt397.2.1 bt397.2.2)else (none))else (none))else (none))else (none))else (none))else (none))else (if 0<=t388 then (if t388<=(x1_1.size:Int)then (if 0<=(wrap64 (t388+1))then (if (wrap64 (t388+1))<=(x1_1.size:Int)then (if (x1_1.extract 0 (t388:Int).toNat).size+(x1_1.extract ((wrap64 (t388+1)):Int).toNat x1_1.size).size<=9223372036854775807 then (dY.l0 kj5 ((x1_1.extract 0 (t388:Int).toNat)++(x1_1.extract ((wrap64 (t388+1)):Int).toNat x1_1.size)) a2 (wrap64 (x7_1 - 1)) s0_0 bt397.2.1 bt397.2.2)else (none))else (none))else (none))else (none))else (none)))))=some (r1,r2,r3):=bu hy394 H;have Ny394:=aa hy394;clear hy394;obtain ⟨⟨t397,t398,t399⟩,A14,H⟩:=aA H;dsimp only at H
      revert H;refine dH (λc15b0 c15b1 H=>?_) λc15 c15b0 c15b1 H=>?_
      ·
       revert H;refine dI λc16b0 c16b1 H=>?_;revert H;refine dI λc17b0 c17b1 H=>?_;revert H;refine bZ λc18 H=>?_;have c18b0:=eq_true c18;have c18b1:=decide_eq_true c18
       try have c18b2:(9223372036854775807<(x1_1.extract 0 (t388:Int).toNat).size+(strOfNums y394).size)=False:=eq_false (Nat.not_lt.2 c18)
       have c19b0:=eq_true (of_decide_eq_true aD:0<=t388);have c20b0:=eq_true (of_decide_eq_true aD:t388<=(x1_1.size:Int));revert H;refine bZ λc21 H=>?_;have c21b0:=eq_true c21;have c21b1:=decide_eq_true c21
       try have c21b2:(9223372036854775807<((x1_1.extract 0 (t388:Int).toNat)++(strOfNums y394)).size+(x1_1.extract (t388:Int).toNat x1_1.size).size)=False:=eq_false (Nat.not_lt.2 c21)
       have H':=aa H;clear H;have zz_:=trivial
       repeat (clear zz_;go_wp2_with (first|(go_at_call 85;(with_reducible refine (cB.calls g s0_0 x1001_1 x1002_1 (x1_1.size:Int) t388 t389 t390 w0 _ ?s1 ?s2 A9.out).mono ?_);(case s1=>exact aV HI0.out);(case s2=>exact bn HI0.out);rintro e w22 ⟨rfl,hi,hb,hk⟩;replace HK:=aa (aQ.trans a_ hk (.inl rfl));replace HB:=aa (hb);replace HI0:=aa (hi);clear hb hk hi)|(go_at_call 85;(with_reducible refine (cB.calls g s0_0 t389 t390 (a2.size:Int) t391 t392 t393 w0 _ ?s1 ?s2 A10.out).mono ?_);(case s1=>exact aV HI0.out);(case s2=>exact bn HI0.out);rintro e w23 ⟨rfl,hi,hb,hk⟩;replace HK:=aa (aQ.trans a_ hk (.inl rfl));replace HB:=aa (hb);replace HI0:=aa (hi);clear hb hk hi;have p13:0<=(t391:Int):=of_decide_eq_true aD;have q13:t391<(a2.size:Int):=of_decide_eq_true aD;have hx13:=jJ a2 t391;replace p13:=eq_true p13;replace q13:=eq_true q13)|((with_reducible refine dm 32 ?_);(try (refine kZ (by rfl) ?_;dsimp only));refine Kd.R_lit (Kd.int .u8) _ 5 ?hg (N:=32) ?hd (xs:=([bt a2 t391]:List Int)) (inner:=[.int .u8 (bt a2 t391)]) (ok:=λ_=>True) (okp:=λ_=>True) ?hr ?hp (λ_ hk=>hk) trivial (Below.refl _ _) (Nat.le_refl _) (by simp) ?_;(case hd=>rfl);(case hg=>rfl);(case hr=>exact eO);(case hp=>exact (bG.one (show Kd.M (Kd.int .u8) _ _ _ (bt a2 t391) [.int .u8 (bt a2 t391)] from rfl) (bG.none _ _)));intro v395 w24 ho25 hb hg_ hnew_;clear hg_ hnew_;(first|rw[<- Ny394.out]at ho25|(simp only[Int.reduceToNat]at ho25;rw[<- Ny394.out]at ho25));have ak:=aa (Kd.R_lower ho25 (jR (w:=w) (g:=g) (row:=none) a_));have n1_:=aa (aH.below (aV HI0.out) hb);have n2_:=aa (aQ.trans a_ (aQ.of_below hb g none) (.inl rfl));have n3_:=aa (aj (bn HI0.out) hb);have HO396:=ak;replace HI0:=n1_;replace HK:=n2_;replace HB:=n3_;clear ak n1_ n2_ n3_;clear hb ho25;have hcv26:=nZ (P:=Tryz.prog) Tryz.underlying49 Tryz.underlying5 Tryz.underlying9 (Kd.own_of_R HO396.out))|(go_at_call 85;(with_reducible refine (cB.calls g s0_0 t392 t393 3 t397 t398 t399 w0 _ ?s1 ?s2 A14.out).mono ?_);(case s1=>exact aV HI0.out);(case s2=>exact bn HI0.out);rintro e w27 ⟨rfl,hi,hb,hk⟩;replace HO396:=aa (Kd.R_mono (Kd.R_keep (aH.apart (show aH w0 _ g s0_0 t392 t393 from aV HI0.out) (ai HO396.out) (by decide)) hk (λ_ h=>h.2)) (λ_ h=>h.1));replace HK:=aa (aQ.trans a_ hk (.inl rfl));replace HB:=aa (hb);replace HI0:=aa (hi);clear hb hk hi));try (go_quiet (fail);have zz_:=trivial))
       go_roundg kj5
       case measure=>have:=HK1.out;have:=HJ5.out;omega
       case rel=>exact ⟨(((x1_1.extract 0 (t388:Int).toNat)++(strOfNums y394))++(x1_1.extract (t388:Int).toNat x1_1.size)),(wrap64 (x7_1 - 1)),(t398),(t399),ag,ag,H',⟨dR HK1.out HJ5.out⟩,⟨aV HI0.out⟩,⟨a_⟩,⟨bn HI0.out⟩⟩
      revert H;refine dH (λc28b0 c28b1 H=>?_) λc28 c28b0 c28b1 H=>?_
      ·
       revert H;refine dI λc29b0 c29b1 H=>?_;revert H;refine dI λc30b0 c30b1 H=>?_;revert H;refine bZ λc31 H=>?_;have c31b0:=eq_true c31;have c31b1:=decide_eq_true c31
       try have c31b2:(9223372036854775807<(x1_1.extract 0 (t388:Int).toNat).size+(strOfNums y394).size)=False:=eq_false (Nat.not_lt.2 c31)
       obtain ⟨ji32,hji32⟩:∃j_:Int,(wrap64 (t388+1))=j_:=⟨_,rfl⟩;replace H:(if 0<=(ji32)then (if (ji32)<=(x1_1.size:Int)then (if ((x1_1.extract 0 (t388:Int).toNat)++(strOfNums y394)).size+(x1_1.extract ((ji32):Int).toNat x1_1.size).size<=9223372036854775807 then (dY.l0 kj5 (((x1_1.extract 0 (t388:Int).toNat)++(strOfNums y394))++(x1_1.extract ((ji32):Int).toNat x1_1.size)) a2 (wrap64 (x7_1 - 1)) s0_0 t398 t399)else (none))else (none))else (none))=some (r1,r2,r3):=by first|(rw[hji32]at H;exact H)|(simp only[hji32]at H ⊢;exact H)
       (try rw[hji32]at A9)
       (try rw[hji32]at A10)
       (try rw[hji32]at A14)
       have hji32w:(IntKind.i64.wrap (t388+1))=ji32:=(cO _).trans hji32;revert H;refine dI λc33b0 c33b1 H=>?_;revert H;refine dI λc34b0 c34b1 H=>?_;revert H;refine bZ λc35 H=>?_;have c35b0:=eq_true c35;have c35b1:=decide_eq_true c35
       try have c35b2:(9223372036854775807<((x1_1.extract 0 (t388:Int).toNat)++(strOfNums y394)).size+(x1_1.extract ((ji32):Int).toNat x1_1.size).size)=False:=eq_false (Nat.not_lt.2 c35)
       have H':=aa H;clear H;have zz_:=trivial
       repeat (clear zz_;go_wp2_with (first|(go_at_call 85;(with_reducible refine (cB.calls g s0_0 x1001_1 x1002_1 (x1_1.size:Int) t388 t389 t390 w0 _ ?s1 ?s2 A9.out).mono ?_);(case s1=>exact aV HI0.out);(case s2=>exact bn HI0.out);rintro e w36 ⟨rfl,hi,hb,hk⟩;replace HK:=aa (aQ.trans a_ hk (.inl rfl));replace HB:=aa (hb);replace HI0:=aa (hi);clear hb hk hi)|(go_at_call 85;(with_reducible refine (cB.calls g s0_0 t389 t390 (a2.size:Int) t391 t392 t393 w0 _ ?s1 ?s2 A10.out).mono ?_);(case s1=>exact aV HI0.out);(case s2=>exact bn HI0.out);rintro e w37 ⟨rfl,hi,hb,hk⟩;replace HK:=aa (aQ.trans a_ hk (.inl rfl));replace HB:=aa (hb);replace HI0:=aa (hi);clear hb hk hi;have p13:0<=(t391:Int):=of_decide_eq_true aD;have q13:t391<(a2.size:Int):=of_decide_eq_true aD;have hx13:=jJ a2 t391;replace p13:=eq_true p13;replace q13:=eq_true q13)|((with_reducible refine dm 32 ?_);(try (refine kZ (by rfl) ?_;dsimp only));refine Kd.R_lit (Kd.int .u8) _ 5 ?hg (N:=32) ?hd (xs:=([bt a2 t391]:List Int)) (inner:=[.int .u8 (bt a2 t391)]) (ok:=λ_=>True) (okp:=λ_=>True) ?hr ?hp (λ_ hk=>hk) trivial (Below.refl _ _) (Nat.le_refl _) (by simp) ?_;(case hd=>rfl);(case hg=>rfl);(case hr=>exact eO);(case hp=>exact (bG.one (show Kd.M (Kd.int .u8) _ _ _ (bt a2 t391) [.int .u8 (bt a2 t391)] from rfl) (bG.none _ _)));intro v395 w38 ho39 hb hg_ hnew_;clear hg_ hnew_;(first|rw[<- Ny394.out]at ho39|(simp only[Int.reduceToNat]at ho39;rw[<- Ny394.out]at ho39));have ak:=aa (Kd.R_lower ho39 (jR (w:=w) (g:=g) (row:=none) a_));have n1_:=aa (aH.below (aV HI0.out) hb);have n2_:=aa (aQ.trans a_ (aQ.of_below hb g none) (.inl rfl));have n3_:=aa (aj (bn HI0.out) hb);have HO396:=ak;replace HI0:=n1_;replace HK:=n2_;replace HB:=n3_;clear ak n1_ n2_ n3_;clear hb ho39;have hcv40:=nZ (P:=Tryz.prog) Tryz.underlying49 Tryz.underlying5 Tryz.underlying9 (Kd.own_of_R HO396.out))|(go_at_call 85;(with_reducible refine (cB.calls g s0_0 t392 t393 3 t397 t398 t399 w0 _ ?s1 ?s2 A14.out).mono ?_);(case s1=>exact aV HI0.out);(case s2=>exact bn HI0.out);rintro e w41 ⟨rfl,hi,hb,hk⟩;replace HO396:=aa (Kd.R_mono (Kd.R_keep (aH.apart (show aH w0 _ g s0_0 t392 t393 from aV HI0.out) (ai HO396.out) (by decide)) hk (λ_ h=>h.2)) (λ_ h=>h.1));replace HK:=aa (aQ.trans a_ hk (.inl rfl));replace HB:=aa (hb);replace HI0:=aa (hi);clear hb hk hi));try (go_quiet (fail);have zz_:=trivial))
       go_roundg kj5
       case measure=>have:=HK1.out;have:=HJ5.out;omega
       case rel=>exact ⟨(((x1_1.extract 0 (t388:Int).toNat)++(strOfNums y394))++(x1_1.extract ((ji32):Int).toNat x1_1.size)),(wrap64 (x7_1 - 1)),(t398),(t399),(by first|rfl|(simp;done)|(simp only[<- hji32] <;> (first|rfl|simp))|(simp[*];done)),ag,H',⟨dR HK1.out HJ5.out⟩,⟨aV HI0.out⟩,⟨a_⟩,⟨bn HI0.out⟩⟩
      revert H;refine dI λc42b0 c42b1 H=>?_;revert H;refine dI λc43b0 c43b1 H=>?_;obtain ⟨ji44,hji44⟩:∃j_:Int,(wrap64 (t388+1))=j_:=⟨_,rfl⟩;replace H:(if 0<=(ji44)then (if (ji44)<=(x1_1.size:Int)then (if (x1_1.extract 0 (t388:Int).toNat).size+(x1_1.extract ((ji44):Int).toNat x1_1.size).size<=9223372036854775807 then (dY.l0 kj5 ((x1_1.extract 0 (t388:Int).toNat)++(x1_1.extract ((ji44):Int).toNat x1_1.size)) a2 (wrap64 (x7_1 - 1)) s0_0 t398 t399)else (none))else (none))else (none))=some (r1,r2,r3):=by first|(rw[hji44]at H;exact H)|(simp only[hji44]at H ⊢;exact H)
      (try rw[hji44]at A9)
      (try rw[hji44]at A10)
      (try rw[hji44]at A14)
      have hji44w:(IntKind.i64.wrap (t388+1))=ji44:=(cO _).trans hji44;revert H;refine dI λc45b0 c45b1 H=>?_;revert H;refine dI λc46b0 c46b1 H=>?_;revert H;refine bZ λc47 H=>?_;have c47b0:=eq_true c47;have c47b1:=decide_eq_true c47
      try have c47b2:(9223372036854775807<(x1_1.extract 0 (t388:Int).toNat).size+(x1_1.extract ((ji44):Int).toNat x1_1.size).size)=False:=eq_false (Nat.not_lt.2 c47)
      have H':=aa H;clear H;have zz_:=trivial
      repeat (clear zz_;go_wp2_with (first|(go_at_call 85;(with_reducible refine (cB.calls g s0_0 x1001_1 x1002_1 (x1_1.size:Int) t388 t389 t390 w0 _ ?s1 ?s2 A9.out).mono ?_);(case s1=>exact aV HI0.out);(case s2=>exact bn HI0.out);rintro e w48 ⟨rfl,hi,hb,hk⟩;replace HK:=aa (aQ.trans a_ hk (.inl rfl));replace HB:=aa (hb);replace HI0:=aa (hi);clear hb hk hi)|(go_at_call 85;(with_reducible refine (cB.calls g s0_0 t389 t390 (a2.size:Int) t391 t392 t393 w0 _ ?s1 ?s2 A10.out).mono ?_);(case s1=>exact aV HI0.out);(case s2=>exact bn HI0.out);rintro e w49 ⟨rfl,hi,hb,hk⟩;replace HK:=aa (aQ.trans a_ hk (.inl rfl));replace HB:=aa (hb);replace HI0:=aa (hi);clear hb hk hi;have p13:0<=(t391:Int):=of_decide_eq_true aD;have q13:t391<(a2.size:Int):=of_decide_eq_true aD;have hx13:=jJ a2 t391;replace p13:=eq_true p13;replace q13:=eq_true q13)|((with_reducible refine dm 32 ?_);(try (refine kZ (by rfl) ?_;dsimp only));refine Kd.R_lit (Kd.int .u8) _ 5 ?hg (N:=32) ?hd (xs:=([bt a2 t391]:List Int)) (inner:=[.int .u8 (bt a2 t391)]) (ok:=λ_=>True) (okp:=λ_=>True) ?hr ?hp (λ_ hk=>hk) trivial (Below.refl _ _) (Nat.le_refl _) (by simp) ?_;(case hd=>rfl);(case hg=>rfl);(case hr=>exact eO);(case hp=>exact (bG.one (show Kd.M (Kd.int .u8) _ _ _ (bt a2 t391) [.int .u8 (bt a2 t391)] from rfl) (bG.none _ _)));intro v395 w50 ho51 hb hg_ hnew_;clear hg_ hnew_;(first|rw[<- Ny394.out]at ho51|(simp only[Int.reduceToNat]at ho51;rw[<- Ny394.out]at ho51));have ak:=aa (Kd.R_lower ho51 (jR (w:=w) (g:=g) (row:=none) a_));have n1_:=aa (aH.below (aV HI0.out) hb);have n2_:=aa (aQ.trans a_ (aQ.of_below hb g none) (.inl rfl));have n3_:=aa (aj (bn HI0.out) hb);have HO396:=ak;replace HI0:=n1_;replace HK:=n2_;replace HB:=n3_;clear ak n1_ n2_ n3_;clear hb ho51;have hcv52:=nZ (P:=Tryz.prog) Tryz.underlying49 Tryz.underlying5 Tryz.underlying9 (Kd.own_of_R HO396.out))|(go_at_call 85;(with_reducible refine (cB.calls g s0_0 t392 t393 3 t397 t398 t399 w0 _ ?s1 ?s2 A14.out).mono ?_);(case s1=>exact aV HI0.out);(case s2=>exact bn HI0.out);rintro e w53 ⟨rfl,hi,hb,hk⟩;replace HO396:=aa (Kd.R_mono (Kd.R_keep (aH.apart (show aH w0 _ g s0_0 t392 t393 from aV HI0.out) (ai HO396.out) (by decide)) hk (λ_ h=>h.2)) (λ_ h=>h.1));replace HK:=aa (aQ.trans a_ hk (.inl rfl));replace HB:=aa (hb);replace HI0:=aa (hi);clear hb hk hi));try (go_quiet (fail);have zz_:=trivial))
      go_roundg kj5
      case measure=>have:=HK1.out;have:=HJ5.out;omega
      case rel=>exact ⟨((x1_1.extract 0 (t388:Int).toNat)++(x1_1.extract ((ji44):Int).toNat x1_1.size)),(wrap64 (x7_1 - 1)),(t398),(t399),(by first|rfl|(simp;done)|(simp only[<- hji44] <;> (first|rfl|simp))|(simp[*];done)),ag,H',⟨dR HK1.out HJ5.out⟩,⟨aV HI0.out⟩,⟨a_⟩,⟨bn HI0.out⟩⟩
     subst c8;obtain ⟨rfl,rfl,rfl⟩:=eD H;go_wp2
     repeat (go_quiet (fail);try go_wp2)
     go_ret;exact ⟨aU,aV HI0.out,bn HI0.out,a_⟩
-- NOT PRINTED: function 65 (spec_l1Cur_script10)
-- NOT PRINTED: function 29 (spec_DrawDeskLine)
-- NOT PRINTED: function 35 (spec_DrawRunScript)
end Go.Proofs.YtjdlhefjgceabaaGreatDoor.PDr
namespace Go.Proofs.YtjdlhefjgceabaaGreatDoor.Plain
open Go.RowKit YtjdlhefjgceabaaGreatDoorW.PrintWords YtjdlhefjgceabaaGreatDoorW.PrintLast Hand PAll PDr
def Bytes(l:List Int):Prop:=∀x∈l,0<=x/\x<=255
theorem bytes_of{l:List Int}(h:∀x∈l,(Lit.int .u8 x).wf=true):Bytes l:=λx hx=>bounds_u8 (h x hx)
theorem GG{l:List Int}(h:Bytes l)(i:Int):0<=rd l i/\rd l i<=255:=by
 unfold rd
 by_cases hi:i.toNat<l.length
 ·
  rw[List.getD_eq_getElem?_getD,List.getElem?_eq_getElem hi];exact h _ (List.getElem_mem hi)
 ·
  rw[List.getD_eq_getElem?_getD,List.getElem?_eq_none (by omega)];exact ⟨Int.le_refl _,by decide⟩
theorem EB(n:Int):0<=Go.bits .and .u64 (IntKind.u64.wrap n / 1099511627776) 255/\Go.bits .and .u64 (IntKind.u64.wrap n / 1099511627776) 255<=255:=by
 have hw:IntKind.u64.wrap n=n % 18446744073709551616:=by simp[IntKind.wrap,IntKind.bits,IntKind.signed]
 obtain ⟨m,hm⟩:∃m:Nat,IntKind.u64.wrap n / 1099511627776=(m:Int):=⟨(IntKind.u64.wrap n / 1099511627776).toNat,by rw[hw];omega⟩
 have hb:m<18446744073709551616:=by rw[hw]at hm;omega
 rw[hm];have e:=bits_and_u64_nat m 255 hb (by decide);have e2:Go.bits .and .u64 (m:Int) 255=((m &&& 255:Nat):Int):=e;rw[e2];have:=Nat.and_le_right (n:=m) (m:=255);omega
abbrev At(at_:Int)(n:Int):Prop:=0<=at_/\at_<=n
theorem Ab{code:List Int}(hc:Bytes code)(at_ seed:Int)(ha:0<=at_/\at_<=1000000):∃b s,lU.f code at_ seed=some (b,at_+1,s)/\0<=b/\b<=255:=by
 unfold lU.f;rw[wrap64_in (at_+1) (by omega) (by omega)];have h1:=GG hc at_;have h2:=wrap64_in (rd code at_) (by omega) (by omega)
 by_cases h:at_<(code.length:Int)
 ·
  rw[if_pos h,if_pos ha.1,if_pos (by omega)];exact ⟨_,_,rfl,by omega,by omega⟩
 ·
  rw[if_neg h,if_neg (by omega)];have h3:=EB ((IntKind.u64.wrap (IntKind.u64.wrap (seed * 6364136223846793005)))+1442695040888963407);have h4:=wrap64_in (Go.bits .and .u64 (IntKind.u64.wrap ((IntKind.u64.wrap (IntKind.u64.wrap (seed * 6364136223846793005)))+1442695040888963407) / 1099511627776) 255) (by omega) (by omega);refine ⟨_,_,rfl,?_,?_⟩
  · rw[h4];exact h3.1
  · rw[h4];exact h3.2
theorem pick_ok{code:List Int}(hc:Bytes code)(at_ seed n:Int)(ha:0<=at_/\at_<=900000)(hn:n<=1000000):∃x a s,cB.f code at_ seed n=some (x,a,s)/\0<=x/\(1<=n->x<n)/\at_<=a/\a<=at_+2:=by
 unfold cB.f
 by_cases h1:n<=1
 ·
  rw[if_pos h1];exact ⟨0,at_,seed,rfl,Int.le_refl _,λh=>by omega,by omega,by omega⟩
 ·
  rw[if_neg h1];obtain ⟨b,s,e,hb0,hb1⟩:=Ab hc at_ seed (by omega);rw[e,Option.bind_some];dsimp only
  by_cases h2:n>200
  ·
   obtain ⟨b2,s2,e2,hc0,hc1⟩:=Ab hc (at_+1) s (by omega);rw[if_pos h2,e2,Option.bind_some];dsimp only;rw[if_neg (by omega),wrap64_in (b * 256) (by omega) (by omega),wrap64_in (b * 256+b2) (by omega) (by omega),Int.tmod_eq_emod_of_nonneg (by omega)];exact ⟨_,_,_,rfl,Int.emod_nonneg _ (by omega),λ_=>Int.emod_lt_of_pos _ (by omega),by omega,by omega⟩
  ·
   rw[if_neg h2,if_neg (by omega),Int.tmod_eq_emod_of_nonneg (by omega)];exact ⟨_,_,_,rfl,Int.emod_nonneg _ (by omega),λ_=>Int.emod_lt_of_pos _ (by omega),by omega,by omega⟩
theorem among_ok{code:List Int}(hc:Bytes code)(at_ seed:Int)(l:List Int)(h0:0<l.length)(hl:l.length<=1000000)(ha:0<=at_/\at_<=900000):∃x a s,ko.f code at_ seed l=some (x,a,s)/\x∈l/\at_<=a/\a<=at_+2:=by
 unfold ko.f;obtain ⟨x,a,s,e,hx0,hx1,ha0,ha1⟩:=pick_ok hc at_ seed (l.length:Int) ha (by omega);have hx:=hx1 (by omega);rw[e,Option.bind_some];dsimp only;rw[if_pos hx0,if_pos hx];refine ⟨_,_,_,rfl,?_,ha0,ha1⟩
 have hlt:x.toNat<l.length:=by omega
 unfold rd;rw[List.getD_eq_getElem?_getD,List.getElem?_eq_getElem hlt];exact List.getElem_mem hlt
theorem one_ok{code:List Int}(hc:Bytes code)(at_ seed n:Int)(ha:0<=at_/\at_<=900000)(hn:n<=1000000):∃b a s,jd.f code at_ seed n=some (b,a,s)/\at_<=a/\a<=at_+2:=by
 unfold jd.f;obtain ⟨x,a,s,e,hx0,hx1,ha0,ha1⟩:=pick_ok hc at_ seed n ha hn;rw[e,Option.bind_some];exact ⟨_,_,_,rfl,ha0,ha1⟩
theorem Ao{code:List Int}(at_ seed:Int):∀ (d:Nat) (x:List Int),d=9 - x.length->∃r,Ev (λk=>fo.l1 k x code at_ seed) (r,at_,seed)/\r.length<=x.length+d:=by
 intro d
 induction d with
 | zero =>
  intro x hd;refine ⟨x,Ev.step (f:=λ_=>some (x,at_,seed)) (λk=>?_) (Ev.now _),by omega⟩;rw[fo.l1,if_neg (by omega)]
 | succ d ih =>
  intro x hd;obtain ⟨r,h,hr⟩:=ih (x++[0]) (by simp;omega);rw[List.length_append,List.length_singleton]at hr;refine ⟨r,Ev.step (λk=>?_) h,by omega⟩;rw[fo.l1,if_pos (by omega),if_pos (by omega)]
theorem Eh{code:List Int}(hc:Bytes code):∀ (d:Nat) (x:List Int) (at_ seed:Int),d<=100->x.length+d<=500->0<=at_/\at_+4 * (d:Int)<=800000->∃r,Ev (λk=>fo.l0 k x (d:Int) code at_ seed) r/\r.1.length<=x.length+d+9/\at_<=r.2.1/\r.2.1<=at_+4 * (d:Int)+8:=by
 intro d
 induction d with
 | zero =>
  intro x at_ seed hd hx ha;obtain ⟨p,a,s,e,hp0,hp1,ha0,ha1⟩:=pick_ok hc at_ seed 20 (by omega) (by decide)
  have hstep:∀k,fo.l0 (k+1) x ((0:Nat):Int) code at_ seed=_:=λk=>by rw[fo.l0,if_neg (by decide),e,Option.bind_some]
  dsimp only at hstep
  by_cases h0:p=0
  ·
   obtain ⟨y,a2,s2,e2,hy,hb0,hb1⟩:=among_ok hc a s [(-1),0,(x.length:Int),wrap64 ((x.length:Int)+1),99,100] (by simp) (by simp) (by omega);refine ⟨(x++[y],a2,s2),Ev.step (f:=λ_=>some (x++[y],a2,s2)) (λk=>?_) (Ev.now _),by dsimp only;simp,by dsimp only;omega,by dsimp only;omega⟩;rw[hstep,if_pos h0,e2,Option.bind_some];dsimp only;rw[if_pos (by omega)]
  ·
   by_cases h1:p=1
   ·
    by_cases h2:(x.length:Int)>0
    ·
     obtain ⟨y,a2,s2,e2,hy0,hy1,hb0,hb1⟩:=pick_ok hc a s (x.length:Int) (by omega) (by omega);obtain ⟨z,a3,s3,e3,hz0,hz1,hc0,hc1⟩:=pick_ok hc a2 s2 (x.length:Int) (by omega) (by omega);have:=hy1 (by omega);refine ⟨(x.set y.toNat z,a3,s3),Ev.step (f:=λ_=>some (x.set y.toNat z,a3,s3)) (λk=>?_) (Ev.now _),by dsimp only;simp,by dsimp only;omega,by dsimp only;omega⟩;rw[hstep,if_neg h0,if_pos h1,if_pos h2,e2,Option.bind_some];dsimp only;rw[e3,Option.bind_some,if_pos hy0,if_pos this]
    ·
     refine ⟨(x,a,s),Ev.step (f:=λ_=>some (x,a,s)) (λk=>?_) (Ev.now _),by dsimp only;omega,by dsimp only;omega,by dsimp only;omega⟩;rw[hstep,if_neg h0,if_pos h1,if_neg h2]
   ·
    by_cases h2:p=2
    ·
     obtain ⟨r,hr,hl⟩:=Ao (code:=code) a s (9 - x.length) x rfl;refine ⟨(r,a,s),Ev.step (λk=>?_) hr,by dsimp only;omega,by dsimp only;omega,by dsimp only;omega⟩;rw[hstep,if_neg h0,if_neg h1,if_pos h2]
    ·
     refine ⟨(x,a,s),Ev.step (f:=λ_=>some (x,a,s)) (λk=>?_) (Ev.now _),by dsimp only;omega,by dsimp only;omega,by dsimp only;omega⟩;rw[hstep,if_neg h0,if_neg h1,if_neg h2]
 | succ d ih =>
  intro x at_ seed hd hx ha;obtain ⟨y,a,s,e,hy0,hy1,ha0,ha1⟩:=pick_ok hc at_ seed ((x.length:Int)+1) (by omega) (by omega);obtain ⟨z,a2,s2,e2,hz0,hz1,hb0,hb1⟩:=pick_ok hc a s ((x.length:Int)+1) (by omega) (by omega);have hz:=hz1 (by omega)
  have hlen:(x.take z.toNat++[y]++x.drop z.toNat).length=x.length+1:=by simp;omega
  obtain ⟨r,hr,hl,hr0,hr1⟩:=ih (x.take z.toNat++[y]++x.drop z.toNat) a2 s2 (by omega) (by omega) (by omega);rw[hlen]at hl;refine ⟨r,Ev.step (λk=>?_) hr,by omega,by omega,by omega⟩;rw[fo.l0,if_pos (by omega),wrap64_in ((x.length:Int)+1) (by omega) (by omega),e,Option.bind_some];dsimp only;rw[e2,Option.bind_some];dsimp only;rw[if_pos hz0,if_pos (by omega),own_eq _ (by simp;omega),Option.bind_some,if_pos (by simp;omega),Option.bind_some,Option.bind_some,if_pos (by simp;omega),wrap64_in _ (by omega) (by omega)]
  congr 1
  omega
theorem park_at{code:List Int}(hc:Bytes code)(at_ seed:Int)(ha:0<=at_/\at_<=700000)(most:Nat)(hm:most<=90):∃r,Ev (λk=>fo.f k code at_ seed (most:Int)) r/\r.1.length<=most+9/\at_<=r.2.1/\r.2.1<=at_+400:=by
 obtain ⟨x,a,s,e,hx0,hx1,ha0,ha1⟩:=pick_ok hc at_ seed ((most:Int)+1) (by omega) (by omega);have hx:=hx1 (by omega);obtain ⟨r,hr,hl,h0,h1⟩:=Eh hc x.toNat [] a s (by omega) (by simp;omega) (by omega);refine ⟨r,?_,by simp at hl;omega,by omega,by omega⟩;unfold fo.f;rw[wrap64_in ((most:Int)+1) (by omega) (by omega),e];rw[show ((x.toNat:Nat):Int)=x by omega]at hr;exact hr
theorem of_ok{code:List Int}(hc:Bytes code)(at_ seed:Int)(l:List ByteArray)(h0:0<l.length)(hl:l.length<=1000000)(ha:0<=at_/\at_<=900000):∃x a s,oQ.f code at_ seed l=some (x,a,s)/\x∈l/\at_<=a/\a<=at_+2:=by
 unfold oQ.f;obtain ⟨x,a,s,e,hx0,hx1,ha0,ha1⟩:=pick_ok hc at_ seed (l.length:Int) ha (by omega);have hx:=hx1 (by omega);rw[e,Option.bind_some];dsimp only;rw[if_pos hx0,if_pos hx];refine ⟨_,_,_,rfl,?_,ha0,ha1⟩
 have hlt:x.toNat<l.length:=by omega
 unfold dS;rw[List.getD_eq_getElem?_getD,List.getElem?_eq_getElem hlt];exact List.getElem_mem hlt
theorem zu{code:List Int}(hc:Bytes code)(n:Int)(x:List Int)(b:Bool)(at_ seed:Int)(hn:0<=n/\n<=8)(hx:b=true->0<x.length/\(x.length:Int)=n)(hl:x.length<=8)(ha:0<=at_/\at_<=800000):∃r,Ev (λk=>fI.j1 k n x b code at_ seed) r/\r.1.length<=9/\at_<=r.2.1/\r.2.1<=at_+8:=by
 cases b with
 | true =>
  obtain ⟨hx0,hxn⟩:=hx rfl;obtain ⟨y,a,s,e,hy0,hy1,ha0,ha1⟩:=pick_ok hc at_ seed n (by omega) (by omega);have:=hy1 (by omega);obtain ⟨z,a2,s2,e2,hz,hb0,hb1⟩:=among_ok hc a s [(-1),wrap64 (n+1),4611686018427387904] (by simp) (by simp) (by omega);obtain ⟨q,a3,s3,e3,hc0,hc1⟩:=one_ok hc a2 s2 25 (by omega) (by decide)
  have hstep:∀k,fI.j1 (k+1) n x true code at_ seed=_:=λk=>by rw[fI.j1,if_pos rfl,e,Option.bind_some]
  dsimp only at hstep;rw[e2]at hstep;simp only[Option.bind_some]at hstep;rw[if_pos hy0,if_pos (by omega),e3]at hstep;simp only[Option.bind_some]at hstep
  cases q with
  | true=>exact ⟨(List.replicate 9 0,a3,s3),Ev.step (f:=λ_=>some (List.replicate 9 0,a3,s3)) (λk=>by rw[hstep,if_pos rfl,if_pos (by decide)]) (Ev.now _),by simp,by dsimp only;omega,by dsimp only;omega⟩
  | false=>exact ⟨(x.set y.toNat z,a3,s3),Ev.step (f:=λ_=>some (x.set y.toNat z,a3,s3)) (λk=>by rw[hstep,if_neg (by decide)]) (Ev.now _),by simp;omega,by dsimp only;omega,by dsimp only;omega⟩
 | false =>
  obtain ⟨q,a3,s3,e3,hc0,hc1⟩:=one_ok hc at_ seed 25 (by omega) (by decide)
  have hstep:∀k,fI.j1 (k+1) n x false code at_ seed=_:=λk=>by rw[fI.j1,if_neg (by decide),e3,Option.bind_some]
  dsimp only at hstep
  cases q with
  | true=>exact ⟨(List.replicate 9 0,a3,s3),Ev.step (f:=λ_=>some (List.replicate 9 0,a3,s3)) (λk=>by rw[hstep,if_pos rfl,if_pos (by decide)]) (Ev.now _),by simp,by dsimp only;omega,by dsimp only;omega⟩
  | false=>exact ⟨(x,a3,s3),Ev.step (f:=λ_=>some (x,a3,s3)) (λk=>by rw[hstep,if_neg (by decide)]) (Ev.now _),by dsimp only;omega,by dsimp only;omega,by dsimp only;omega⟩
theorem DJ{code:List Int}(hc:Bytes code)(n:Nat)(hn:n<=8):∀ (d:Nat) (x:List Int) (at_ seed:Int),x.length+d=n->0<=at_/\at_+2 * (d:Int)<=700000->∃r,Ev (λk=>fI.l0 k (n:Int) x (x.length:Int) code at_ seed) r/\r.1.length<=9/\at_<=r.2.1/\r.2.1<=at_+2 * (d:Int)+10:=by
 intro d
 induction d with
 | zero =>
  intro x at_ seed hx ha
  by_cases h0:(x.length:Int)>0
  ·
   obtain ⟨q,a,s,e,hb0,hb1⟩:=one_ok hc at_ seed 15 (by omega) (by decide);obtain ⟨r,hr,hl,h1,h2⟩:=zu hc (n:Int) x q a s (by omega) (λ_=>by omega) (by omega) (by omega);refine ⟨r,Ev.step (λk=>?_) hr,hl,by omega,by omega⟩;rw[fI.l0,if_neg (by omega),if_pos h0,e,Option.bind_some]
  ·
   obtain ⟨r,hr,hl,h1,h2⟩:=zu hc (n:Int) x false at_ seed (by omega) (λh=>by cases h) (by omega) (by omega);refine ⟨r,Ev.step (λk=>?_) hr,hl,by omega,by omega⟩;rw[fI.l0,if_neg (by omega),if_neg h0]
 | succ d ih =>
  intro x at_ seed hx ha;obtain ⟨y,a,s,e,hy0,hy1,ha0,ha1⟩:=pick_ok hc at_ seed ((n:Int)+1) (by omega) (by omega);obtain ⟨r,hr,hl,h1,h2⟩:=ih (x++[y]) a s (by simp;omega) (by omega);refine ⟨r,Ev.step (λk=>?_) hr,hl,by omega,by omega⟩;rw[fI.l0,if_pos (by omega),wrap64_in ((n:Int)+1) (by omega) (by omega),e,Option.bind_some,if_pos (by omega),wrap64_in ((x.length:Int)+1) (by omega) (by omega)];simp
theorem ringed_at{code:List Int}(hc:Bytes code)(at_ seed:Int)(ha:0<=at_/\at_<=600000):∃r,Ev (λk=>fI.f k code at_ seed) r/\r.1.length<=9/\at_<=r.2.1/\r.2.1<=at_+40:=by
 obtain ⟨x,a,s,e,hx0,hx1,ha0,ha1⟩:=pick_ok hc at_ seed 9 (by omega) (by omega);have hx:=hx1 (by omega);obtain ⟨r,hr,hl,h0,h1⟩:=DJ hc x.toNat (by omega) x.toNat [] a s (by simp) (by omega);refine ⟨r,?_,hl,by omega,by omega⟩;unfold fI.f;rw[e];rw[show ((x.toNat:Nat):Int)=x by omega]at hr;exact hr
end Go.Proofs.YtjdlhefjgceabaaGreatDoor.Plain
namespace Go.Proofs.YtjdlhefjgceabaaGreatDoor.Plain
open Go.RowKit YtjdlhefjgceabaaGreatDoorW.PrintWords YtjdlhefjgceabaaGreatDoorW.PrintLast Hand PDr
theorem Js{code:List Int}(hc:Bytes code)(x2:ByteArray)(h2:1<=x2.size/\x2.size<=1000):∀ (d:Nat) (x1:ByteArray) (at_ seed:Int),d<=2->x1.size+d<=900000->0<=at_/\at_+10 * (d:Int)<=800000->∃r,Ev (λk=>dY.l0 k x1 x2 (d:Int) code at_ seed) r/\r.1.size<=x1.size+d/\at_<=r.2.1/\r.2.1<=at_+10 * (d:Int):=by
 have hend:∀ (x1:ByteArray) (x7 at_ seed:Int),Ev (λk=>dY.j1 k x1 x2 x7 false code at_ seed) (x1,at_,seed):=λx1 x7 at_ seed=>Ev.step (f:=λ_=>some (x1,at_,seed)) (λk=>by rw[dY.j1,if_neg (by decide)]) (Ev.now _);intro d
 induction d with
 | zero =>
  intro x1 at_ seed hd hs ha;exact ⟨(x1,at_,seed),Ev.step (λk=>by rw[dY.l0,if_neg (by omega)]) (hend x1 _ at_ seed),by dsimp only;omega,by dsimp only;omega,by dsimp only;omega⟩
 | succ d ih =>
  intro x1 at_ seed hd hs ha
  by_cases h0:x1.size=0
  · exact ⟨(x1,at_,seed),Ev.step (λk=>by rw[dY.l0,if_pos (by omega),decide_eq_false (show ¬ (x1.size:Int)>0 by omega)]) (hend x1 _ at_ seed),by dsimp only;omega,by dsimp only;omega,by dsimp only;omega⟩
  obtain ⟨p,a,s,e,hp0,hp1,ha0,ha1⟩:=pick_ok hc at_ seed (x1.size:Int) (by omega) (by omega);obtain ⟨q,a2,s2,e2,hq0,hq1,hb0,hb1⟩:=pick_ok hc a s (x2.size:Int) (by omega) (by omega);obtain ⟨z,a3,s3,e3,hz0,hz1,hc0,hc1⟩:=pick_ok hc a2 s2 3 (by omega) (by omega);have hp:=hp1 (by omega);have hq:=hq1 (by omega);have hw:wrap64 (p+1)=p+1:=wrap64_in _ (by omega) (by omega)
  have hd1:wrap64 (((d+1:Nat):Int) - 1)=(d:Int):=by rw[wrap64_in _ (by omega) (by omega)];omega
  have s0:(x1.extract 0 p.toNat).size=p.toNat:=by rw[ByteArray.size_extract];omega
  have s1:(x1.extract p.toNat x1.size).size=x1.size - p.toNat:=by rw[ByteArray.size_extract];omega
  have s4:(x1.extract (p+1).toNat x1.size).size=x1.size - (p+1).toNat:=by rw[ByteArray.size_extract];omega
  have sw:(strOfNums [bt x2 q]).size=1:=strOfNums_size _
  have hgo:∀ (y:ByteArray) (g:Nat->Option (ByteArray × Int × Int)),y.size<=x1.size+1->(∀k,dY.j1 (k+1) x1 x2 ((d+1:Nat):Int) true code at_ seed=dY.l0 k y x2 (d:Int) code a3 s3)->∃r,Ev (λk=>dY.l0 k x1 x2 ((d+1:Nat):Int) code at_ seed) r/\r.1.size<=x1.size+(d+1)/\at_<=r.2.1/\r.2.1<=at_+10 * ((d+1:Nat):Int):=λy _ hy hk=>by
   obtain ⟨r,hr,hl,h1,h3⟩:=ih y a3 s3 (by omega) (by omega) (by omega);refine ⟨r,Ev.step (λk=>by rw[dY.l0,if_pos (by omega),decide_eq_true (show (x1.size:Int)>0 by omega)]) (Ev.step (λk=>hk k) hr),by omega,by omega,by omega⟩
  by_cases z0:z=0
  ·
   refine hgo ((x1.extract 0 p.toNat)++(strOfNums [bt x2 q])++(x1.extract p.toNat x1.size)) (λ_=>none) (by rw[ByteArray.size_append,ByteArray.size_append];omega) λk=>?_
   rw[dY.j1,if_pos rfl,e,Option.bind_some];dsimp only;rw[e2,Option.bind_some];dsimp only;rw[if_pos hq0,if_pos hq,Option.bind_some,e3,Option.bind_some];dsimp only;rw[if_pos z0,if_pos hp0,if_pos (by omega),if_pos (by omega),if_pos (by rw[ByteArray.size_append];omega),hd1]
  by_cases z1:z=1
  ·
   refine hgo ((x1.extract 0 p.toNat)++(strOfNums [bt x2 q])++(x1.extract (p+1).toNat x1.size)) (λ_=>none) (by rw[ByteArray.size_append,ByteArray.size_append];omega) λk=>?_
   rw[dY.j1,if_pos rfl,e,Option.bind_some];dsimp only;rw[e2,Option.bind_some];dsimp only;rw[if_pos hq0,if_pos hq,Option.bind_some,e3,Option.bind_some];dsimp only;rw[if_neg z0,if_pos z1,hw,hd1,if_pos hp0,if_pos (by omega),if_pos (by omega),if_pos (by omega),if_pos (by omega),if_pos (by rw[ByteArray.size_append];omega)]
  ·
   refine hgo ((x1.extract 0 p.toNat)++(x1.extract (p+1).toNat x1.size)) (λ_=>none) (by rw[ByteArray.size_append];omega) λk=>?_
   rw[dY.j1,if_pos rfl,e,Option.bind_some];dsimp only;rw[e2,Option.bind_some];dsimp only;rw[if_pos hq0,if_pos hq,Option.bind_some,e3,Option.bind_some];dsimp only;rw[if_neg z0,if_neg z1,hw,hd1,if_pos hp0,if_pos (by omega),if_pos (by omega),if_pos (by omega),if_pos (by omega)]
theorem spoilt_at{code:List Int}(hc:Bytes code)(at_ seed:Int)(ha:0<=at_/\at_<=600000)(x1 x2:ByteArray)(h1:x1.size<=800000)(h2:1<=x2.size/\x2.size<=1000):∃r,Ev (λk=>dY.f k code at_ seed x1 x2) r/\r.1.size<=x1.size+2/\at_<=r.2.1/\r.2.1<=at_+40:=by
 obtain ⟨x,a,s,e,hx0,hx1,ha0,ha1⟩:=pick_ok hc at_ seed 2 (by omega) (by omega);have hx:=hx1 (by omega);obtain ⟨r,hr,hl,h3,h4⟩:=Js hc x2 h2 (1+x).toNat x1 a s (by omega) (by omega) (by omega);refine ⟨r,?_,by omega,by omega,by omega⟩;unfold dY.f;rw[e];simp only[Option.bind_some];rw[wrap64_in (1+x) (by omega) (by omega)];rw[show (((1+x).toNat:Nat):Int)=1+x by omega]at hr;exact hr
end Go.Proofs.YtjdlhefjgceabaaGreatDoor.Plain
namespace Go.Proofs.YtjdlhefjgceabaaGreatDoor.Hand
open Go.RowKit YtjdlhefjgceabaaGreatDoorW.PrintWords YtjdlhefjgceabaaGreatDoorW.PrintLast YtjdlhefjgceabaaGreatDoorW.PrintMore PAll PDr
set_option maxRecDepth 100000
set_option maxHeartbeats 1000000
def Cu(w0:World)(g:Nat)(code:List Int)(m:Int)(W:World):Prop:=Plain.Bytes code/\(∃at_ seed,aH w0 W g code at_ seed/\0<=at_/\at_<=m)/\Below w0.heap.size w0 W
def kG(w0:World)(g:Nat)(code:List Int)(m:Int)(W W':World):Prop:=Cu w0 g code m W'/\aQ W W' g none
section
variable {w0 W W1:World} {g:Nat} {code:List Int} {m:Int}
theorem Cu.below(h:Cu w0 g code m W)(hb:Below W.heap.size W W1):Cu w0 g code m W1:=by
 obtain ⟨hc,⟨a,s,h1,h2,h3⟩,h4⟩:=h;exact ⟨hc,⟨a,s,h1.below hb,h2,h3⟩,aj h4 hb⟩
theorem Cu.lit(h:Cu w0 g code m W)(o:Obj):Cu w0 g code m (W.alloc o):=h.below (aG (Below.refl _ _) o)
theorem Cu.mono{m':Int}(h:Cu w0 g code m W)(hm:m<=m'):Cu w0 g code m' W:=by
 obtain ⟨hc,⟨a,s,h1,h2,h3⟩,h4⟩:=h;exact ⟨hc,⟨a,s,h1,h2,by omega⟩,h4⟩
theorem Cu.row{b:Nat}{v:Value}{l:List Int}(h:Cu w0 g code m W)(hr:Kd.R (Kd.int .i64) 3 W b (λ_=>True) v l)(hk:aQ W W1 g none):Kd.R (Kd.int .i64) 3 W1 b (λ_=>True) v l:=by
 obtain ⟨hc,⟨a,s,h1,h2,h3⟩,h4⟩:=h;have hne:=h1.own_ne hr (by decide);exact Kd.R_mono (Kd.R_keep (Kd.R_of_own (ok:=λq=>v.ownBlock=some q) (enc:=λn=>Value.int .i64 n) (h1:=λ_=>rfl) (Kd.own_of_R hr) (λ_ h=>h)) hk (λk h e=>hne (by rw[<- e,h]))) (λ_ _=>trivial)
theorem vk{n:Int}(h:Cu w0 g code m W)(hm:m<=900000)(hn:n<=1000000):Calls Tryz.prog 85 #[.pointer (some ⟨g,0,none⟩),.int .i64 n] W λe w'=>∃x,e=.returned (.int .i64 x)/\0<=x/\(1<=n->x<n)/\kG w0 g code (m+2) W w':=by
 obtain ⟨hc,⟨a,s,h1,h2,h3⟩,h4⟩:=h;obtain ⟨x,a2,s2,e,hx0,hx1,ha,hb⟩:=Plain.pick_ok hc a s n ⟨h2,by omega⟩ hn
 exact (cB.calls g code a s n x a2 s2 w0 W h1 h4 e).mono λe w' h=>⟨x,h.1,hx0,hx1,⟨hc,⟨a2,s2,h.2.1,by omega,by omega⟩,h.2.2.1⟩,h.2.2.2⟩
theorem Ho{n:Int}(h:Cu w0 g code m W)(hm:m<=900000)(hn:n<=1000000):Calls Tryz.prog 57 #[.pointer (some ⟨g,0,none⟩),.int .i64 n] W λe w'=>∃x,e=.returned (.bool x)/\kG w0 g code (m+2) W w':=by
 obtain ⟨hc,⟨a,s,h1,h2,h3⟩,h4⟩:=h;obtain ⟨x,a2,s2,e,ha,hb⟩:=Plain.one_ok hc a s n ⟨h2,by omega⟩ hn
 exact (jd.calls g code a s n x a2 s2 w0 W h1 h4 e).mono λe w' h=>⟨x,h.1,⟨hc,⟨a2,s2,h.2.1,by omega,by omega⟩,h.2.2.1⟩,h.2.2.2⟩
theorem E9(W:World)(l:List Int)(hl:l.length<=1000000):Kd.R (Kd.int .i64) 3 (W.alloc (.cells (l.map (Value.int .i64)).toArray 3)) W.heap.size (λ_=>True) (.slice (some ⟨W.heap.size,0,none⟩) l.length l.length) l :=
 Kd.R_of_own ⟨by simp[encs],.inr ⟨W.heap.size,l.length,_,rfl,Nat.le_refl _,bC W _,by simp,by simp only[maxLen];omega,by simp,(by simp[encs];exact List.take_of_length_le (by simp))⟩⟩ (λ_ _=>trivial)
theorem A_(W:World)(l:List ByteArray)(hl:l.length<=1000000):Kd.R Kd.string 9 (W.alloc (.cells (l.map Value.string).toArray 9)) W.heap.size (λ_=>True) (.slice (some ⟨W.heap.size,0,none⟩) l.length l.length) l :=
 Kd.R_of_own ⟨by simp[encs],.inr ⟨W.heap.size,l.length,_,rfl,Nat.le_refl _,bC W _,by simp,by simp only[maxLen];omega,by simp,(by simp[encs];exact List.take_of_length_le (by simp))⟩⟩ (λ_ _=>trivial)
theorem uk(l:List Int)(h:Cu w0 g code m W)(hm:m<=900000)(h0:0<l.length)(hl:l.length<=1000000):Calls Tryz.prog 87 #[.pointer (some ⟨g,0,none⟩),.slice (some ⟨W.heap.size,0,none⟩) l.length l.length] (W.alloc (.cells (l.map (Value.int .i64)).toArray 3)) λe w'=>∃x,e=.returned (.int .i64 x)/\x∈l/\kG w0 g code (m+2) W w':=by
 have hr:=E9 W l hl
 have hg:g<W.heap.size:=by obtain ⟨_,⟨_,_,h1,_⟩,_⟩:=h;exact h1.lt
 obtain ⟨hc,⟨a,s,h1,h2,h3⟩,h4⟩:=h.lit (.cells (l.map (Value.int .i64)).toArray 3);obtain ⟨x,a2,s2,e,hx,ha,hb⟩:=Plain.among_ok hc a s l h0 hl ⟨h2,by omega⟩
 exact (ko.calls g code a s _ _ l x a2 s2 w0 _ h1 h4 (Kd.R_reads' hr).2.2 (Nat.le_refl _) (λad e _=>by cases e;exact Nat.ne_of_gt hg) e).mono λe w' h=>⟨x,h.1,hx,⟨hc,⟨a2,s2,h.2.1,by omega,by omega⟩,h.2.2.1⟩,(aQ.of_below (aG (Below.refl _ _) _) g none).trans h.2.2.2 (.inl rfl)⟩
theorem lg(l:List ByteArray)(h:Cu w0 g code m W)(hm:m<=900000)(h0:0<l.length)(hl:l.length<=1000000):Calls Tryz.prog 88 #[.pointer (some ⟨g,0,none⟩),.slice (some ⟨W.heap.size,0,none⟩) l.length l.length] (W.alloc (.cells (l.map Value.string).toArray 9)) λe w'=>∃x,e=.returned (.string x)/\x∈l/\kG w0 g code (m+2) W w':=by
 have hr:=A_ W l hl
 have hg:g<W.heap.size:=by obtain ⟨_,⟨_,_,h1,_⟩,_⟩:=h;exact h1.lt
 obtain ⟨hc,⟨a,s,h1,h2,h3⟩,h4⟩:=h.lit (.cells (l.map Value.string).toArray 9);obtain ⟨x,a2,s2,e,hx,ha,hb⟩:=Plain.of_ok hc a s l h0 hl ⟨h2,by omega⟩
 exact (oQ.calls g code a s _ _ l x a2 s2 w0 _ h1 h4 (Kd.R_reads' hr).2.2 (Nat.le_refl _) (λad e _=>by cases e;exact Nat.ne_of_gt hg) e).mono λe w' h=>⟨x,h.1,hx,⟨hc,⟨a2,s2,h.2.1,by omega,by omega⟩,h.2.2.1⟩,(aQ.of_below (aG (Below.refl _ _) _) g none).trans h.2.2.2 (.inl rfl)⟩
theorem wX(h:Cu w0 g code m W)(hm:m<=600000):Calls Tryz.prog 83 #[.pointer (some ⟨g,0,none⟩),.int .i64 6] W λe w'=>∃v l,e=.returned v/\Kd.R (Kd.int .i64) 3 w' W.heap.size (λ_=>True) v l/\l.length<=15/\kG w0 g code (m+400) W w':=by
 obtain ⟨hc,⟨a,s,h1,h2,h3⟩,h4⟩:=h;obtain ⟨r,⟨k,hk⟩,hl,ha,hb⟩:=Plain.park_at hc a s ⟨h2,by omega⟩ 6 (by omega)
 exact (fo.calls k g code a s 6 r.1 r.2.1 r.2.2 w0 W h1 h4 (hk k (Nat.le_refl _))).mono λe w' ⟨v,h5,h6,h7,h8,h9⟩=>⟨v,r.1,h5,h6,hl,⟨hc,⟨r.2.1,r.2.2,h7,by omega,by omega⟩,h8⟩,h9⟩
theorem Bb(h:Cu w0 g code m W)(hm:m<=600000):Calls Tryz.prog 90 #[.pointer (some ⟨g,0,none⟩)] W λe w'=>∃v l,e=.returned v/\Kd.R (Kd.int .i64) 3 w' W.heap.size (λ_=>True) v l/\l.length<=15/\kG w0 g code (m+40) W w':=by
 obtain ⟨hc,⟨a,s,h1,h2,h3⟩,h4⟩:=h;obtain ⟨r,⟨k,hk⟩,hl,ha,hb⟩:=Plain.ringed_at hc a s ⟨h2,by omega⟩
 exact (fI.calls k g code a s r.1 r.2.1 r.2.2 w0 W h1 h4 (hk k (Nat.le_refl _))).mono λe w' ⟨v,h5,h6,h7,h8,h9⟩=>⟨v,r.1,h5,h6,by omega,⟨hc,⟨r.2.1,r.2.2,h7,by omega,by omega⟩,h8⟩,h9⟩
end
end Go.Proofs.YtjdlhefjgceabaaGreatDoor.Hand
namespace Go.Proofs.YtjdlhefjgceabaaGreatDoor.Hand
open Go.RowKit YtjdlhefjgceabaaGreatDoorW.PrintWords YtjdlhefjgceabaaGreatDoorW.PrintLast YtjdlhefjgceabaaGreatDoorW.PrintMore PAll
set_option maxRecDepth 100000
set_option maxHeartbeats 40000000
section
variable {w0 W W1 W2:World} {g:Nat} {code:List Int} {m m':Int}
theorem kG.then_(h:kG w0 g code m W W1)(k:kG w0 g code m' W1 W2):kG w0 g code m' W W2:=⟨k.1,h.2.trans k.2 (.inl rfl)⟩
theorem kG.below(h:kG w0 g code m W W1)(hb:Below W1.heap.size W1 W2):kG w0 g code m W W2:=⟨h.1.below hb,h.2.trans (aQ.of_below hb g none) (.inl rfl)⟩
theorem kG.mono(h:kG w0 g code m W W1)(hm:m<=m'):kG w0 g code m' W W1:=⟨h.1.mono hm,h.2⟩
theorem kG.refl(h:Cu w0 g code m W):kG w0 g code m W W:=⟨h,aQ.refl W g none⟩
end
theorem vN(l:List Int)(hl:l.length<=15)(hf:fG l):(fO l).size<=1000:=by
 unfold fO
 split
 · decide
 ·
  have h:=t_ [44] 20 (by decide) ((l.map bL).map (·.data.toList)) (by
   intro x hx;obtain ⟨y,hy,rfl⟩:=List.mem_map.1 hx;obtain ⟨n,hn,rfl⟩:=List.mem_map.1 hy
   exact qF n (hf.2 n hn))
  have e:(kQ l ⟨#[44]⟩).size=(Lib.join ((l.map bL).map (·.data.toList)) [44]).length:=rfl;rw[e];simp only[List.length_map]at h;omega
theorem xq(l:List Int)(A:Option Addr)(c:Nat)(W:World)(h:aM W A c l):Calls Tryz.prog 71 #[.slice A l.length c] W λe w'=>e=.returned (.bool (Plain.parking l))/\Below W.heap.size W w':=by
 obtain ⟨k,hk⟩:=Plain.paParking_ev l;exact iL.calls k A c l _ W h.1 h.2 (hk k (Nat.le_refl _))
theorem CV(l:List Int)(A:Option Addr)(c:Nat)(W:World)(h:aM W A c l):Calls Tryz.prog 91 #[.slice A l.length c] W λe w'=>e=.returned (.bool (Plain.circ l))/\Below W.heap.size W w':=by
 obtain ⟨k,hk⟩:=Plain.cnList_ev l
 exact (jN.calls k A c l _ W h.1 h.2 (hk k (Nat.le_refl _))).mono λe w' h=>⟨h.1,h.2.below⟩
def uS(w0:World)(g:Nat)(code:List Int)(m:Int)(n:Nat)(W:World)(e:Ending)(w':World):Prop:=∃s:ByteArray,e=.returned (.string s)/\s.size<=n/\kG w0 g code m W w'
theorem kV{L:List ByteArray}{x:ByteArray}(hx:x∈L)(h:(L.all λy=>decide (y.size<=20))=true):x.size<=20:=of_decide_eq_true (List.all_eq_true.1 h x hx)
theorem lG{a b:ByteArray}{n k:Nat}(ha:a.size<=n)(hb:b.size<=k):(a++b).size<=n+k:=by rw[ByteArray.size_append];omega
theorem Gv{F:aN}(hS:iK F){w0 w:World}{g:Nat}{code:List Int}{m:Int}(h:Cu w0 g code m w)(hm:m<=500000):Calls Tryz.prog 58 #[.pointer (some ⟨g,0,none⟩)] w (uS w0 g code (m+500) 2000 w):=by
 have HS:=ae.mk hS;have HD:=ae.mk (kG.refl h);clear h hS;go_enter Tryz.func58,Tryz.ntmps58
 go_wp2_with (first
  | (go_at_call 87;go_loud (refine (uk [0,1,2,3,5,7,9,14,21,999,1000] HD.out.1 (by omega) (by decide) (by decide)).mono ?_;rintro e w1 ⟨x0,rfl,hx,hd⟩;replace HD:=ae.mk (HD.out.then_ hd);have HX0:=ae.mk (show 0<=x0/\bJ x0 by simp only[List.mem_cons,List.not_mem_nil,or_false]at hx;unfold bJ;omega);clear hx hd))
  | (go_at_call 86;go_loud (refine (HS.out.num _ _ HX0.out.1 HX0.out.2).mono ?_;rintro e w2 ⟨rfl,hb⟩;replace HD:=ae.mk (HD.out.below hb);have HK0:=ae.mk (pJ _ HX0.out.2);clear hb)))
 obtain ⟨tk,htk⟩:∃s,s=bL x0:=⟨_,rfl⟩
 rw[<- htk]at HK0
 try rw[<- htk]
 go_at_call 85
 refine (vk HD.out.1 (by omega) (by omega)).mono ?_
 rintro e w3 ⟨x,rfl,hx0,hx1,hd⟩;replace HD:=ae.mk (HD.out.then_ hd);replace hx1:=hx1 (by decide)
 have hx:x=0\/x=1\/x=2\/x=3\/x=4\/x=5\/x=6\/x=7\/x=8\/x=9\/x=10\/x=11\/x=12:=by omega
 clear hx0 hx1 hd htk
 rcases hx with rfl|rfl|rfl|rfl|rfl|rfl|rfl|rfl|rfl|rfl|rfl|rfl|rfl
 all_goals go_wp2_with (fail)
 ·
  go_at_call 83;refine (wX HD.out.1 (by omega)).mono ?_;rintro e w4 ⟨v4,l,rfl,hr,hl,hd⟩;obtain ⟨A4,c4,rfl⟩:=Kd.R_slice hr;replace HD:=ae.mk (HD.out.then_ hd);have HR:=ae.mk hr;have HL:=ae.mk hl;clear hr hl hd;go_wp2_with (fail);go_at_call 71;refine (xq l A4 c4 _ ⟨(Kd.R_reads' HR.out).2.2,(Kd.R_reads' HR.out).2.1⟩).mono ?_;rintro e w5 ⟨rfl,hb⟩;replace HD:=ae.mk (HD.out.below hb);replace HR:=ae.mk (Kd.R_below HR.out hb);clear hb;cases hp:Plain.parking l with
  | false=>(clear hp;go_wp2;go_ret;exact ⟨_,rfl,by decide,HD.out.mono (by omega)⟩)
  | true =>
   have HF:=ae.mk (show fG l/\(∀x∈l,0<=x) from ⟨⟨by have:=HL.out;omega,λx hx=>by have:=Plain.parking_in hp x hx;have:=HL.out;unfold bJ;omega⟩,λx hx=>(Plain.parking_in hp x hx).1⟩);clear hp;have HT:=ae.mk (vN l HL.out HF.out.1)
   go_wp2_with (fail)
   go_at_call 88
   refine (lg [⟨#[116,97,107,101,32]⟩,⟨#[116,97,107,101,32]⟩,⟨#[106,111,105,110,32]⟩] HD.out.1 (by omega) (by decide) (by decide)).mono ?_
   rintro e w6 ⟨s6,rfl,hx,hd⟩;replace HR:=ae.mk (HD.out.1.row HR.out hd.2);replace HD:=ae.mk (HD.out.then_ hd);have HZ:=ae.mk (kV hx (by decide));clear hx hd
   go_wp2_with (fail)
   go_at_call 89
   refine (HS.out.text A4 c4 l _ ⟨(Kd.R_reads' HR.out).2.2,(Kd.R_reads' HR.out).2.1⟩ HF.out.1 HF.out.2).mono ?_
   rintro e w7 ⟨rfl,hb⟩;replace HD:=ae.mk (HD.out.below hb);clear hb
   obtain ⟨tx,htx⟩:∃s,s=fO l:=⟨_,rfl⟩
   rw[<- htx]at HT ⊢
   have e0:s6.size+tx.size<=9223372036854775807:=by have:=HT.out;have:=HZ.out;omega
   clear htx;go_wp2;go_ret;exact ⟨_,rfl,Nat.le_trans (lG HZ.out HT.out) (by decide),HD.out.mono (by omega)⟩
 ·
  go_at_call 83;refine (wX HD.out.1 (by omega)).mono ?_;rintro e w4 ⟨v4,l,rfl,hr,hl,hd⟩;obtain ⟨A4,c4,rfl⟩:=Kd.R_slice hr;replace HD:=ae.mk (HD.out.then_ hd);have HR:=ae.mk hr;have HL:=ae.mk hl;clear hr hl hd;go_wp2_with (fail);go_at_call 71;refine (xq l A4 c4 _ ⟨(Kd.R_reads' HR.out).2.2,(Kd.R_reads' HR.out).2.1⟩).mono ?_;rintro e w5 ⟨rfl,hb⟩;replace HD:=ae.mk (HD.out.below hb);replace HR:=ae.mk (Kd.R_below HR.out hb);clear hb;cases hp:Plain.parking l with
  | false=>(clear hp;go_wp2;go_ret;exact ⟨_,rfl,by decide,HD.out.mono (by omega)⟩)
  | true =>
   have HF:=ae.mk (show fG l/\(∀x∈l,0<=x) from ⟨⟨by have:=HL.out;omega,λx hx=>by have:=Plain.parking_in hp x hx;have:=HL.out;unfold bJ;omega⟩,λx hx=>(Plain.parking_in hp x hx).1⟩);clear hp;have HT:=ae.mk (vN l HL.out HF.out.1)
   go_wp2_with (fail)
   go_at_call 88
   refine (lg [⟨#[116,97,107,101,32]⟩,⟨#[116,97,107,101,32]⟩,⟨#[106,111,105,110,32]⟩] HD.out.1 (by omega) (by decide) (by decide)).mono ?_
   rintro e w6 ⟨s6,rfl,hx,hd⟩;replace HR:=ae.mk (HD.out.1.row HR.out hd.2);replace HD:=ae.mk (HD.out.then_ hd);have HZ:=ae.mk (kV hx (by decide));clear hx hd
   go_wp2_with (fail)
   go_at_call 89
   refine (HS.out.text A4 c4 l _ ⟨(Kd.R_reads' HR.out).2.2,(Kd.R_reads' HR.out).2.1⟩ HF.out.1 HF.out.2).mono ?_
   rintro e w7 ⟨rfl,hb⟩;replace HD:=ae.mk (HD.out.below hb);clear hb
   obtain ⟨tx,htx⟩:∃s,s=fO l:=⟨_,rfl⟩
   rw[<- htx]at HT ⊢
   have e0:s6.size+tx.size<=9223372036854775807:=by have:=HT.out;have:=HZ.out;omega
   clear htx;go_wp2;go_ret;exact ⟨_,rfl,Nat.le_trans (lG HZ.out HT.out) (by decide),HD.out.mono (by omega)⟩
 · go_at_call 88;refine (lg [⟨#[110,101,120,116]⟩,⟨#[99,97,114,115]⟩,⟨#[102,97,114]⟩,⟨#[99,117,116,115]⟩,⟨#[114,97,110,107]⟩,⟨#[108,105,115,116]⟩] HD.out.1 (by omega) (by decide) (by decide)).mono ?_;rintro e w4 ⟨s4,rfl,hx,hd⟩;replace HD:=ae.mk (HD.out.then_ hd);have Zs4:=ae.mk (kV hx (by decide));clear hx hd;go_wp2;go_ret;exact ⟨_,rfl,Nat.le_trans Zs4.out (by decide),HD.out.mono (by omega)⟩
 · go_at_call 88;refine (lg [⟨#[110,101,120,116]⟩,⟨#[99,97,114,115]⟩,⟨#[102,97,114]⟩,⟨#[99,117,116,115]⟩,⟨#[114,97,110,107]⟩,⟨#[108,105,115,116]⟩] HD.out.1 (by omega) (by decide) (by decide)).mono ?_;rintro e w4 ⟨s4,rfl,hx,hd⟩;replace HD:=ae.mk (HD.out.then_ hd);have Zs4:=ae.mk (kV hx (by decide));clear hx hd;go_wp2;go_ret;exact ⟨_,rfl,Nat.le_trans Zs4.out (by decide),HD.out.mono (by omega)⟩
 · go_at_call 85;refine (vk HD.out.1 (by omega) (by omega)).mono ?_;rintro e w5 ⟨x5,rfl,h5,h6,hd⟩;replace HD:=ae.mk (HD.out.then_ hd);have HX5:=ae.mk (show 0<=x5/\bJ x5 by have:=h6 (by decide);unfold bJ;omega);clear h5 h6 hd;go_wp2_with (fail);go_at_call 86;refine (HS.out.num _ _ HX5.out.1 HX5.out.2).mono ?_;rintro e w6 ⟨rfl,hb⟩;replace HD:=ae.mk (HD.out.below hb);have Zs6:=ae.mk (pJ _ HX5.out.2);clear hb;obtain ⟨s6,hs6⟩:∃s,s=bL x5:=⟨_,rfl⟩;rw[<- hs6]at Zs6 ⊢;clear hs6;have e0:3+s6.size<=9223372036854775807:=(by have:=Zs6.out;omega);have e1:((⟨#[97,116,32]⟩:ByteArray)++s6).size+1<=9223372036854775807:=(by have:=Zs6.out;rw[ByteArray.size_append];have:(⟨#[97,116,32]⟩:ByteArray).size=3:=rfl;omega);have e2:3+s6.size+1<=9223372036854775807:=(by have:=Zs6.out;omega);go_wp2_with (fail);go_at_call 87;refine (uk [0,1,5,17,124,4782968,100000] HD.out.1 (by omega) (by decide) (by decide)).mono ?_;rintro e w7 ⟨x7,rfl,hx,hd⟩;replace HD:=ae.mk (HD.out.then_ hd);have HX7:=ae.mk (show 0<=x7/\bJ x7 by simp only[List.mem_cons,List.not_mem_nil,or_false]at hx;unfold bJ;omega);clear hx hd;go_wp2_with (fail);go_at_call 86;refine (HS.out.num _ _ HX7.out.1 HX7.out.2).mono ?_;rintro e w8 ⟨rfl,hb⟩;replace HD:=ae.mk (HD.out.below hb);have Zs8:=ae.mk (pJ _ HX7.out.2);clear hb;obtain ⟨s8,hs8⟩:∃s,s=bL x7:=⟨_,rfl⟩;rw[<- hs8]at Zs8 ⊢;clear hs8;have ZZ:=ae.mk (lG (lG (show (⟨#[97,116,32]⟩:ByteArray).size<=3 by decide) Zs6.out) (show (⟨#[32]⟩:ByteArray).size<=1 by decide));have e3:(((⟨#[97,116,32]⟩:ByteArray)++s6)++(⟨#[32]⟩:ByteArray)).size+s8.size<=9223372036854775807:=(by have:=ZZ.out;have:=Zs8.out;omega);have e4:3+s6.size+1+s8.size<=9223372036854775807:=(by have:=Zs6.out;have:=Zs8.out;omega);go_wp2;go_ret;exact ⟨_,rfl,Nat.le_trans (lG ZZ.out Zs8.out) (by decide),HD.out.mono (by omega)⟩
 · go_at_call 88;refine (lg [⟨#[99,111,117,110,116,32]⟩,⟨#[98,97,99,107,32]⟩,⟨#[110,101,119,32]⟩] HD.out.1 (by omega) (by decide) (by decide)).mono ?_;rintro e w4 ⟨s4,rfl,hx,hd⟩;replace HD:=ae.mk (HD.out.then_ hd);have Zs4:=ae.mk (kV hx (by decide));clear hx hd;go_wp2_with (fail);go_at_call 85;refine (vk HD.out.1 (by omega) (by omega)).mono ?_;rintro e w5 ⟨x5,rfl,h5,h6,hd⟩;replace HD:=ae.mk (HD.out.then_ hd);have HX5:=ae.mk (show 0<=x5/\bJ x5 by have:=h6 (by decide);unfold bJ;omega);clear h5 h6 hd;go_wp2_with (fail);go_at_call 86;refine (HS.out.num _ _ HX5.out.1 HX5.out.2).mono ?_;rintro e w6 ⟨rfl,hb⟩;replace HD:=ae.mk (HD.out.below hb);have Zs6:=ae.mk (pJ _ HX5.out.2);clear hb;obtain ⟨s6,hs6⟩:∃s,s=bL x5:=⟨_,rfl⟩;rw[<- hs6]at Zs6 ⊢;clear hs6;have e0:s4.size+s6.size<=9223372036854775807:=(by have:=Zs6.out;have:=Zs4.out;omega);go_wp2;go_ret;exact ⟨_,rfl,Nat.le_trans (lG Zs4.out Zs6.out) (by decide),HD.out.mono (by omega)⟩
 ·
  go_at_call 90;refine (Bb HD.out.1 (by omega)).mono ?_;rintro e w4 ⟨v4,l,rfl,hr,hl,hd⟩;obtain ⟨A4,c4,rfl⟩:=Kd.R_slice hr;replace HD:=ae.mk (HD.out.then_ hd);have HR:=ae.mk hr;have HL:=ae.mk hl;clear hr hl hd;go_wp2_with (fail);go_at_call 91;refine (CV l A4 c4 _ ⟨(Kd.R_reads' HR.out).2.2,(Kd.R_reads' HR.out).2.1⟩).mono ?_;rintro e w5 ⟨rfl,hb⟩;replace HD:=ae.mk (HD.out.below hb);replace HR:=ae.mk (Kd.R_below HR.out hb);clear hb;cases hp:Plain.circ l with
  | false=>(clear hp;go_wp2;go_ret;exact ⟨_,rfl,by decide,HD.out.mono (by omega)⟩)
  | true =>
   have HF:=ae.mk (show fG l/\(∀x∈l,0<=x) from ⟨⟨by have:=HL.out;omega,λx hx=>by have:=(Plain.circ_in hp).2 x hx;have:=HL.out;unfold bJ;omega⟩,λx hx=>((Plain.circ_in hp).2 x hx).1⟩);clear hp;have HT:=ae.mk (vN l HL.out HF.out.1)
   go_wp2_with (fail)
   go_at_call 89
   refine (HS.out.text A4 c4 l _ ⟨(Kd.R_reads' HR.out).2.2,(Kd.R_reads' HR.out).2.1⟩ HF.out.1 HF.out.2).mono ?_
   rintro e w7 ⟨rfl,hb⟩;replace HD:=ae.mk (HD.out.below hb);clear hb
   obtain ⟨tx,htx⟩:∃s,s=fO l:=⟨_,rfl⟩
   rw[<- htx]at HT ⊢
   have e0:6+tx.size<=9223372036854775807:=by have:=HT.out;omega
   clear htx;go_wp2;go_ret;exact ⟨_,rfl,Nat.le_trans (lG (show (⟨#[99,108,97,115,115,32]⟩:ByteArray).size<=6 by decide) HT.out) (by decide),HD.out.mono (by omega)⟩
 · go_at_call 88;refine (lg [⟨#[112,117,116,32]⟩,⟨#[112,117,116,32]⟩,⟨#[112,117,116,32]⟩,⟨#[100,114,111,112,32]⟩,⟨#[102,105,110,100,32]⟩] HD.out.1 (by omega) (by decide) (by decide)).mono ?_;rintro e w4 ⟨s4,rfl,hx,hd⟩;replace HD:=ae.mk (HD.out.then_ hd);have Zs4:=ae.mk (kV hx (by decide));clear hx hd;have e0:s4.size+tk.size<=9223372036854775807:=(by have:=HK0.out;have:=Zs4.out;omega);go_wp2;go_ret;exact ⟨_,rfl,Nat.le_trans (lG Zs4.out HK0.out) (by decide),HD.out.mono (by omega)⟩
 · go_at_call 88;refine (lg [⟨#[112,117,116,32]⟩,⟨#[112,117,116,32]⟩,⟨#[112,117,116,32]⟩,⟨#[100,114,111,112,32]⟩,⟨#[102,105,110,100,32]⟩] HD.out.1 (by omega) (by decide) (by decide)).mono ?_;rintro e w4 ⟨s4,rfl,hx,hd⟩;replace HD:=ae.mk (HD.out.then_ hd);have Zs4:=ae.mk (kV hx (by decide));clear hx hd;have e0:s4.size+tk.size<=9223372036854775807:=(by have:=HK0.out;have:=Zs4.out;omega);go_wp2;go_ret;exact ⟨_,rfl,Nat.le_trans (lG Zs4.out HK0.out) (by decide),HD.out.mono (by omega)⟩
 · go_at_call 88;refine (lg [⟨#[112,117,116,32]⟩,⟨#[112,117,116,32]⟩,⟨#[112,117,116,32]⟩,⟨#[100,114,111,112,32]⟩,⟨#[102,105,110,100,32]⟩] HD.out.1 (by omega) (by decide) (by decide)).mono ?_;rintro e w4 ⟨s4,rfl,hx,hd⟩;replace HD:=ae.mk (HD.out.then_ hd);have Zs4:=ae.mk (kV hx (by decide));clear hx hd;have e0:s4.size+tk.size<=9223372036854775807:=(by have:=HK0.out;have:=Zs4.out;omega);go_wp2;go_ret;exact ⟨_,rfl,Nat.le_trans (lG Zs4.out HK0.out) (by decide),HD.out.mono (by omega)⟩
 · go_at_call 88;refine (lg [⟨#[116,97,98,108,101]⟩,⟨#[99,111,115,116]⟩,⟨#[116,97,98,108,101]⟩] HD.out.1 (by omega) (by decide) (by decide)).mono ?_;rintro e w4 ⟨s4,rfl,hx,hd⟩;replace HD:=ae.mk (HD.out.then_ hd);have Zs4:=ae.mk (kV hx (by decide));clear hx hd;go_wp2;go_ret;exact ⟨_,rfl,Nat.le_trans Zs4.out (by decide),HD.out.mono (by omega)⟩
 · go_at_call 88;refine (lg [⟨#[116,97,98,108,101]⟩,⟨#[99,111,115,116]⟩,⟨#[116,97,98,108,101]⟩] HD.out.1 (by omega) (by decide) (by decide)).mono ?_;rintro e w4 ⟨s4,rfl,hx,hd⟩;replace HD:=ae.mk (HD.out.then_ hd);have Zs4:=ae.mk (kV hx (by decide));clear hx hd;go_wp2;go_ret;exact ⟨_,rfl,Nat.le_trans Zs4.out (by decide),HD.out.mono (by omega)⟩
 · go_at_call 88;refine (lg [⟨#[102,108,121]⟩,⟨#[]⟩,⟨#[108,105,115,116,32]⟩,⟨#[116,97,107,101,32,45]⟩,⟨#[116,97,107,101,32,49]⟩,⟨#[116,97,107,101,32,48,44,44,48]⟩,⟨#[116,97,107,101,32,48,44,120]⟩,⟨#[112,117,116]⟩,⟨#[112,117,116,32,48,49]⟩,⟨#[100,114,111,112,32,55,55]⟩,⟨#[97,116,32,51]⟩,⟨#[97,116,32,51,32,49,54]⟩,⟨#[99,108,97,115,115,32,57]⟩,⟨#[110,101,119,32,49]⟩,⟨#[110,101,119,32,49,51]⟩,⟨#[99,111,117,110,116,32,57]⟩] HD.out.1 (by omega) (by decide) (by decide)).mono ?_;rintro e w4 ⟨s4,rfl,hx,hd⟩;replace HD:=ae.mk (HD.out.then_ hd);have Zs4:=ae.mk (kV hx (by decide));clear hx hd;go_wp2;go_ret;exact ⟨_,rfl,Nat.le_trans Zs4.out (by decide),HD.out.mono (by omega)⟩
open PDr
set_option maxHeartbeats 4000000
theorem Ez{w0 W:World}{g:Nat}{code:List Int}{m:Int}(h:Cu w0 g code m W)(hm:m<=600000)(a b:ByteArray)(ha:a.size<=300000)(hb:1<=b.size/\b.size<=1000):Calls Tryz.prog 105 #[.pointer (some ⟨g,0,none⟩),.string a,.string b] W (uS w0 g code (m+40) (a.size+2) W):=by
 obtain ⟨hc,⟨p,s,h1,h2,h3⟩,h4⟩:=h;obtain ⟨r,⟨k,hk⟩,hl,h5,h6⟩:=Plain.spoilt_at hc p s ⟨h2,by omega⟩ a b (by omega) hb
 exact (dY.calls k g code p s a b r.1 r.2.1 r.2.2 w0 W h1 h4 (hk k (Nat.le_refl _))).mono λe w' h=>⟨r.1,h.1,hl,⟨hc,⟨r.2.1,r.2.2,h.2.1,by omega,by omega⟩,h.2.2.1⟩,h.2.2.2⟩
theorem Cr{F:aN}(hS:iK F){w0 w:World}{g:Nat}{code:List Int}{m:Int}(h:Cu w0 g code m w)(hm:m<=100000):Calls Tryz.prog 65 #[.pointer (some ⟨g,0,none⟩)] w (uS w0 g code (m+30000) 200000 w):=by
 have HS:=ae.mk hS;have HD:=ae.mk (kG.refl h);clear h hS;go_enter Tryz.func65,Tryz.ntmps65
 go_wp2_with (go_at_call 87;go_loud (refine (uk [0,1,5,10,20,50,51] HD.out.1 (by omega) (by decide) (by decide)).mono ?_;rintro e w1 ⟨x0,rfl,hx,hd⟩;replace HD:=ae.mk (HD.out.then_ hd);have HX0:=ae.mk (show 0<=x0/\x0<=51 by simp only[List.mem_cons,List.not_mem_nil,or_false]at hx;omega);clear hx hd))
 go_loopg [3,4] x0.toNat (λkq v3 v4 w'=>∃ (s:ByteArray) (n:Int),v3=.string s/\v4=.int .i64 n/\ae (n=(kq:Int))/\ae (s.size+2001 * kq<=102051)/\ae (kq<=51)/\ae (kG w0 g code (m+2+500 * (51 - (kq:Int))) w w'))
 case atStart=>exact ⟨⟨#[]⟩,x0,rfl,rfl,⟨by have:=HX0.out;omega⟩,⟨by have:=HX0.out;show 0+2001 * x0.toNat<=102051;omega⟩,⟨by have:=HX0.out;omega⟩,⟨HD.out.mono (by have:=HX0.out;omega)⟩⟩
 case round =>
  clear HD;obtain ⟨s,n,rfl,rfl,HN,HZ,HK,HD⟩:=hrel
  cases gk with
  | zero =>
   have q1:decide (n>0)=false:=decide_eq_false (by have:=HN.out;omega)
   have e0:s.size+5<=9223372036854775807:=by have:=HZ.out;omega
   have HA:=ae.mk (show (s++(⟨#[116,97,98,108,101]⟩:ByteArray)).size<=150000 by have:=HZ.out;rw[ByteArray.size_append];have:(⟨#[116,97,98,108,101]⟩:ByteArray).size=5:=rfl;omega)
   go_wp2_with (fail)
   go_at_call 57
   refine (Ho HD.out.1 (by omega) (by omega)).mono ?_
   rintro e w4 ⟨b,rfl,hd⟩;replace HD:=ae.mk (HD.out.then_ hd);clear hd
   cases b with
   | false =>
    go_wp2;go_ret;exact ⟨_,rfl,by have:=HZ.out;omega,HD.out.mono (by omega)⟩
   | true =>
    obtain ⟨y,hy⟩:∃y,y=s++(⟨#[116,97,98,108,101]⟩:ByteArray):=⟨_,rfl⟩
    rw[<- hy]at HA;have HY:=ae.mk hy;clear hy
    go_wp2_with (go_at_call 105;go_loud (rw[<- HY.out];refine (Ez HD.out.1 (by omega) y ⟨#[48,49,50,51,44,32,45,97,98,120,10]⟩ (by have:=HA.out;omega) (by decide)).mono ?_;rintro e w5 ⟨z,rfl,hz,hd⟩;replace HD:=ae.mk (HD.out.then_ hd);have HZ2:=ae.mk hz;clear hz hd))
    go_ret;exact ⟨_,rfl,by have:=HZ2.out;have:=HA.out;omega,HD.out.mono (by omega)⟩
  | succ d =>
   have q1:decide (n>0)=true:=decide_eq_true (by have:=HN.out;omega);have HNN:=ae.mk (show wrap64 (n - 1)=(d:Int) by have:=HN.out;have:=HK.out;rw[wrap64_in _ (by omega) (by omega)];omega)
   go_wp2_with (fail)
   go_at_call 58
   refine (Gv HS.out HD.out.1 (by have:=HK.out;omega)).mono ?_
   rintro e w4 ⟨z,rfl,hz,hd⟩;replace HD:=ae.mk (HD.out.then_ hd)
   have e0:z.size+1<=9223372036854775807:=by omega
   have HC:=ae.mk (show s.size+(z++(⟨#[10]⟩:ByteArray)).size<=102051 - 2001 * d by have:=HZ.out;rw[ByteArray.size_append];have:(⟨#[10]⟩:ByteArray).size=1:=rfl;omega)
   have e1:s.size+(z++(⟨#[10]⟩:ByteArray)).size<=9223372036854775807:=by have:=HC.out;omega
   have e2:s.size+(z.size+1)<=9223372036854775807:=by have:=HZ.out;omega
   clear hz hd;go_wp2
   go_roundg d
   case measure=>omega
   case rel=>exact ⟨_,_,rfl,rfl,HNN,⟨by rw[ByteArray.size_append];have:=HC.out;have:=HZ.out;omega⟩,⟨by have:=HK.out;omega⟩,⟨HD.out.mono (by omega)⟩⟩
theorem Fp{F:aN}(hS:iK F)(code:List Int)(A:Option Addr)(c:Nat)(w:World)(hc:Plain.Bytes code)(hr:Kd.C (Kd.int .u8) w A code.length code):Calls Tryz.prog 35 #[.slice A code.length c] w λe w'=>∃s:ByteArray,e=.returned (.string s)/\s.size<=200000/\Below w.heap.size w w':=by
 have hu:=Tryz.underlying76;have HC:=ae.mk (Cr hS (w0:=w) (g:=w.heap.size) (code:=code) (m:=0) (w:=w.alloc (.cells #[.slice A code.length c,.int .i64 0,.int .u64 0] 76)) ⟨hc,⟨0,0,aH.new w w A c code 0 0 (Below.refl _ _) hr,by decide,by decide⟩,aG (Below.refl _ _) _⟩ (by decide));clear hS hc hr;go_enter Tryz.func35,Tryz.ntmps35
 go_wp2_with (go_at_call 65;go_loud (refine HC.out.mono ?_;rintro e w1 ⟨s,rfl,hs,hd⟩;have HZ:=ae.mk hs;have HB:=ae.mk hd.1.2.2;clear hs hd))
 go_ret;exact ⟨_,rfl,HZ.out,HB.out⟩
end Go.Proofs.YtjdlhefjgceabaaGreatDoor.Hand

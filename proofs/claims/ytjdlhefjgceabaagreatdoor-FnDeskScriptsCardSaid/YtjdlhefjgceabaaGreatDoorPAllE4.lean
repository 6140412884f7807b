import Derived.Test.YtjdlhefjgceabaaGreatDoorPAllC4
set_option linter.unusedVariables false
set_option linter.unusedSimpArgs false
namespace Go.Proofs.YtjdlhefjgceabaaGreatDoor.PAll
open Go.RowKit Hand YtjdlhefjgceabaaGreatDoorW.PrintWords YtjdlhefjgceabaaGreatDoorW.PrintLast YtjdlhefjgceabaaGreatDoorW.PrintMore
attribute [local go_sem] l8 mF lZ mo mr mK nI mQ
set_option maxHeartbeats 8000000
set_option maxRecDepth 100000
def kT.f(l0:List Int)(l1:List Int):Option (Bool):=if (l0.length:Int)>1048576 then (some true)else (some (decide ((l1.length:Int)>(wrap64 (1048576 - (l0.length:Int))))))
theorem kT.calls(A0:Option Addr)(c0:Nat)(l0:List Int)(A1:Option Addr)(c1:Nat)(l1:List Int)(r:Bool)(w:World)(hr0:Kd.C (Kd.int .u8) w A0 l0.length l0)(hc0:l0.length<=c0)(hr1:Kd.C (Kd.int .u8) w A1 l1.length l1)(hc1:l1.length<=c1)(h:kT.f l0 l1=some r) :
  Calls Tryz.prog 28 #[.slice A0 l0.length c0,.slice A1 l1.length c1] w λe w'=>e=.returned (.bool r)/\bg w w':=by
 have HR0:=aa hr0;have HC0:=aa hc0;clear hr0 hc0;have HR1:=aa hr1;have HC1:=aa hc1;clear hr1 hc1;unfold kT.f at h;have H:=h;clear h
 by_cases c3:(l0.length:Int)>1048576
 ·
  rw[if_pos c3]at H;have c3b0:=decide_eq_true c3;have c3b1:decide (1048576<l0.length)=true:=decide_eq_true (by omega);clear c3;obtain rfl:=Option.some.inj H;go_enter Tryz.func28,Tryz.ntmps28;go_wp2;go_ret;exact ⟨ag,aZ⟩
 rw[if_neg c3]at H;have c3b0:=decide_eq_false c3;have c3b1:decide (1048576<l0.length)=false:=decide_eq_false (by omega);clear c3;obtain rfl:=Option.some.inj H;go_enter Tryz.func28,Tryz.ntmps28;go_wp2;go_ret;exact ⟨ag,aZ⟩
def kT.Pure:Prop:=∀ (l0:List Int) (l1:List Int),l0.length<=maxLen->l0.length * 1<=140737488351232->(∀x∈l0,(Lit.int .u8 x).wf=true)->l1.length<=maxLen->l1.length * 1<=140737488351232->(∀x∈l1,(Lit.int .u8 x).wf=true)->kT.f l0 l1=some true
theorem kT.walk(P:kT.Pure)(a0:Option Addr)(len0 cap0:Nat)(z0:List Int)(a1:Option Addr)(len1 cap1:Nat)(z1:List Int)(w:World)(w0:(a0=none/\len0=0/\cap0=0/\z0=[])\/∃x,a0=some x/\len0<=cap0/\cap0<=maxLen/\z0.length=cap0/\(∀i,i<z0.length->w.cell? (x.add i)=some (.int .u8 (z0.getD i 0)))/\∀n∈z0,(Lit.int .u8 n).wf=true)(y0:len0 * 1<=140737488351232)(w1:(a1=none/\len1=0/\cap1=0/\z1=[])\/∃x,a1=some x/\len1<=cap1/\cap1<=maxLen/\z1.length=cap1/\(∀i,i<z1.length->w.cell? (x.add i)=some (.int .u8 (z1.getD i 0)))/\∀n∈z1,(Lit.int .u8 n).wf=true)(y1:len1 * 1<=140737488351232) :
  Calls Tryz.prog 28 #[.slice a0 len0 cap0,.slice a1 len1 cap1] w λe w'=>e=.returned (.bool true)/\Below w.heap.size w w':=by
 obtain ⟨l0,rfl,hr0,hm0,hw0,hc0⟩:=jW.ofRowC w0;obtain ⟨l1,rfl,hr1,hm1,hw1,hc1⟩:=jW.ofRowC w1;have h:=P l0 l1 hm0 y0 hw0 hm1 y1 hw1;refine (kT.calls _ _ l0 _ _ l1 true w (Kd.C_of_reads (d:=(0:Int)) (h1:=λ_=>rfl) hr0) hc0 (Kd.C_of_reads (d:=(0:Int)) (h1:=λ_=>rfl) hr1) hc1 h).mono ?_;rintro e w' ⟨rfl,hd⟩;exact ⟨rfl,hd.below⟩
mutual
def iy.j0:Nat->List Int->Bool->Option (Bool)
 | 0,_,_=>none
 | k+1,x1,x20=>if x20=true then (some false)else (iy.l0 k x1 x1 (x1.length:Int) 0)
def iy.l0:Nat->List Int->List Int->Int->Int->Option (Bool)
 | 0,_,_,_,_=>none
 | k+1,x1,x21,x22,x23=>if x23<x22 then (if 0<=x23 then (if x23<(x21.length:Int)then (if x23<=(x1.length:Int)then ((bD.f k (x1.take (x23:Int).toNat) (rd x21 x23)).bind λt677=>(if t677=true then (some false)else (iy.l0 k x1 x21 x22 (wrap64 (x23+1)))))else (none))else (none))else (none))else (some true)
end
def iy.f(k:Nat)(a0:Int)(l1:List Int):Option (Bool):=(kY.f a0).bind λt673=>(if t673=true then (if (l1.length:Int) >= a0 then (iy.j0 k l1 true)else ((fC.f k l1 0 999).bind λt674=>(iy.j0 k l1 (!t674))))else (iy.j0 k l1 true))
theorem iy.calls(k:Nat)(a0:Int)(A1:Option Addr)(c1:Nat)(l1:List Int)(r:Bool)(w:World)(hr1:Kd.C (Kd.int .i64) w A1 l1.length l1)(hc1:l1.length<=c1)(h:iy.f k a0 l1=some r) :
  Calls Tryz.prog 160 #[.int .i64 a0,.slice A1 l1.length c1] w λe w'=>e=.returned (.bool r)/\bg w w':=by
 have HR1:=aa hr1;have HC1:=aa hc1;clear hr1 hc1;unfold iy.f at h;have H:=h;clear h;have HC3:=aa H;clear H;go_enter Tryz.func160,Tryz.ntmps160
 go_upto_region 1 with (fail)
 go_cut [20] (λv20 wc=>∃ (kq:Nat) (x20_2:Bool),v20=.bool x20_2/\ae (iy.j0 kq l1 x20_2=some r)/\ae (kq<=k)/\bg w wc)
 case first =>
  have H:=HC3.out;clear HC3;obtain ⟨t673,A4,H⟩:=aA H;revert H;refine bA (λc5 H=>?_) λc5 H=>?_
  ·
   subst c5;revert H;refine bi (λc6b0 H=>?_) λc6b0 H=>?_
   ·
    (first|rw[c6b0]|(simp only[cO,eB];rw[c6b0])|skip)
    have H':=aa H;clear H;go_wp2_with (first|((with_reducible refine av 182 ?_);refine ax 8 Tryz.func182 #[.int .i64 a0] ?_;(with_reducible refine (kY.calls a0 true _ A4.out).mono ?_);rintro e w' ⟨rfl,⟨nd,rfl⟩⟩;refine ⟨_,rfl,?_⟩));go_meet
    case rel=>exact ⟨_,(true),ag,H',⟨dF⟩,aZ⟩
   (first|rw[c6b0]|(simp only[cO,eB];rw[c6b0])|skip)
   obtain ⟨t674,A7,H⟩:=aA H;have H':=aa H;clear H;go_wp2_with (first|((with_reducible refine av 182 ?_);refine ax 8 Tryz.func182 #[.int .i64 a0] ?_;(with_reducible refine (kY.calls a0 true _ A4.out).mono ?_);rintro e w' ⟨rfl,⟨nd,rfl⟩⟩;refine ⟨_,rfl,?_⟩)|(go_at_call 110;(with_reducible refine (fC.calls k _ _ l1 0 999 t674 _ ?s1 ?s2 A7.out).mono ?_);(case s1=>exact dU HR1.out);(case s2=>exact HC1.out);rintro e w' ⟨rfl,⟨nd,rfl⟩⟩));go_meet
   case rel=>exact ⟨_,(!t674),ag,H',⟨dF⟩,aZ⟩
  subst c5;have H':=aa H;clear H;go_wp2_with (first|((with_reducible refine av 182 ?_);refine ax 8 Tryz.func182 #[.int .i64 a0] ?_;(with_reducible refine (kY.calls a0 false _ A4.out).mono ?_);rintro e w' ⟨rfl,⟨nd,rfl⟩⟩;refine ⟨_,rfl,?_⟩));go_meet
  case rel=>exact ⟨_,(true),ag,H',⟨dF⟩,aZ⟩
 case rest =>
  clear HC3;obtain ⟨kq,x20_2,rfl,HA,HJ2,⟨mc2,rfl⟩⟩:=hcut;cases kq with
  | zero=>exact ak HA.out
  | succ kj2 =>
   have H:=HA.out;clear HA;simp only[iy.j0]at H;revert H;refine bA (λc8 H=>?_) λc8 H=>?_
   ·
    subst c8;obtain rfl:=Option.some.inj H;go_wp2;go_ret;exact ⟨ag,aZ⟩
   subst c8;have H':=aa H;clear H;go_wp2
   go_loopg [23] kj2 (λkq v23 w'=>∃ (x23_2:Int),v23=.int .i64 x23_2/\ae (iy.l0 kq l1 l1 (l1.length:Int) x23_2=some r)/\ae (kq<=kj2)/\bg w w')
   case atStart=>exact ⟨(0),ag,H',⟨Nat.le_refl _⟩,aZ⟩
   case round =>
    clear H';obtain ⟨x23_2,rfl,HA,HK2,⟨m2,rfl⟩⟩:=hrel;cases gk with
    | zero=>exact ak HA.out
    | succ k2 =>
     have H:=HA.out;clear HA;simp only[iy.l0]at H;revert H;refine bi (λc9b0 H=>?_) λc9b0 H=>?_
     ·
      revert H;refine aX λc10b0 H=>?_;revert H;refine aX λc11b0 H=>?_;have c12b0:=eq_true (of_decide_eq_true aD:0<=x23_2);revert H;refine dI λc13b0 c13b1 H=>?_;obtain ⟨t677,A14,H⟩:=aA H;revert H;refine bA (λc15 H=>?_) λc15 H=>?_
      ·
       subst c15;obtain rfl:=Option.some.inj H;obtain ⟨ad675,rfl,hx675_0,p675,q675⟩:=bW HR1.out x23_2;obtain ⟨i016,hi016,_,hsz16,_⟩:=info_parts info3;obtain ⟨hcut16,hA16,hC16⟩:=mE (P:=Tryz.prog) (Value.int .i64) 0 22 3 .i64 Tryz.underlying22 hi016 hsz16 (some ad675) c1 l1 x23_2 (of_decide_eq_true aD) (of_decide_eq_true aD) HC1.out;have HR676:=aa (Kd.C_of_reads (h1:=λ_=>rfl) (hA16 _ (Kd.reads_of_C HR1.out)));have HC676:=aa hC16;clear hA16 hC16 hi016 hsz16;go_wp2_with (first|((with_reducible refine av 113 ?_);refine oL (some 32) rfl rfl Tryz.func113 (by kernel_rfl) rfl #[.slice (some ad675) (l1.take (x23_2:Int).toNat).length c1,.int .i64 (rd l1 x23_2)] rfl wG ?_;(with_reducible refine (bD.calls k2 _ _ (l1.take (x23_2:Int).toNat) (rd l1 x23_2) true _ ?s1 ?s2 A14.out).mono ?_);(case s1=>exact dU HR676.out);(case s2=>exact HC676.out);rintro e w' ⟨rfl,⟨nd,rfl⟩⟩;refine ⟨_,rfl,?_⟩));go_ret;exact ⟨ag,aZ⟩
      subst c15;have H':=aa H;clear H;obtain ⟨ad675,rfl,hx675_0,p675,q675⟩:=bW HR1.out x23_2;obtain ⟨i017,hi017,_,hsz17,_⟩:=info_parts info3;obtain ⟨hcut17,hA17,hC17⟩:=mE (P:=Tryz.prog) (Value.int .i64) 0 22 3 .i64 Tryz.underlying22 hi017 hsz17 (some ad675) c1 l1 x23_2 (of_decide_eq_true aD) (of_decide_eq_true aD) HC1.out;have HR676:=aa (Kd.C_of_reads (h1:=λ_=>rfl) (hA17 _ (Kd.reads_of_C HR1.out)));have HC676:=aa hC17;clear hA17 hC17 hi017 hsz17;go_wp2_with (first|((with_reducible refine av 113 ?_);refine oL (some 32) rfl rfl Tryz.func113 (by kernel_rfl) rfl #[.slice (some ad675) (l1.take (x23_2:Int).toNat).length c1,.int .i64 (rd l1 x23_2)] rfl wG ?_;(with_reducible refine (bD.calls k2 _ _ (l1.take (x23_2:Int).toNat) (rd l1 x23_2) false _ ?s1 ?s2 A14.out).mono ?_);(case s1=>exact dU HR676.out);(case s2=>exact HC676.out);rintro e w' ⟨rfl,⟨nd,rfl⟩⟩;refine ⟨_,rfl,?_⟩));go_roundg k2
      case measure=>have:=HJ2.out;have:=HK2.out;omega
      case rel=>exact ⟨(wrap64 (x23_2+1)),ag,H',⟨dR HJ2.out HK2.out⟩,aZ⟩
     obtain rfl:=Option.some.inj H;go_wp2;go_ret;exact ⟨ag,aZ⟩
def iy.Pure:Prop:=∀ (a0:Int) (l1:List Int),(Lit.int .i64 a0).wf=true->l1.length<=maxLen->l1.length * 8<=140737488351232->(∀x∈l1,(Lit.int .i64 x).wf=true)->∃k,iy.f k a0 l1=some true
theorem iy.walk(P:iy.Pure)(a0:Int)(a1:Option Addr)(len1 cap1:Nat)(z1:List Int)(w:World)(w0:(Lit.int .i64 a0).wf=true)(w1:(a1=none/\len1=0/\cap1=0/\z1=[])\/∃x,a1=some x/\len1<=cap1/\cap1<=maxLen/\z1.length=cap1/\(∀i,i<z1.length->w.cell? (x.add i)=some (.int .i64 (z1.getD i 0)))/\∀n∈z1,(Lit.int .i64 n).wf=true)(y1:len1 * 8<=140737488351232) :
  Calls Tryz.prog 160 #[.int .i64 a0,.slice a1 len1 cap1] w λe w'=>e=.returned (.bool true)/\Below w.heap.size w w':=by
 obtain ⟨l1,rfl,hr1,hm1,hw1,hc1⟩:=jW.ofRowC w1;obtain ⟨k,h⟩:=P a0 l1 w0 hm1 y1 hw1;refine (iy.calls k a0 _ _ l1 true w (Kd.C_of_reads (d:=(0:Int)) (h1:=λ_=>rfl) hr1) hc1 h).mono ?_;rintro e w' ⟨rfl,hd⟩;exact ⟨rfl,hd.below⟩
def vF.l0:Nat->List Int->Int->Int->List Int->Option (List Int)
 | 0,_,_,_,_=>none
 | k+1,x10,x11,x12,x683000=>if x12<x11 then (if 0<=x12 then (if x12<(x10.length:Int)then ((iZ.f k x683000 (rd x10 x12)).bind λbt684=>(vF.l0 k x10 x11 (wrap64 (x12+1)) bt684.2))else (none))else (none))else (some x683000)
def vF.f(k:Nat)(a0:Int)(l1:List Int):Option (List Int):=(fK.f k a0).bind λt679=>(vF.l0 k l1 (l1.length:Int) 0 t679)
def qK.l0:Nat->List Int->List Int->Int->Option (List Int)
 | 0,_,_,_=>none
 | k+1,x0,x3,x4=>if x4<(x0.length:Int)then (if 0<=x4 then (if x4<(x3.length:Int)then (qK.l0 k x0 (x3.set (x4:Int).toNat (rd x0 x4)) (wrap64 (x4+1)))else (none))else (none))else (some x3)
def qK.f(k:Nat)(l0:List Int):Option (List Int):=if 0<=(l0.length:Int)then (if ((l0.length:Int):Int).toNat<=35184372088832 then (qK.l0 k l0 (List.replicate ((l0.length:Int):Int).toNat 0) 0)else (none))else (none)
def BO.f(k:Nat)(l0_0:List Int):Option (List Int):=(qK.f k l0_0).bind λt616=>(some t616)
def JW.f(k:Nat)(l0_0:List Int)(l0_1:List Int):Option (List Int × List Int):=(qK.f k l0_0).bind λt622=>((BO.f k l0_1).bind λt625=>(some (t622,t625)))
def o8.f(k:Nat)(l0_0:List Int)(l0_1:List Int):Option (Bool):=(fT.f k l0_0).bind λt629=>(if t629=true then ((dz.f k l0_1).bind λt630=>(some t630))else (some false))
theorem o8.calls(k:Nat)(A0_0:Option Addr)(c0_0:Nat)(l0_0:List Int)(A0_1:Option Addr)(c0_1:Nat)(l0_1:List Int)(r:Bool)(w:World)(hr0_0:Kd.C (Kd.int .i64) w A0_0 l0_0.length l0_0)(hc0_0:l0_0.length<=c0_0)(hr0_1:Kd.C (Kd.int .i64) w A0_1 l0_1.length l0_1)(hc0_1:l0_1.length<=c0_1)(h:o8.f k l0_0 l0_1=some r) :
  Calls Tryz.prog 31 #[.agg #[.slice A0_0 l0_0.length c0_0,.slice A0_1 l0_1.length c0_1]] w λe w'=>e=.returned (.bool r)/\Below w.heap.size w w':=by
 have hu36:=Tryz.underlying36;have hu34:=Tryz.underlying34;have HR0_0:=aa hr0_0;have HC0_0:=aa hc0_0;clear hr0_0 hc0_0;have HR0_1:=aa hr0_1;have HC0_1:=aa hc0_1;clear hr0_1 hc0_1;have HB:=aa (Below.refl w.heap.size w);unfold o8.f at h;have H:=h;clear h;obtain ⟨t629,A2,H⟩:=aA H;revert H;refine bA (λc3 H=>?_) λc3 H=>?_
 ·
  subst c3;obtain ⟨t630,A4,H⟩:=aA H;obtain rfl:=Option.some.inj H;go_enter Tryz.func31,Tryz.ntmps31;go_wp2_with (first|((with_reducible refine dm 1 ?_);refine fJ #[.slice A0_0 l0_0.length c0_0,.slice A0_1 l0_1.length c0_1] 36 ?_;intro gb628 hg w5 hbox hb;have BK628:=aa (hbox);have GW628:=aa ((by rw[hg];exact (ay af):w.heap.size<=gb628));have GE628:=aa ((by rw[hg];exact (ay af):w.heap.size<=gb628));replace HB:=aa (aj af hb);clear hb hbox hg;have hcz6_0:w5.cell? ⟨gb628,0,none⟩=some (.slice A0_0 l0_0.length c0_0):=(ah BK628.out 0).trans rfl;have hcz6_1:w5.cell? ⟨gb628,1,none⟩=some (.slice A0_1 l0_1.length c0_1):=(ah BK628.out 1).trans rfl;have hfz6_0:=au BK628.out 0;have hfz6_1:=au BK628.out 1)|((with_reducible refine av 60 ?_);refine ax 5 Tryz.func60 #[.slice A0_0 l0_0.length c0_0] ?_;(with_reducible refine (fT.calls k _ _ l0_0 true _ ?s1 ?s2 A2.out).mono ?_);(case s1=>exact bQ HR0_0.out);(case s2=>exact HC0_0.out);rintro e w7 ⟨rfl,hb⟩;refine ⟨_,rfl,?_⟩;replace BK628:=aa (aI (g:=gb628) (o:=.cells #[.slice A0_0 l0_0.length c0_0,.slice A0_1 l0_1.length c0_1] 36 (0,0)) (aJ BK628.out) hb);replace HB:=aa (aj (aY GE628.out) hb);clear hb;have hcz8_0:w7.cell? ⟨gb628,0,none⟩=some (.slice A0_0 l0_0.length c0_0):=(ah BK628.out 0).trans rfl;have hcz8_1:w7.cell? ⟨gb628,1,none⟩=some (.slice A0_1 l0_1.length c0_1):=(ah BK628.out 1).trans rfl;have hfz8_0:=au BK628.out 0;have hfz8_1:=au BK628.out 1)|(go_at_call 61;(with_reducible refine (dz.calls k _ _ l0_1 t630 _ ?s1 ?s2 A4.out).mono ?_);(case s1=>exact bQ HR0_1.out);(case s2=>exact HC0_1.out);rintro e w9 ⟨rfl,hb⟩;replace BK628:=aa (aI (g:=gb628) (o:=.cells #[.slice A0_0 l0_0.length c0_0,.slice A0_1 l0_1.length c0_1] 36 (0,0)) (aJ BK628.out) hb);replace HB:=aa (aj (aY GE628.out) hb);clear hb));go_ret;exact ⟨aU,aY GE628.out⟩
 subst c3;obtain rfl:=Option.some.inj H;go_enter Tryz.func31,Tryz.ntmps31;go_wp2_with (first|((with_reducible refine dm 1 ?_);refine fJ #[.slice A0_0 l0_0.length c0_0,.slice A0_1 l0_1.length c0_1] 36 ?_;intro gb628 hg w10 hbox hb;have BK628:=aa (hbox);have GW628:=aa ((by rw[hg];exact (ay af):w.heap.size<=gb628));have GE628:=aa ((by rw[hg];exact (ay af):w.heap.size<=gb628));replace HB:=aa (aj af hb);clear hb hbox hg;have hcz11_0:w10.cell? ⟨gb628,0,none⟩=some (.slice A0_0 l0_0.length c0_0):=(ah BK628.out 0).trans rfl;have hcz11_1:w10.cell? ⟨gb628,1,none⟩=some (.slice A0_1 l0_1.length c0_1):=(ah BK628.out 1).trans rfl;have hfz11_0:=au BK628.out 0;have hfz11_1:=au BK628.out 1)|((with_reducible refine av 60 ?_);refine ax 5 Tryz.func60 #[.slice A0_0 l0_0.length c0_0] ?_;(with_reducible refine (fT.calls k _ _ l0_0 false _ ?s1 ?s2 A2.out).mono ?_);(case s1=>exact bQ HR0_0.out);(case s2=>exact HC0_0.out);rintro e w12 ⟨rfl,hb⟩;refine ⟨_,rfl,?_⟩;replace BK628:=aa (aI (g:=gb628) (o:=.cells #[.slice A0_0 l0_0.length c0_0,.slice A0_1 l0_1.length c0_1] 36 (0,0)) (aJ BK628.out) hb);replace HB:=aa (aj (aY GE628.out) hb);clear hb));go_ret;exact ⟨aU,aY GE628.out⟩
mutual
def dA.l0:Nat->Int->Int->List Bool->List Int->List Int->Int->Int->Option (List Int × Bool)
 | 0,_,_,_,_,_,_,_=>none
 | k+1,x1,x2,x8,x9,x16,x17,x18=>if x18<x17 then (if 0<=x18 then (if x18<(x16.length:Int)then (dA.l1 k x1 x2 x8 x9 (rd x16 x18) (rd x16 x18) x16 x17 x18)else (none))else (none))else (some (x9,true))
def dA.j2:Nat->Int->Int->List Bool->List Int->Int->Int->List Int->Int->Int->Option (List Int × Bool)
 | 0,_,_,_,_,_,_,_,_,_=>none
 | k+1,x1,x2,x8,x9,x11,x12,x16,x17,x18=>if x12<0 then (dA.j3 k x1 x2 x8 x9 x11 x12 x16 x17 x18 true)else (dA.j3 k x1 x2 x8 x9 x11 x12 x16 x17 x18 (decide (x12<(wrap64 (x11 - x2)))))
def dA.j3:Nat->Int->Int->List Bool->List Int->Int->Int->List Int->Int->Int->Bool->Option (List Int × Bool)
 | 0,_,_,_,_,_,_,_,_,_,_=>none
 | k+1,x1,x2,x8,x9,x11,x12,x16,x17,x18,x48=>if x48=true then (dA.l2 k x1 x2 x8 x9 x11 x16 x17 x18)else (if x12=x1 then (some (([]:List Int),false))else (if 0<=x12 then (if x12<(x8.length:Int)then (if x9.length<17592186044416 then (dA.l0 k x1 x2 (x8.set (x12:Int).toNat true) (x9++[x12]) x16 x17 (wrap64 (x18+1)))else (none))else (none))else (none)))
def dA.l2:Nat->Int->Int->List Bool->List Int->Int->List Int->Int->Int->Option (List Int × Bool)
 | 0,_,_,_,_,_,_,_,_=>none
 | k+1,x1,x2,x8,x9,x12,x16,x17,x18=>if x12<x1 then (if 0<=x12 then (if x12<(x8.length:Int)then (if dS false x8 x12=true then (dA.l2 k x1 x2 x8 x9 (wrap64 (x12+1)) x16 x17 x18)else (if x12=x1 then (some (([]:List Int),false))else (if x9.length<17592186044416 then (dA.l0 k x1 x2 (x8.set (x12:Int).toNat true) (x9++[x12]) x16 x17 (wrap64 (x18+1)))else (none))))else (none))else (none))else (if x12=x1 then (some (([]:List Int),false))else (if 0<=x12 then (if x12<(x8.length:Int)then (if x9.length<17592186044416 then (dA.l0 k x1 x2 (x8.set (x12:Int).toNat true) (x9++[x12]) x16 x17 (wrap64 (x18+1)))else (none))else (none))else (none)))
def dA.l1:Nat->Int->Int->List Bool->List Int->Int->Int->List Int->Int->Int->Option (List Int × Bool)
 | 0,_,_,_,_,_,_,_,_,_=>none
 | k+1,x1,x2,x8,x9,x11,x12,x16,x17,x18=>if x12 >= 0 then (if x12 >= (wrap64 (x11 - x2))then (if 0<=x12 then (if x12<(x8.length:Int)then (if dS false x8 x12=true then (dA.l1 k x1 x2 x8 x9 x11 (wrap64 (x12 - 1)) x16 x17 x18)else (dA.j2 k x1 x2 x8 x9 x11 x12 x16 x17 x18))else (none))else (none))else (dA.j2 k x1 x2 x8 x9 x11 x12 x16 x17 x18))else (dA.j2 k x1 x2 x8 x9 x11 x12 x16 x17 x18)
end
def dA.f(k:Nat)(l0:List Int)(a1:Int)(a2:Int):Option (List Int × Bool):=if 0<=a1 then (if (a1:Int).toNat<=281474976710656 then (dA.l0 k a1 a2 (List.replicate (a1:Int).toNat false) (([]:List Int)) l0 (l0.length:Int) 0)else (none))else (none)
theorem dA.calls(k:Nat)(A0:Option Addr)(c0:Nat)(l0:List Int)(a1:Int)(a2:Int)(r1:List Int)(r2:Bool)(w:World)(hr0:Kd.C (Kd.int .i64) w A0 l0.length l0)(hc0:l0.length<=c0)(h:dA.f k l0 a1 a2=some (r1,r2)) :
  Calls Tryz.prog 215 #[.slice A0 l0.length c0,.int .i64 a1,.int .i64 a2] w λe w'=>∃v0_:Value,e=.returned (.tuple #[v0_,.bool r2])/\Kd.R (Kd.int .i64) 3 w' w.heap.size (λ_=>True) v0_ r1/\Below w.heap.size w w':=by
 have HR0:=aa hr0;have HC0:=aa hc0;clear hr0 hc0;have HB:=aa (Below.refl w.heap.size w);unfold dA.f at h;have H:=h;clear h;revert H;refine dI λc4b0 c4b1 H=>?_;revert H;refine dI λc5b0 c5b1 H=>?_;obtain ⟨y639,hy639⟩:=bv ((List.replicate (a1:Int).toNat false):List Bool);replace H:(dA.l0 k a1 a2 y639 (([]:List Int)) l0 (l0.length:Int) 0)=some (r1,r2):=bu hy639 H;have Ny639:=aa hy639;clear hy639;obtain ⟨y642,hy642⟩:=bv ((([]:List Int)):List Int);replace H:(dA.l0 k a1 a2 y639 y642 l0 (l0.length:Int) 0)=some (r1,r2):=bu hy642 H;have Ny642:=aa hy642;clear hy642;have H':=aa H;clear H;go_enter Tryz.func215,Tryz.ntmps215;go_wp2_with (first|((with_reducible refine dm 14 ?_);refine Kd.R_make Kd.bool _ 4 rfl (N:=14) rfl 136 _ _ rfl a1 rfl rfl Tryz.underlying136 (.bool false) 1 ui rfl (by decide) (by omega) false (ok:=λ_=>True) (okp:=λ_=>True) rfl (λ_ hk=>hk) trivial (of_decide_eq_true aD) (Nat.le_trans (Nat.mul_le_mul_right _ (of_decide_eq_true aD:a1.toNat<=281474976710656)) (by omega)) (Below.refl _ _) (Nat.le_refl _) ?_;intro v640 w6 ho7 hb hg_ hnew_;clear hg_ hnew_;(first|rw[<- Ny639.out]at ho7|(simp only[Int.reduceToNat]at ho7;rw[<- Ny639.out]at ho7));have HO641:=aa (Kd.R_lower ho7 (ay af));replace HB:=aa (aj af hb);clear hb ho7)|((with_reducible refine dm 15 ?_);refine Kd.R_lit (Kd.int .i64) _ 3 ?hg (N:=15) ?hd (xs:=([]:List Int)) (inner:=[]) (ok:=λ_=>True) (okp:=λ_=>True) ?hr ?hp (λ_ hk=>hk) trivial (Below.refl _ _) (Nat.le_refl _) (by simp) ?_;(case hd=>rfl);(case hg=>rfl);(case hr=>exact eO);(case hp=>exact (bG.none _ _));intro v643 w8 ho9 hb hg_ hnew_;clear hg_ hnew_;(first|rw[<- Ny642.out]at ho9|(simp only[Int.reduceToNat]at ho9;rw[<- Ny642.out]at ho9));replace HO641:=aa (Kd.R_below (ai HO641.out) hb);have HO644:=aa (Kd.R_lower ho9 (ay af));replace HB:=aa (aj af hb);clear hb ho9))
 go_loopg [9,18] k (λkq v9 v18 w'=>∃ (x8_1:List Bool) (x9_1:List Int) (x18_1:Int),v18=.int .i64 x18_1/\ae (dA.l0 kq a1 a2 x8_1 x9_1 l0 (l0.length:Int) x18_1=some (r1,r2))/\ae (kq<=k)/\ae (Kd.R Kd.bool 4 w' w.heap.size (λ_=>True) v640 x8_1)/\ae (Kd.R (Kd.int .i64) 3 w' w.heap.size (λ_=>True) v9 x9_1)/\ae (Below w.heap.size w w'))
 case atStart=>exact ⟨(y639),(y642),(0),ag,H',⟨Nat.le_refl _⟩,⟨ai HO641.out⟩,⟨ai HO644.out⟩,⟨af⟩⟩
 case round =>
  clear H';obtain ⟨x8_1,x9_1,x18_1,rfl,HA,HK1,HO_8,HO_9,HB⟩:=hrel;cases gk with
  | zero=>exact ak HA.out
  | succ k1 =>
   have H:=HA.out;clear HA;simp only[dA.l0]at H;revert H;refine bi (λc10b0 H=>?_) λc10b0 H=>?_
   ·
    revert H;refine aX λc11b0 H=>?_;revert H;refine aX λc12b0 H=>?_;have HC13:=aa H;clear H;obtain ⟨ad645,rfl,hx645_0,p645,q645⟩:=bW HR0.out x18_1
    (try (replace hx645_0:=(HB.out.cell (World.block_lt_of_cell? w _ hx645_0)).trans hx645_0))
    go_upto_block 2 with (fail)
    go_cut [12] (λv12 wc=>∃ (kq:Nat) (x12_12:Int),v12=.int .i64 x12_12/\ae (dA.j2 kq a1 a2 x8_1 x9_1 (rd l0 x18_1) x12_12 l0 (l0.length:Int) x18_1=some (r1,r2))/\ae (kq<=k1)/\ae (Kd.R Kd.bool 4 wc w.heap.size (λ_=>True) v640 x8_1)/\ae (Kd.R (Kd.int .i64) 3 wc w.heap.size (λ_=>True) u9 x9_1)/\ae (Below w.heap.size w wc))
    case first =>
     have H:=HC13.out;clear HC13;have H':=aa H;clear H;go_wp2
     go_loopg [12] k1 (λkq v12 w'=>∃ (x12_2:Int),v12=.int .i64 x12_2/\ae (dA.l1 kq a1 a2 x8_1 x9_1 (rd l0 x18_1) x12_2 l0 (l0.length:Int) x18_1=some (r1,r2))/\ae (kq<=k1)/\ae (Kd.R Kd.bool 4 w' w.heap.size (λ_=>True) v640 x8_1)/\ae (Kd.R (Kd.int .i64) 3 w' w.heap.size (λ_=>True) u9 x9_1)/\ae (Below w.heap.size w w'))
     case atStart=>exact ⟨(rd l0 x18_1),ag,H',⟨Nat.le_refl _⟩,⟨ai HO_8.out⟩,⟨ai HO_9.out⟩,⟨af⟩⟩
     case round =>
      clear H';obtain ⟨x12_2,rfl,HA,HK2,HO_8,HO_9,HB⟩:=hrel;cases gk with
      | zero=>exact ak HA.out
      | succ k2 =>
       have H:=HA.out;clear HA;simp only[dA.l1]at H;revert H;refine bi (λc14b0 H=>?_) λc14b0 H=>?_
       ·
        (first|rw[c14b0]|(simp only[cO,eB];rw[c14b0])|skip)
        revert H;refine bi (λc15b0 H=>?_) λc15b0 H=>?_
        ·
         revert H;refine aX λc16b0 H=>?_;revert H;refine aX λc17b0 H=>?_;obtain ⟨bq18,hbq18⟩:∃b_:Bool,b_=(dS false x8_1 x12_2):=⟨_,rfl⟩;replace H:(if bq18=true then (dA.l1 k2 a1 a2 x8_1 x9_1 (rd l0 x18_1) (wrap64 (x12_2 - 1)) l0 (l0.length:Int) x18_1)else (dA.j2 k2 a1 a2 x8_1 x9_1 (rd l0 x18_1) x12_2 l0 (l0.length:Int) x18_1))=some (r1,r2):=by rw[<- hbq18]at H;exact H
         have Nbq18:=aa hbq18;clear hbq18;revert H;refine bA (λc19 H=>?_) λc19 H=>?_
         ·
          subst c19;have H':=aa H;clear H;obtain ⟨Ao20,co20,eo20⟩:=Kd.R_slice HO_8.out;subst eo20;obtain ⟨ad646,rfl,hx646_0,p646,q646⟩:=lJ (f_ HO_8.out) x12_2
          (try rw[<- Nbq18.out]at hx646_0)
          go_wp2;go_roundg k2
          case measure=>have:=HK1.out;have:=HK2.out;omega
          case rel=>exact ⟨(wrap64 (x12_2 - 1)),ag,H',⟨dR HK1.out HK2.out⟩,⟨ai HO_8.out⟩,⟨ai HO_9.out⟩,⟨af⟩⟩
         subst c19;have H':=aa H;clear H;obtain ⟨Ao21,co21,eo21⟩:=Kd.R_slice HO_8.out;subst eo21;obtain ⟨ad646,rfl,hx646_0,p646,q646⟩:=lJ (f_ HO_8.out) x12_2
         (try rw[<- Nbq18.out]at hx646_0)
         go_wp2;go_meet
         case rel=>exact ⟨_,(x12_2),ag,H',⟨mU HK1.out HK2.out⟩,⟨ai HO_8.out⟩,⟨ai HO_9.out⟩,⟨af⟩⟩
        have H':=aa H;clear H;go_wp2;go_meet
        case rel=>exact ⟨_,(x12_2),ag,H',⟨mU HK1.out HK2.out⟩,⟨ai HO_8.out⟩,⟨ai HO_9.out⟩,⟨af⟩⟩
       (first|rw[c14b0]|(simp only[cO,eB];rw[c14b0])|skip)
       have H':=aa H;clear H;go_wp2;go_meet
       case rel=>exact ⟨_,(x12_2),ag,H',⟨mU HK1.out HK2.out⟩,⟨ai HO_8.out⟩,⟨ai HO_9.out⟩,⟨af⟩⟩
    case rest =>
     clear HC13;obtain ⟨kq,x12_12,rfl,HA,HJ12,HO_8,HO_9,HB⟩:=hcut;cases kq with
     | zero=>exact ak HA.out
     | succ kj12 =>
      have H:=HA.out;clear HA;simp only[dA.j2]at H;have HC22:=aa H;clear H
      go_upto_region 8 with (fail)
      go_cut [48] (λv48 wc=>∃ (kq:Nat) (x48_21:Bool),v48=.bool x48_21/\ae (dA.j3 kq a1 a2 x8_1 x9_1 (rd l0 x18_1) x12_12 l0 (l0.length:Int) x18_1 x48_21=some (r1,r2))/\ae (kq<=kj12)/\ae (Kd.R Kd.bool 4 wc w.heap.size (λ_=>True) v640 x8_1)/\ae (Kd.R (Kd.int .i64) 3 wc w.heap.size (λ_=>True) u9 x9_1)/\ae (Below w.heap.size w wc))
      case first =>
       have H:=HC22.out;clear HC22;revert H;refine bi (λc23b0 H=>?_) λc23b0 H=>?_
       ·
        (first|rw[c23b0]|(simp only[cO,eB];rw[c23b0])|skip)
        have H':=aa H;clear H;go_wp2;go_meet
        case rel=>exact ⟨_,(true),ag,H',⟨mU HK1.out HJ12.out⟩,⟨ai HO_8.out⟩,⟨ai HO_9.out⟩,⟨af⟩⟩
       (first|rw[c23b0]|(simp only[cO,eB];rw[c23b0])|skip)
       have H':=aa H;clear H;go_wp2;go_meet
       case rel=>exact ⟨_,(decide (x12_12<(wrap64 ((rd l0 x18_1) - a2)))),ag,H',⟨mU HK1.out HJ12.out⟩,⟨ai HO_8.out⟩,⟨ai HO_9.out⟩,⟨af⟩⟩
      case rest =>
       clear HC22;obtain ⟨kq,x48_21,rfl,HA,HJ21,HO_8,HO_9,HB⟩:=hcut;cases kq with
       | zero=>exact ak HA.out
       | succ kj21 =>
        have H:=HA.out;clear HA;simp only[dA.j3]at H;revert H;refine bA (λc24 H=>?_) λc24 H=>?_
        ·
         subst c24;have H':=aa H;clear H;go_wp2
         go_loopg [12] kj21 (λkq v12 w'=>∃ (x12_4:Int),v12=.int .i64 x12_4/\ae (dA.l2 kq a1 a2 x8_1 x9_1 x12_4 l0 (l0.length:Int) x18_1=some (r1,r2))/\ae (kq<=kj21)/\ae (Kd.R Kd.bool 4 w' w.heap.size (λ_=>True) v640 x8_1)/\ae (Kd.R (Kd.int .i64) 3 w' w.heap.size (λ_=>True) u9 x9_1)/\ae (Below w.heap.size w w'))
         case atStart=>exact ⟨((rd l0 x18_1)),ag,H',⟨Nat.le_refl _⟩,⟨ai HO_8.out⟩,⟨ai HO_9.out⟩,⟨af⟩⟩
         case round =>
          clear H';obtain ⟨x12_4,rfl,HA,HK4,HO_8,HO_9,HB⟩:=hrel;cases gk with
          | zero=>exact ak HA.out
          | succ k4 =>
           have H:=HA.out;clear HA;simp only[dA.l2]at H;revert H;refine bi (λc25b0 H=>?_) λc25b0 H=>?_
           ·
            revert H;refine aX λc26b0 H=>?_;revert H;refine aX λc27b0 H=>?_;obtain ⟨bq28,hbq28⟩:∃b_:Bool,b_=(dS false x8_1 x12_4):=⟨_,rfl⟩;replace H:(if bq28=true then (dA.l2 k4 a1 a2 x8_1 x9_1 (wrap64 (x12_4+1)) l0 (l0.length:Int) x18_1)else (if x12_4=a1 then (some (([]:List Int),false))else (if x9_1.length<17592186044416 then (dA.l0 k4 a1 a2 (x8_1.set (x12_4:Int).toNat true) (x9_1++[x12_4]) l0 (l0.length:Int) (wrap64 (x18_1+1)))else (none))))=some (r1,r2):=by rw[<- hbq28]at H;exact H
            have Nbq28:=aa hbq28;clear hbq28;revert H;refine bA (λc29 H=>?_) λc29 H=>?_
            ·
             subst c29;have H':=aa H;clear H;obtain ⟨Ao30,co30,eo30⟩:=Kd.R_slice HO_8.out;subst eo30;obtain ⟨ad647,rfl,hx647_0,p647,q647⟩:=lJ (f_ HO_8.out) x12_4
             (try rw[<- Nbq28.out]at hx647_0)
             go_wp2;go_roundg k4
             case measure=>have:=HK1.out;have:=HJ12.out;have:=HJ21.out;have:=HK4.out;omega
             case rel=>exact ⟨(wrap64 (x12_4+1)),ag,H',⟨by have:=HK1.out;have:=HJ12.out;have:=HJ21.out;have:=HK4.out;omega⟩,⟨ai HO_8.out⟩,⟨ai HO_9.out⟩,⟨af⟩⟩
            subst c29;revert H;refine dH (λc31b0 c31b1 H=>?_) λc31 c31b0 c31b1 H=>?_
            ·
             obtain ⟨rfl,rfl⟩:=dB H;obtain ⟨Ao32,co32,eo32⟩:=Kd.R_slice HO_8.out;subst eo32;obtain ⟨ad647,rfl,hx647_0,p647,q647⟩:=lJ (f_ HO_8.out) x12_4
             (try rw[<- Nbq28.out]at hx647_0)
             go_wp2;go_ret2;exact ⟨_,aU,d9,af⟩
            obtain ⟨y648,hy648⟩:=bv ((x8_1.set (x12_4:Int).toNat true):List Bool);replace H:(if x9_1.length<17592186044416 then (dA.l0 k4 a1 a2 y648 (x9_1++[x12_4]) l0 (l0.length:Int) (wrap64 (x18_1+1)))else (none))=some (r1,r2):=bu hy648 H;have Ny648:=aa hy648;clear hy648;revert H;refine bZ λc34 H=>?_;have LMc34:=aa c34;clear c34;obtain ⟨y649,hy649⟩:=bv ((x9_1++[x12_4]):List Int);replace H:(dA.l0 k4 a1 a2 y648 y649 l0 (l0.length:Int) (wrap64 (x18_1+1)))=some (r1,r2):=bu hy649 H;have Ny649:=aa hy649;clear hy649;have H':=aa H;clear H;obtain ⟨Ao35,co35,eo35⟩:=Kd.R_slice HO_8.out;subst eo35;obtain ⟨ad647,rfl,hx647_0,p647,q647⟩:=lJ (f_ HO_8.out) x12_4
            (try rw[<- Nbq28.out]at hx647_0)
            have p33:0<=(x12_4:Int):=of_decide_eq_true aD;have q33:(x12_4:Int)<((x8_1.length:Int):Int):=of_decide_eq_true aD;obtain ⟨go33,co33,eo33,gb33,gl33,cl33,HG33⟩:=Kd.R_form HO_8.out (by omega)
            (first|cases eo33|(injection eo33 with ea_ en_ ec_;(first|subst ea_|(injection ea_ with ea_;subst ea_));subst ec_;clear en_))
            have GB33:=aa gb33;have GG33:=aa HG33;clear gb33 gl33 HG33
            (first|simp only[add_plain]at hx647_0|skip)
            obtain ⟨hx33_0,hf33_0⟩:=Kd.R_celln false HO_8.out (x12_4:Int) p33 q33;replace p33:=eq_true p33;replace q33:=eq_true q33;have HP36:=Kd.R_putg HO_8.out (x12_4:Int) true;go_wp2_with (first|((with_reducible refine jh (t:=4) (p:=66) rfl ?_);refine jF (t:=4) (p:=66) (v:=?vo_w37) (w1:=(wr.setCell ⟨go33,(x12_4:Int).toNat,none⟩ (.bool true))) ?hg ?ho ?hn ?hr ?_;(case ho=>rfl);(case hg=>rfl);(case hn=>rfl);(case hr=>exact eO);intro w37 hw;have hg:wr.grownBy w37 (some go33):=(by rw[hw];exact HP36.2);have hp_:Kd.R Kd.bool 4 w37 w.heap.size (λ_=>True) (.slice (some ⟨go33,0,none⟩) x8_1.length co35) y648:=(by rw[hw,Ny648.out];exact HP36.1);clear HP36;replace HO_9:=aa (Kd.R_over' (v:=(.slice (some ⟨go33,0,none⟩) x8_1.length co35)) (ai HO_9.out) (Kd.R_typed HO_8.out) (by decide) hg);replace HO_8:=aa (hp_);replace HB:=aa ((by rw[hw];exact bf (HB.out) GB33.out:Below w.heap.size w w37));clear hg hw hp_)|((with_reducible refine dE (b:=.append) (xs:=#[.tmp 67,.tmp 69]) rfl ?_);at_builtin;refine eQ (w0:=w) (.tmp 67) (.tmp 69) u9 x9_1 x12_4 (λ_=>True) (λ_ _=>trivial) (ai HO_9.out) af (by exact bB LMc34.out) ?_;intro v650 w38 ho hb hg hat;rw[<- Ny649.out]at ho;replace HO_8:=aa (Kd.R_over' (ai HO_8.out) (Kd.R_typed (ai HO_9.out)) (by decide) hg);replace HB:=aa (hb);have HO651:=aa (ho);clear ho hb hg hat));go_roundg k4
            case measure=>have:=HK1.out;have:=HJ12.out;have:=HJ21.out;have:=HK4.out;omega
            case rel=>exact ⟨(y648),(y649),(wrap64 (x18_1+1)),ag,H',⟨by have:=HK1.out;have:=HJ12.out;have:=HJ21.out;have:=HK4.out;omega⟩,⟨ai HO_8.out⟩,⟨ai HO651.out⟩,⟨af⟩⟩
           revert H;refine dH (λc39b0 c39b1 H=>?_) λc39 c39b0 c39b1 H=>?_
           ·
            obtain ⟨rfl,rfl⟩:=dB H;go_wp2;go_ret2;exact ⟨_,aU,d9,af⟩
           revert H;refine aX λc40b0 H=>?_;revert H;refine aX λc41b0 H=>?_;obtain ⟨y652,hy652⟩:=bv ((x8_1.set (x12_4:Int).toNat true):List Bool);replace H:(if x9_1.length<17592186044416 then (dA.l0 k4 a1 a2 y652 (x9_1++[x12_4]) l0 (l0.length:Int) (wrap64 (x18_1+1)))else (none))=some (r1,r2):=bu hy652 H;have Ny652:=aa hy652;clear hy652;revert H;refine bZ λc43 H=>?_;have LMc43:=aa c43;clear c43;obtain ⟨y653,hy653⟩:=bv ((x9_1++[x12_4]):List Int);replace H:(dA.l0 k4 a1 a2 y652 y653 l0 (l0.length:Int) (wrap64 (x18_1+1)))=some (r1,r2):=bu hy653 H;have Ny653:=aa hy653;clear hy653;have H':=aa H;clear H;have p42:0<=(x12_4:Int):=of_decide_eq_true aD;have q42:(x12_4:Int)<((x8_1.length:Int):Int):=of_decide_eq_true aD;obtain ⟨go42,co42,eo42,gb42,gl42,cl42,HG42⟩:=Kd.R_form HO_8.out (by omega)
           (first|cases eo42|(injection eo42 with ea_ en_ ec_;(first|subst ea_|(injection ea_ with ea_;subst ea_));subst ec_;clear en_))
           have GB42:=aa gb42;have GG42:=aa HG42;clear gb42 gl42 HG42;obtain ⟨hx42_0,hf42_0⟩:=Kd.R_celln false HO_8.out (x12_4:Int) p42 q42;replace p42:=eq_true p42;replace q42:=eq_true q42;have HP44:=Kd.R_putg HO_8.out (x12_4:Int) true;go_wp2_with (first|((with_reducible refine jh (t:=4) (p:=66) rfl ?_);refine jF (t:=4) (p:=66) (v:=?vo_w45) (w1:=(wr.setCell ⟨go42,(x12_4:Int).toNat,none⟩ (.bool true))) ?hg ?ho ?hn ?hr ?_;(case ho=>rfl);(case hg=>rfl);(case hn=>rfl);(case hr=>exact eO);intro w45 hw;have hg:wr.grownBy w45 (some go42):=(by rw[hw];exact HP44.2);have hp_:Kd.R Kd.bool 4 w45 w.heap.size (λ_=>True) (.slice (some ⟨go42,0,none⟩) x8_1.length co42) y652:=(by rw[hw,Ny652.out];exact HP44.1);clear HP44;replace HO_9:=aa (Kd.R_over' (v:=(.slice (some ⟨go42,0,none⟩) x8_1.length co42)) (ai HO_9.out) (Kd.R_typed HO_8.out) (by decide) hg);replace HO_8:=aa (hp_);replace HB:=aa ((by rw[hw];exact bf (HB.out) GB42.out:Below w.heap.size w w45));clear hg hw hp_)|((with_reducible refine dE (b:=.append) (xs:=#[.tmp 67,.tmp 69]) rfl ?_);at_builtin;refine eQ (w0:=w) (.tmp 67) (.tmp 69) u9 x9_1 x12_4 (λ_=>True) (λ_ _=>trivial) (ai HO_9.out) af (by exact bB LMc43.out) ?_;intro v654 w46 ho hb hg hat;rw[<- Ny653.out]at ho;replace HO_8:=aa (Kd.R_over' (ai HO_8.out) (Kd.R_typed (ai HO_9.out)) (by decide) hg);replace HB:=aa (hb);have HO655:=aa (ho);clear ho hb hg hat));go_roundg k4
           case measure=>have:=HK1.out;have:=HJ12.out;have:=HJ21.out;have:=HK4.out;omega
           case rel=>exact ⟨(y652),(y653),(wrap64 (x18_1+1)),ag,H',⟨by have:=HK1.out;have:=HJ12.out;have:=HJ21.out;have:=HK4.out;omega⟩,⟨ai HO_8.out⟩,⟨ai HO655.out⟩,⟨af⟩⟩
        subst c24;revert H;refine dH (λc47b0 c47b1 H=>?_) λc47 c47b0 c47b1 H=>?_
        ·
         obtain ⟨rfl,rfl⟩:=dB H;go_wp2;go_ret2;exact ⟨_,aU,d9,af⟩
        revert H;refine aX λc48b0 H=>?_;revert H;refine aX λc49b0 H=>?_;obtain ⟨y656,hy656⟩:=bv ((x8_1.set (x12_12:Int).toNat true):List Bool);replace H:(if x9_1.length<17592186044416 then (dA.l0 kj21 a1 a2 y656 (x9_1++[x12_12]) l0 (l0.length:Int) (wrap64 (x18_1+1)))else (none))=some (r1,r2):=bu hy656 H;have Ny656:=aa hy656;clear hy656;revert H;refine bZ λc51 H=>?_;have LMc51:=aa c51;clear c51;obtain ⟨y657,hy657⟩:=bv ((x9_1++[x12_12]):List Int);replace H:(dA.l0 kj21 a1 a2 y656 y657 l0 (l0.length:Int) (wrap64 (x18_1+1)))=some (r1,r2):=bu hy657 H;have Ny657:=aa hy657;clear hy657;have H':=aa H;clear H;have p50:0<=(x12_12:Int):=of_decide_eq_true aD;have q50:(x12_12:Int)<((x8_1.length:Int):Int):=of_decide_eq_true aD;obtain ⟨go50,co50,eo50,gb50,gl50,cl50,HG50⟩:=Kd.R_form HO_8.out (by omega)
        (first|cases eo50|(injection eo50 with ea_ en_ ec_;(first|subst ea_|(injection ea_ with ea_;subst ea_));subst ec_;clear en_))
        have GB50:=aa gb50;have GG50:=aa HG50;clear gb50 gl50 HG50;obtain ⟨hx50_0,hf50_0⟩:=Kd.R_celln false HO_8.out (x12_12:Int) p50 q50;replace p50:=eq_true p50;replace q50:=eq_true q50;have HP52:=Kd.R_putg HO_8.out (x12_12:Int) true;go_wp2_with (first|((with_reducible refine jh (t:=4) (p:=66) rfl ?_);refine jF (t:=4) (p:=66) (v:=?vo_w53) (w1:=(wc.setCell ⟨go50,(x12_12:Int).toNat,none⟩ (.bool true))) ?hg ?ho ?hn ?hr ?_;(case ho=>rfl);(case hg=>rfl);(case hn=>rfl);(case hr=>exact eO);intro w53 hw;have hg:wc.grownBy w53 (some go50):=(by rw[hw];exact HP52.2);have hp_:Kd.R Kd.bool 4 w53 w.heap.size (λ_=>True) (.slice (some ⟨go50,0,none⟩) x8_1.length co50) y656:=(by rw[hw,Ny656.out];exact HP52.1);clear HP52;replace HO_9:=aa (Kd.R_over' (v:=(.slice (some ⟨go50,0,none⟩) x8_1.length co50)) (ai HO_9.out) (Kd.R_typed HO_8.out) (by decide) hg);replace HO_8:=aa (hp_);replace HB:=aa ((by rw[hw];exact bf (HB.out) GB50.out:Below w.heap.size w w53));clear hg hw hp_)|((with_reducible refine dE (b:=.append) (xs:=#[.tmp 67,.tmp 69]) rfl ?_);at_builtin;refine eQ (w0:=w) (.tmp 67) (.tmp 69) u9 x9_1 x12_12 (λ_=>True) (λ_ _=>trivial) (ai HO_9.out) af (by exact bB LMc51.out) ?_;intro v658 w54 ho hb hg hat;rw[<- Ny657.out]at ho;replace HO_8:=aa (Kd.R_over' (ai HO_8.out) (Kd.R_typed (ai HO_9.out)) (by decide) hg);replace HB:=aa (hb);have HO659:=aa (ho);clear ho hb hg hat));go_roundg kj21
        case measure=>have:=HK1.out;have:=HJ12.out;have:=HJ21.out;omega
        case rel=>exact ⟨(y656),(y657),(wrap64 (x18_1+1)),ag,H',⟨kU HK1.out HJ12.out HJ21.out⟩,⟨ai HO_8.out⟩,⟨ai HO659.out⟩,⟨af⟩⟩
   obtain ⟨rfl,rfl⟩:=dB H;go_wp2;go_ret2;exact ⟨_,aU,ai HO_9.out,af⟩
def iU.l0:Nat->List Int->List Int->Int->Int->Option (Bool)
 | 0,_,_,_,_=>none
 | k+1,x0,x1,x12,x13=>if x13<x12 then (if 0<=x13 then (if x13<(x0.length:Int)then (if x13<(x1.length:Int)then (if (rd x0 x13)=(rd x1 x13)then (iU.l0 k x0 x1 x12 (wrap64 (x13+1)))else (some false))else (none))else (none))else (none))else (some true)
def iU.f(k:Nat)(l0:List Int)(l1:List Int):Option (Bool):=if (l0.length:Int)=(l1.length:Int)then (iU.l0 k l0 l1 (l0.length:Int) 0)else (some false)
theorem iU.calls(k:Nat)(A0:Option Addr)(c0:Nat)(l0:List Int)(A1:Option Addr)(c1:Nat)(l1:List Int)(r:Bool)(w:World)(hr0:Kd.C (Kd.int .i64) w A0 l0.length l0)(hc0:l0.length<=c0)(hr1:Kd.C (Kd.int .i64) w A1 l1.length l1)(hc1:l1.length<=c1)(h:iU.f k l0 l1=some r) :
  Calls Tryz.prog 34 #[.slice A0 l0.length c0,.slice A1 l1.length c1] w λe w'=>e=.returned (.bool r)/\bg w w':=by
 have HR0:=aa hr0;have HC0:=aa hc0;clear hr0 hc0;have HR1:=aa hr1;have HC1:=aa hc1;clear hr1 hc1;unfold iU.f at h;have H:=h;clear h
 by_cases c3:(l0.length:Int)=(l1.length:Int)
 ·
  rw[if_pos c3]at H;have c3b0:=beq_iff_eq.mpr c3;have c3b1:=bne_eq_false_iff_eq.mpr c3;have c3b2:(l0.length == l1.length)=true:=sJ;clear c3;have H':=aa H;clear H;go_enter Tryz.func34,Tryz.ntmps34;go_wp2
  repeat (go_quiet (fail);try go_wp2)
  go_loopg [13] k (λkq v13 w'=>∃ (x13_1:Int),v13=.int .i64 x13_1/\ae (iU.l0 kq l0 l1 (l0.length:Int) x13_1=some r)/\ae (kq<=k)/\bg w w')
  case atStart=>exact ⟨(0),ag,H',⟨Nat.le_refl _⟩,aZ⟩
  case round =>
   clear H';obtain ⟨x13_1,rfl,HA,HK1,⟨m1,rfl⟩⟩:=hrel;cases gk with
   | zero=>exact ak HA.out
   | succ k1 =>
    have H:=HA.out;clear HA;simp only[iU.l0]at H;revert H;refine bi (λc4b0 H=>?_) λc4b0 H=>?_
    ·
     revert H;refine aX λc5b0 H=>?_;revert H;refine aX λc6b0 H=>?_;revert H;refine aX λc7b0 H=>?_;revert H;refine dH (λc8b0 c8b1 H=>?_) λc8 c8b0 c8b1 H=>?_
     ·
      have H':=aa H;clear H;obtain ⟨ad660,rfl,hx660_0,p660,q660⟩:=bW HR0.out x13_1;obtain ⟨ad661,rfl,hx661_0,p661,q661⟩:=bW HR1.out x13_1;go_wp2
      repeat (go_quiet (fail);try go_wp2)
      go_roundg k1
      case measure=>have:=HK1.out;omega
      case rel=>exact ⟨(wrap64 (x13_1+1)),ag,H',⟨bB HK1.out⟩,aZ⟩
     obtain rfl:=Option.some.inj H;obtain ⟨ad660,rfl,hx660_0,p660,q660⟩:=bW HR0.out x13_1;obtain ⟨ad661,rfl,hx661_0,p661,q661⟩:=bW HR1.out x13_1;go_wp2
     repeat (go_quiet (fail);try go_wp2)
     go_ret;exact ⟨ag,aZ⟩
    obtain rfl:=Option.some.inj H;go_wp2
    repeat (go_quiet (fail);try go_wp2)
    go_ret;exact ⟨ag,aZ⟩
 rw[if_neg c3]at H;have c3b0:=beq_eq_false_iff_ne.mpr c3;have c3b1:=bne_iff_ne.mpr c3;have c3b2:(l0.length == l1.length)=false:=sJ;obtain rfl:=Option.some.inj H;go_enter Tryz.func34,Tryz.ntmps34;go_wp2
 repeat (go_quiet (fail);try go_wp2)
 go_ret;exact ⟨ag,aZ⟩
def Hg.f(k:Nat)(l0_0:List Int)(l1_0:List Int):Option (Bool):=(iU.f k l0_0 l1_0).bind λt664=>(some t664)
def JS.f(k:Nat)(l0_0:List Int)(l0_1:List Int)(l1_0:List Int)(l1_1:List Int):Option (Bool):=(iU.f k l0_0 l1_0).bind λt667=>(if t667=true then ((Hg.f k l0_1 l1_1).bind λt668=>(some t668))else (some false))
def jK.l0:Nat->List ByteArray->List ByteArray->Int->Int->Option (Bool)
 | 0,_,_,_,_=>none
 | k+1,x0,x1,x12,x13=>if x13<x12 then (if 0<=x13 then (if x13<(x0.length:Int)then (if x13<(x1.length:Int)then (if (dS ByteArray.empty x0 x13).toList=(dS ByteArray.empty x1 x13).toList then (jK.l0 k x0 x1 x12 (wrap64 (x13+1)))else (some false))else (none))else (none))else (none))else (some true)
def jK.f(k:Nat)(l0:List ByteArray)(l1:List ByteArray):Option (Bool):=if (l0.length:Int)=(l1.length:Int)then (jK.l0 k l0 l1 (l0.length:Int) 0)else (some false)
theorem jK.calls(k:Nat)(A0:Option Addr)(c0:Nat)(l0:List ByteArray)(A1:Option Addr)(c1:Nat)(l1:List ByteArray)(r:Bool)(w:World)(hr0:Kd.C Kd.string w A0 l0.length l0)(hc0:l0.length<=c0)(hr1:Kd.C Kd.string w A1 l1.length l1)(hc1:l1.length<=c1)(h:jK.f k l0 l1=some r) :
  Calls Tryz.prog 36 #[.slice A0 l0.length c0,.slice A1 l1.length c1] w λe w'=>e=.returned (.bool r)/\bg w w':=by
 have HR0:=aa hr0;have HC0:=aa hc0;clear hr0 hc0;have HR1:=aa hr1;have HC1:=aa hc1;clear hr1 hc1;unfold jK.f at h;have H:=h;clear h
 by_cases c3:(l0.length:Int)=(l1.length:Int)
 ·
  rw[if_pos c3]at H;have c3b0:=beq_iff_eq.mpr c3;have c3b1:=bne_eq_false_iff_eq.mpr c3;have c3b2:(l0.length == l1.length)=true:=sJ;clear c3;have H':=aa H;clear H;go_enter Tryz.func36,Tryz.ntmps36;go_wp2
  repeat (go_quiet (fail);try go_wp2)
  go_loopg [13] k (λkq v13 w'=>∃ (x13_1:Int),v13=.int .i64 x13_1/\ae (jK.l0 kq l0 l1 (l0.length:Int) x13_1=some r)/\ae (kq<=k)/\bg w w')
  case atStart=>exact ⟨(0),ag,H',⟨Nat.le_refl _⟩,aZ⟩
  case round =>
   clear H';obtain ⟨x13_1,rfl,HA,HK1,⟨m1,rfl⟩⟩:=hrel;cases gk with
   | zero=>exact ak HA.out
   | succ k1 =>
    have H:=HA.out;clear HA;simp only[jK.l0]at H;revert H;refine bi (λc4b0 H=>?_) λc4b0 H=>?_
    ·
     revert H;refine aX λc5b0 H=>?_;revert H;refine aX λc6b0 H=>?_;revert H;refine aX λc7b0 H=>?_;revert H;refine dH (λc8b0 c8b1 H=>?_) λc8 c8b0 c8b1 H=>?_
     ·
      have H':=aa H;clear H;obtain ⟨ad669,rfl,hx669_0,p669,q669⟩:=oU HR0.out x13_1;obtain ⟨ad670,rfl,hx670_0,p670,q670⟩:=oU HR1.out x13_1;go_wp2
      repeat (go_quiet (fail);try go_wp2)
      go_roundg k1
      case measure=>have:=HK1.out;omega
      case rel=>exact ⟨(wrap64 (x13_1+1)),ag,H',⟨bB HK1.out⟩,aZ⟩
     obtain rfl:=Option.some.inj H;obtain ⟨ad669,rfl,hx669_0,p669,q669⟩:=oU HR0.out x13_1;obtain ⟨ad670,rfl,hx670_0,p670,q670⟩:=oU HR1.out x13_1;go_wp2
     repeat (go_quiet (fail);try go_wp2)
     go_ret;exact ⟨ag,aZ⟩
    obtain rfl:=Option.some.inj H;go_wp2
    repeat (go_quiet (fail);try go_wp2)
    go_ret;exact ⟨ag,aZ⟩
 rw[if_neg c3]at H;have c3b0:=beq_eq_false_iff_ne.mpr c3;have c3b1:=bne_iff_ne.mpr c3;have c3b2:(l0.length == l1.length)=false:=sJ;obtain rfl:=Option.some.inj H;go_enter Tryz.func36,Tryz.ntmps36;go_wp2
 repeat (go_quiet (fail);try go_wp2)
 go_ret;exact ⟨ag,aZ⟩
end Go.Proofs.YtjdlhefjgceabaaGreatDoor.PAll

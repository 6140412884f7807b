import Derived.Test.YtjdlhefjgceabaaGreatDoorPAllC4
set_option linter.unusedVariables false
set_option linter.unusedSimpArgs false
namespace Go.Proofs.YtjdlhefjgceabaaGreatDoor.PAll
open Go.RowKit Hand YtjdlhefjgceabaaGreatDoorW.PrintWords YtjdlhefjgceabaaGreatDoorW.PrintLast YtjdlhefjgceabaaGreatDoorW.PrintMore
attribute [local go_sem] l8 mF lZ mo mr mK nI mQ
set_option maxHeartbeats 8000000
set_option maxRecDepth 100000
def eX.j0:Nat->Int->Bool->List Int->Option (List Int × Int × Bool)
 | 0,_,_,_=>none
 | k+1,x1,x32,x525000=>if x32=true then (some (([]:List Int),0,false))else ((kX.f x525000).bind λt532=>((jr.f k t532 x1).bind λbt536=>(some (bt536.2,bt536.1,true))))
def eX.f(k:Nat)(l0_0:List Int)(a1:Int):Option (List Int × Int × Bool):=(dz.f k l0_0).bind λt526=>(if t526=true then ((lh.f a1).bind λt527=>(if t527=true then ((gP.f k l0_0 a1).bind λt528=>(if t528=true then (eX.j0 k a1 true l0_0)else ((nJ.f l0_0).bind λt529=>(eX.j0 k a1 ((wrap64 ((t529.length:Int)+1)) == (l0_0.length:Int)) l0_0))))else (eX.j0 k a1 true l0_0)))else (eX.j0 k a1 true l0_0))
def eX.T1:Bool × List (List Nat × List Nat):=(true,[([],[]),([0],[0]),([1],[1]),([2,1],[2]),([3],[3]),([4,3,3],[3,4]),([5,3],[3,5]),([3,6],[3,6]),([7,5],[7]),([8],[8]),([9,8],[8,9]),([8],[8]),([10,11,8,8],[8,10,11]),([8,12],[8,12]),([13,12],[13]),([14],[14]),([15,14,14],[14,15]),([16,14],[14,16]),([17,14],[14,17]),([14],[14]),([19,14],[14,19]),([20,14],[14,20]),([18,21,14],[14,18,21]),([14,22],[14,22])])
def eX.B1:List Nat:=[0,1,3,7,15,31,63,127,255,511,1023,511,4095,8191,16383,32767,65535,131071,262143,32767,557055,1605631,4194303,8388607]
theorem eX.tab1:dQ .any (opsOf Tryz.f155 1)=eX.T1:=by kernel_rfl
theorem eX.bits1:jv eX.T1.2 eX.B1=true:=by kernel_rfl
theorem eX.calls(k:Nat)(A0_0:Option Addr)(c0_0:Nat)(l0_0:List Int)(a1:Int)(r1:List Int)(r2:Int)(r3:Bool)(w:World)(hr0_0:Kd.C (Kd.int .i64) w A0_0 l0_0.length l0_0)(hc0_0:l0_0.length<=c0_0)(h:eX.f k l0_0 a1=some (r1,r2,r3)) :
  Calls Tryz.prog 155 #[.agg #[.slice A0_0 l0_0.length c0_0],.int .i64 a1] w λe w'=>∃v0_:Value,e=.returned (.tuple #[.agg #[v0_],.int .i64 r2,.bool r3])/\Kd.R (Kd.int .i64) 3 w' w.heap.size (λ_=>True) v0_ r1/\Below w.heap.size w w':=by
 have hu34:=Tryz.underlying34;have HR0_0:=aa hr0_0;have HC0_0:=aa hc0_0;clear hr0_0 hc0_0;have HB:=aa (Below.refl w.heap.size w);unfold eX.f at h;have H:=h;clear h;have HC3:=aa H;clear H;go_enter Tryz.func155,Tryz.ntmps155
 go_upto_region 1 with (first|((with_reducible refine dm 2 ?_);(try (refine kZ (by rfl) ?_;dsimp only));refine fJ #[.slice A0_0 l0_0.length c0_0] 34 ?_;intro gb524 hg w4 hbox hb;have BK524:=aa (hbox);have GW524:=aa ((by rw[hg];exact (ay af):w.heap.size<=gb524));have GE524:=aa ((by rw[hg];exact (ay af):w.heap.size<=gb524));replace HB:=aa (aj af hb);clear hb hbox hg)|((with_reducible refine dm 4 ?_);(try (refine kZ (by rfl) ?_;dsimp only));refine fJ #[.slice none 0 0] 34 ?_;intro gb525 hg w5 hbox hb;have BK525:=aa (hbox);have GW525:=aa ((by rw[hg];exact (ay (aY GE524.out)):w.heap.size<=gb525));have GE525:=aa ((by rw[hg];exact (ay (aY GE524.out)):w.heap.size<=gb525));have NB524_525:=aa ((by rw[hg];exact Nat.ne_of_lt (dC (g:=gb524) (o:=.cells #[.slice A0_0 l0_0.length c0_0] 34 (0,0)) (aJ BK524.out)):gb524≠gb525));have NB525_524:=aa ((by rw[hg];exact Nat.ne_of_gt (dC (g:=gb524) (o:=.cells #[.slice A0_0 l0_0.length c0_0] 34 (0,0)) (aJ BK524.out)):gb525≠gb524));replace BK524:=aa (aI (g:=gb524) (o:=.cells #[.slice A0_0 l0_0.length c0_0] 34 (0,0)) (aJ BK524.out) hb);replace HB:=aa (aj (aY GE524.out) hb);clear hb hbox hg))
 (try simp only[Act.put,List.setIfInBounds_toArray,List.set_cons_zero,List.set_cons_succ])
 go_cut [32] (λv32 wc=>∃ (kq:Nat) (x32_2:Bool),v32=.bool x32_2/\ae (eX.j0 kq a1 x32_2 l0_0=some (r1,r2,r3))/\ae (kq<=k)/\ae (wc.heap[gb524]?=some (.cells #[(.slice A0_0 l0_0.length c0_0)] 34 (0,0)))/\ae (wc.heap[gb525]?=some (.cells #[(.slice none 0 0)] 34 (0,0)))/\ae (Below w.heap.size w wc))
 case first =>
  have H:=HC3.out;clear HC3;obtain ⟨t526,A6,H⟩:=aA H;revert H;refine bA (λc7 H=>?_) λc7 H=>?_
  ·
   subst c7;obtain ⟨t527,A8,H⟩:=aA H;revert H;refine bA (λc9 H=>?_) λc9 H=>?_
   ·
    subst c9;obtain ⟨t528,A10,H⟩:=aA H;have Hs_:=aa H;clear H
    try go_wp2
    have ak:=aa (bS BK524.out);have n1_:=aa (bS BK525.out);have n2_:=aa (dw HB.out);clear BK524 BK525 HB;have BK524:=ak;have BK525:=n1_;have HB:=n2_;clear ak n1_ n2_;refine jf (n:=24) (S:=λw'=>w'.cell? ⟨gb524,0,none⟩=some (.slice A0_0 l0_0.length c0_0)) (ds:=[]) (fe 24 0) (by kernel_rfl) rfl (by kernel_rfl) ((ah BK524.out 0).trans rfl) (λhHeld=>?_);refine j5 eX.tab1 eX.bits1 (λHT_ HW_=>?_)
    generalize w5.drew=w12 at BK524 BK525 HB hHeld ⊢;refine il 0 9 24 1 ?_;refine fV 1 (some 10) 24 3 λK hK=>?_;refine gq Tryz.func61 (by kernel_rfl) rfl #[.agg #[.slice A0_0 l0_0.length c0_0]] (by rfl) rfl rfl g_ ?_
    with_reducible refine (dz.calls k _ _ l0_0 true _ ?s1 ?s2 A6.out).mono ?_
    (case s1=>exact bQ HR0_0.out)
    (case s2=>exact HC0_0.out)
    rintro e w13 ⟨rfl,hb⟩;refine ⟨_,rfl,?_⟩;have ak:=aa (aI (g:=gb524) (o:=.cells #[.slice A0_0 l0_0.length c0_0] 34 (0,0)) (aJ BK524.out) hb);have n1_:=aa (aI (g:=gb525) (o:=.cells #[.slice none 0 0] 34 (0,0)) (aJ BK525.out) hb);have n2_:=aa (aj (dM GE524.out GE525.out) hb);clear BK524 BK525 HB;have BK524:=ak;have BK525:=n1_;have HB:=n2_;clear ak n1_ n2_
    (try clear hb)
    (try clear hb2)
    (try clear hk)
    (try clear hi)
    refine hK.out _ _ ((ah BK524.out 0).trans rfl) (λhHeld=>?_);clear hK K;refine eG ?_;refine aK 2 11 24 7 ?_;refine aK 3 12 24 15 ?_;refine aK 4 13 24 31 ?_;refine fV 5 (some 14) 24 63 λK hK=>?_;refine gq Tryz.func216 (by kernel_rfl) rfl #[.int .i64 a1] (by rfl) rfl rfl g_ ?_
    with_reducible refine (lh.calls a1 true _ A8.out).mono ?_
    rintro e w' ⟨rfl,⟨nd,rfl⟩⟩;refine ⟨_,rfl,?_⟩;refine hK.out _ _ ((ah BK524.out 0).trans rfl) (λhHeld=>?_);clear hK K;refine eG ?_;refine aK 6 15 24 127 ?_;refine aK 7 16 24 255 ?_;refine aK 8 17 24 511 ?_;refine aK 9 18 24 1023 ?_;refine aK 11 20 24 3071 ?_;refine il 10 19 24 4095 ?_;refine fV 12 (some 21) 24 8191 λK hK=>?_;refine gq Tryz.func96 (by kernel_rfl) rfl #[.slice A0_0 l0_0.length c0_0,.int .i64 a1] (by rfl) rfl rfl g_ ?_
    by_cases c11:t528=true
    ·
     have H:=Hs_.out;clear Hs_;subst c11;rw[if_pos rfl]at H;have H':=aa H;clear H
     with_reducible refine (gP.calls k _ _ l0_0 a1 true _ ?s1 ?s2 A10.out).mono ?_
     (case s1=>exact pQ HR0_0.out GE524.out GE525.out)
     (case s2=>exact HC0_0.out)
     rintro e w' ⟨rfl,⟨nd,rfl⟩⟩;refine ⟨_,rfl,?_⟩;refine hK.out _ _ ((ah BK524.out 0).trans rfl) (λhHeld=>?_);clear hK K;refine eG ?_;refine aK 13 22 24 16383 ?_;refine aK 14 23 24 32767 ?_;refine bF 15 24 24 65535 ?_;refine bF 16 25 24 131071 ?_;refine bF 17 26 24 262143 ?_;refine bF 18 27 24 524287 ?_;refine bF 19 28 24 1048575 ?_;refine bF 20 29 24 2097151 ?_;refine bF 21 30 24 4194303 ?_;refine bF 22 31 24 8388607 ?_;refine aK 23 32 24 16777215 ?_;refine iQ (jm HT_.out (by kernel_rfl)) ?_
     try go_wp2
     go_meet
     case rel=>exact ⟨_,(true),ag,H',⟨dF⟩,⟨aJ BK524.out⟩,⟨aJ BK525.out⟩,⟨dM GE524.out GE525.out⟩⟩
    have H:=Hs_.out;clear Hs_;replace c11:=Bool.eq_false_iff.mpr c11;subst c11;rw[if_neg Ad]at H;obtain ⟨t529,A14,H⟩:=aA H;have H':=aa H;clear H
    with_reducible refine (gP.calls k _ _ l0_0 a1 false _ ?s1 ?s2 A10.out).mono ?_
    (case s1=>exact pQ HR0_0.out GE524.out GE525.out)
    (case s2=>exact HC0_0.out)
    rintro e w' ⟨rfl,⟨nd,rfl⟩⟩;refine ⟨_,rfl,?_⟩;refine hK.out _ _ ((ah BK524.out 0).trans rfl) (λhHeld=>?_);clear hK K;refine eG ?_;refine aK 13 22 24 16383 ?_;refine aK 14 23 24 32767 ?_;refine aK 19 28 24 557055 ?_;refine il 15 24 24 589823 ?_;refine il 20 29 24 1638399 ?_;refine aK 21 30 24 3735551 ?_;refine fV 16 (some 25) 24 3801087 λK hK=>?_;refine gq Tryz.func217 (by kernel_rfl) rfl #[.agg #[.slice A0_0 l0_0.length c0_0]] (by rfl) rfl rfl g_ ?_
    with_reducible refine (nJ.calls _ _ l0_0 t529 _ ?s1 ?s2 A14.out).mono ?_
    (case s1=>exact pQ HR0_0.out GE524.out GE525.out)
    (case s2=>exact HC0_0.out)
    rintro e w17 ⟨v530,rfl,ho0,hb⟩;refine ⟨_,rfl,?_⟩;have ak:=aa (Kd.R_lower ho0 (ay (dM GE524.out GE525.out)));have n1_:=aa (aI (g:=gb524) (o:=.cells #[.slice A0_0 l0_0.length c0_0] 34 (0,0)) (aJ BK524.out) hb);have n2_:=aa (aI (g:=gb525) (o:=.cells #[.slice none 0 0] 34 (0,0)) (aJ BK525.out) hb);have n3_:=aa (aj (dM GE524.out GE525.out) hb);clear BK524 BK525 HB;have HO531:=ak;have BK524:=n1_;have BK525:=n2_;have HB:=n3_;clear ak n1_ n2_ n3_
    (try clear hb)
    (try clear hb2)
    (try clear hk)
    (try clear hi)
    (try clear ho0)
    obtain ⟨Ao18,co18,eo18⟩:=Kd.R_slice HO531.out
    (first|subst eo18|(injection eo18 with f1_ f2_ f3_;have f4_:=f1_.symm;have f5_:=f3_.symm;clear f1_ f2_ f3_;subst f4_;subst f5_))
    refine hK.out _ _ ((ah BK524.out 0).trans rfl) (λhHeld=>?_);clear hK K;refine eG ?_;refine aK 17 26 24 3932159 ?_;refine aK 18 27 24 4194303 ?_;refine aK 22 31 24 8388607 ?_;refine aK 23 32 24 16777215 ?_;refine iQ (jm HT_.out (by kernel_rfl)) ?_
    try go_wp2
    go_meet
    case rel=>exact ⟨_,(((wrap64 ((t529.length:Int)+1)) == (l0_0.length:Int))),ag,H',⟨dF⟩,⟨aJ BK524.out⟩,⟨aJ BK525.out⟩,⟨dM GE524.out GE525.out⟩⟩
   subst c9;have H':=aa H;clear H
   try go_wp2
   have ak:=aa (bS BK524.out);have n1_:=aa (bS BK525.out);have n2_:=aa (dw HB.out);clear BK524 BK525 HB;have BK524:=ak;have BK525:=n1_;have HB:=n2_;clear ak n1_ n2_;refine jf (n:=24) (S:=λw'=>w'.cell? ⟨gb524,0,none⟩=some (.slice A0_0 l0_0.length c0_0)) (ds:=[]) (fe 24 0) (by kernel_rfl) rfl (by kernel_rfl) ((ah BK524.out 0).trans rfl) (λhHeld=>?_);refine j5 eX.tab1 eX.bits1 (λHT_ HW_=>?_)
   generalize w5.drew=w19 at BK524 BK525 HB hHeld ⊢;refine il 0 9 24 1 ?_;refine fV 1 (some 10) 24 3 λK hK=>?_;refine gq Tryz.func61 (by kernel_rfl) rfl #[.agg #[.slice A0_0 l0_0.length c0_0]] (by rfl) rfl rfl g_ ?_
   with_reducible refine (dz.calls k _ _ l0_0 true _ ?s1 ?s2 A6.out).mono ?_
   (case s1=>exact bQ HR0_0.out)
   (case s2=>exact HC0_0.out)
   rintro e w20 ⟨rfl,hb⟩;refine ⟨_,rfl,?_⟩;have ak:=aa (aI (g:=gb524) (o:=.cells #[.slice A0_0 l0_0.length c0_0] 34 (0,0)) (aJ BK524.out) hb);have n1_:=aa (aI (g:=gb525) (o:=.cells #[.slice none 0 0] 34 (0,0)) (aJ BK525.out) hb);have n2_:=aa (aj (dM GE524.out GE525.out) hb);clear BK524 BK525 HB;have BK524:=ak;have BK525:=n1_;have HB:=n2_;clear ak n1_ n2_
   (try clear hb)
   (try clear hb2)
   (try clear hk)
   (try clear hi)
   refine hK.out _ _ ((ah BK524.out 0).trans rfl) (λhHeld=>?_);clear hK K;refine eG ?_;refine aK 2 11 24 7 ?_;refine aK 3 12 24 15 ?_;refine aK 4 13 24 31 ?_;refine fV 5 (some 14) 24 63 λK hK=>?_;refine gq Tryz.func216 (by kernel_rfl) rfl #[.int .i64 a1] (by rfl) rfl rfl g_ ?_
   with_reducible refine (lh.calls a1 false _ A8.out).mono ?_
   rintro e w' ⟨rfl,⟨nd,rfl⟩⟩;refine ⟨_,rfl,?_⟩;refine hK.out _ _ ((ah BK524.out 0).trans rfl) (λhHeld=>?_);clear hK K;refine eG ?_;refine aK 6 15 24 127 ?_;refine aK 7 16 24 255 ?_;refine aK 8 17 24 511 ?_;refine bF 9 18 24 1023 ?_;refine bF 10 19 24 2047 ?_;refine bF 11 20 24 4095 ?_;refine bF 12 21 24 8191 ?_;refine aK 13 22 24 16383 ?_;refine aK 14 23 24 32767 ?_;refine bF 15 24 24 65535 ?_;refine bF 16 25 24 131071 ?_;refine bF 17 26 24 262143 ?_;refine bF 18 27 24 524287 ?_;refine bF 19 28 24 1048575 ?_;refine bF 20 29 24 2097151 ?_;refine bF 21 30 24 4194303 ?_;refine bF 22 31 24 8388607 ?_;refine aK 23 32 24 16777215 ?_;refine iQ (jm HT_.out (by kernel_rfl)) ?_
   try go_wp2
   go_meet
   case rel=>exact ⟨_,(true),ag,H',⟨dF⟩,⟨aJ BK524.out⟩,⟨aJ BK525.out⟩,⟨dM GE524.out GE525.out⟩⟩
  subst c7;have H':=aa H;clear H
  try go_wp2
  have ak:=aa (bS BK524.out);have n1_:=aa (bS BK525.out);have n2_:=aa (dw HB.out);clear BK524 BK525 HB;have BK524:=ak;have BK525:=n1_;have HB:=n2_;clear ak n1_ n2_;refine jf (n:=24) (S:=λw'=>w'.cell? ⟨gb524,0,none⟩=some (.slice A0_0 l0_0.length c0_0)) (ds:=[]) (fe 24 0) (by kernel_rfl) rfl (by kernel_rfl) ((ah BK524.out 0).trans rfl) (λhHeld=>?_);refine j5 eX.tab1 eX.bits1 (λHT_ HW_=>?_)
  generalize w5.drew=w21 at BK524 BK525 HB hHeld ⊢;refine il 0 9 24 1 ?_;refine fV 1 (some 10) 24 3 λK hK=>?_;refine gq Tryz.func61 (by kernel_rfl) rfl #[.agg #[.slice A0_0 l0_0.length c0_0]] (by rfl) rfl rfl g_ ?_
  with_reducible refine (dz.calls k _ _ l0_0 false _ ?s1 ?s2 A6.out).mono ?_
  (case s1=>exact bQ HR0_0.out)
  (case s2=>exact HC0_0.out)
  rintro e w22 ⟨rfl,hb⟩;refine ⟨_,rfl,?_⟩;have ak:=aa (aI (g:=gb524) (o:=.cells #[.slice A0_0 l0_0.length c0_0] 34 (0,0)) (aJ BK524.out) hb);have n1_:=aa (aI (g:=gb525) (o:=.cells #[.slice none 0 0] 34 (0,0)) (aJ BK525.out) hb);have n2_:=aa (aj (dM GE524.out GE525.out) hb);clear BK524 BK525 HB;have BK524:=ak;have BK525:=n1_;have HB:=n2_;clear ak n1_ n2_
  (try clear hb)
  (try clear hb2)
  (try clear hk)
  (try clear hi)
  refine hK.out _ _ ((ah BK524.out 0).trans rfl) (λhHeld=>?_);clear hK K;refine eG ?_;refine aK 2 11 24 7 ?_;refine aK 3 12 24 15 ?_;refine bF 4 13 24 31 ?_;refine bF 5 14 24 63 ?_;refine bF 6 15 24 127 ?_;refine aK 7 16 24 255 ?_;refine aK 8 17 24 511 ?_;refine bF 9 18 24 1023 ?_;refine bF 10 19 24 2047 ?_;refine bF 11 20 24 4095 ?_;refine bF 12 21 24 8191 ?_;refine aK 13 22 24 16383 ?_;refine aK 14 23 24 32767 ?_;refine bF 15 24 24 65535 ?_;refine bF 16 25 24 131071 ?_;refine bF 17 26 24 262143 ?_;refine bF 18 27 24 524287 ?_;refine bF 19 28 24 1048575 ?_;refine bF 20 29 24 2097151 ?_;refine bF 21 30 24 4194303 ?_;refine bF 22 31 24 8388607 ?_;refine aK 23 32 24 16777215 ?_;refine iQ (jm HT_.out (by kernel_rfl)) ?_
  try go_wp2
  go_meet
  case rel=>exact ⟨_,(true),ag,H',⟨dF⟩,⟨aJ BK524.out⟩,⟨aJ BK525.out⟩,⟨dM GE524.out GE525.out⟩⟩
 case rest =>
  clear HC3;obtain ⟨kq,x32_2,rfl,HA,HJ2,BK524,BK525,HB⟩:=hcut;cases kq with
  | zero=>exact ak HA.out
  | succ kj2 =>
   have H:=HA.out;clear HA;simp only[eX.j0]at H;revert H;refine bA (λc23 H=>?_) λc23 H=>?_
   ·
    subst c23;obtain ⟨rfl,rfl,rfl⟩:=eD H;have hnb24:=NB525_524.out;have hnc24:=NB524_525.out;have hcz25_0:wc.cell? ⟨gb525,0,none⟩=some (.slice none 0 0):=(ah BK525.out 0).trans rfl;have hfz25_0:=au BK525.out 0;go_wp2;refine bodyPost_ret (sF rfl _ _ gb525 34 #[.slice none 0 0] (0,0) _ rfl (lm BK525.out) Tryz.underlying34 rfl (by kernel_rfl)) rfl ?_;exact ⟨_,aU,d9,dM GE524.out GE525.out⟩
   subst c23;obtain ⟨t532,A26,H⟩:=aA H;obtain ⟨⟨t536,t537⟩,A27,H⟩:=aA H;dsimp only at H;obtain ⟨rfl,rfl,rfl⟩:=eD H;have hnb28:=NB524_525.out;have hnc28:=NB525_524.out;have hcz29_0:wc.cell? ⟨gb524,0,none⟩=some (.slice A0_0 l0_0.length c0_0):=(ah BK524.out 0).trans rfl;have hfz29_0:=au BK524.out 0
   go_wp2_with (first|((with_reducible refine av 54 ?_);refine ax 35 Tryz.func54 #[.agg #[.slice A0_0 l0_0.length c0_0]] ?_;(with_reducible refine (kX.calls _ _ l0_0 t532 _ ?s1 ?s2 A26.out).mono ?_);(case s1=>exact bQ HR0_0.out);(case s2=>exact HC0_0.out);rintro e w30 ⟨v533,rfl,ho0,hb⟩;refine ⟨_,rfl,?_⟩;have HO534:=aa (Kd.R_lower ho0 (ay (dM GE524.out GE525.out)));replace BK524:=aa (aI (g:=gb524) (o:=.cells #[.slice A0_0 l0_0.length c0_0] 34 (0,0)) (aJ BK524.out) hb);replace BK525:=aa (aI (g:=gb525) (o:=.cells #[.slice none 0 0] 34 (0,0)) (aJ BK525.out) hb);replace HB:=aa (aj (dM GE524.out GE525.out) hb);clear hb ho0)|((with_reducible refine dm 7 ?_);(try (refine kZ (by rfl) ?_;dsimp only));refine fJ #[.slice none 0 0] 34 ?_;intro gb535 hg w31 hbox hb;replace HO534:=aa (Kd.R_below (ai HO534.out) hb);have BK535:=aa (hbox);have GW535:=aa ((by rw[hg];exact (ay (dM GE524.out GE525.out)):w.heap.size<=gb535));have GE535:=aa ((by rw[hg];exact (ay (dM GE524.out GE525.out)):w.heap.size<=gb535));have NB524_535:=aa ((by rw[hg];exact Nat.ne_of_lt (dC (g:=gb524) (o:=.cells #[.slice A0_0 l0_0.length c0_0] 34 (0,0)) (aJ BK524.out)):gb524≠gb535));have NB535_524:=aa ((by rw[hg];exact Nat.ne_of_gt (dC (g:=gb524) (o:=.cells #[.slice A0_0 l0_0.length c0_0] 34 (0,0)) (aJ BK524.out)):gb535≠gb524));replace BK524:=aa (aI (g:=gb524) (o:=.cells #[.slice A0_0 l0_0.length c0_0] 34 (0,0)) (aJ BK524.out) hb);have NB525_535:=aa ((by rw[hg];exact Nat.ne_of_lt (dC (g:=gb525) (o:=.cells #[.slice none 0 0] 34 (0,0)) (aJ BK525.out)):gb525≠gb535));have NB535_525:=aa ((by rw[hg];exact Nat.ne_of_gt (dC (g:=gb525) (o:=.cells #[.slice none 0 0] 34 (0,0)) (aJ BK525.out)):gb535≠gb525));replace BK525:=aa (aI (g:=gb525) (o:=.cells #[.slice none 0 0] 34 (0,0)) (aJ BK525.out) hb);replace HB:=aa (aj (dM GE524.out GE525.out) hb);clear hb hbox hg;obtain ⟨Ao32,co32,eo32⟩:=Kd.R_slice HO534.out;subst eo32;have hnb33:=NB535_524.out;have hnc33:=NB524_535.out;have hnb34:=NB535_525.out;have hnc34:=NB525_535.out;have hcz35_0:w31.cell? ⟨gb535,0,none⟩=some (.slice none 0 0):=(ah BK535.out 0).trans rfl;have hfz35_0:=au BK535.out 0)|((with_reducible refine jh (t:=34) (p:=7) rfl ?_);refine jF (t:=34) (p:=7) (v:=?vo_w36) (w1:=(w31.setCell ⟨gb535,0,none⟩ (.slice Ao32 t532.length co32))) ?hg ?ho ?hn ?hr ?_;(case ho=>rfl);(case hg=>rfl);(case hn=>rfl);(case hr=>exact eO);intro w36 hw;have ak:ae (Kd.R (Kd.int .i64) 3 w36 w.heap.size (λ_=>True) (.slice Ao32 t532.length co32) t532):=⟨(by rw[hw];exact (by (with_reducible repeat (first|apply Kd.R_alloc|apply Kd.R_drewN|apply Kd.R_drew));exact Kd.R_mono (Kd.R_far (p:=⟨gb535,0,none⟩) (Kd.R_types HO534.out BK535.out (by decide)) (λ_ hk=>hk.2) (.slice Ao32 t532.length co32)) (λ_ hk=>trivial)))⟩;have n1_:ae (w36.heap[gb524]?=some (.cells #[.slice A0_0 l0_0.length c0_0] 34 (0,0))):=⟨(by rw[hw];exact (oJ NB524_535.out BK524.out))⟩;have n2_:ae (w36.heap[gb525]?=some (.cells #[.slice none 0 0] 34 (0,0))):=⟨(by rw[hw];exact (oJ NB525_535.out BK525.out))⟩;have n3_:ae (w36.heap[gb535]?=some (.cells #[.slice Ao32 t532.length co32] 34 (0,0))):=⟨(by rw[hw];exact (lm BK535.out))⟩;have n4_:ae (Below w.heap.size w w36):=⟨(by rw[hw];exact (ow GE524.out GE525.out GE535.out))⟩;clear hw;clear HO534;clear BK524;clear BK525;clear BK535;clear HB;have HO534:=ak;have BK524:=n1_;have BK525:=n2_;have BK535:=n3_;have HB:=n4_;clear ak n1_ n2_ n3_ n4_;have hcz37_0:w36.cell? ⟨gb535,0,none⟩=some (.slice Ao32 t532.length co32):=(ah BK535.out 0).trans rfl;have hfz37_0:=au BK535.out 0)|((with_reducible refine av 218 ?_);refine ax 38 Tryz.func218 #[.agg #[.slice Ao32 t532.length co32],.int .i64 a1] ?_;(with_reducible refine (jr.calls kj2 (λk_=>some k_=(.slice Ao32 t532.length co32:Value).ownBlock) (.slice Ao32 t532.length co32) t532 a1 t536 t537 w _ ?s1 ?s2 A27.out).mono ?_);(case s1=>exact ow GE524.out GE525.out GE535.out);(case s2=>exact Kd.R_tight rfl HO534.out);rintro e w38 ⟨rfl,hy0,hb,hkp⟩;refine ⟨_,rfl,?_⟩;replace BK524:=aa (oK (aJ BK524.out) hkp (λhs_=>(λe_=>(Kd.R_ne HO534.out BK524.out (by decide)) e_) hs_));replace BK525:=aa (oK (aJ BK525.out) hkp (λhs_=>(λe_=>(Kd.R_ne HO534.out BK525.out (by decide)) e_) hs_));replace BK535:=aa (oK (aJ BK535.out) hkp (λhs_=>(λe_=>(Kd.R_ne HO534.out BK535.out (by decide)) e_) hs_));replace HO534:=aa (Kd.R_reok rfl hy0 (λk_ e_=>HO534.out.1 k_ e_));replace HB:=aa (hb);clear hb;(try clear hkp);(try clear hy0);have hcz39_0:w38.cell? ⟨gb535,0,none⟩=some (.slice Ao32 t532.length co32):=(ah BK535.out 0).trans rfl;have hfz39_0:=au BK535.out 0;have hcz40_0:w38.cell? ⟨gb525,0,none⟩=some (.slice none 0 0):=(ah BK525.out 0).trans rfl;have hfz40_0:=au BK525.out 0))
   refine bodyPost_ret (sF rfl _ _ gb525 34 #[.slice Ao32 t532.length co32] (0,0) _ rfl (lm BK525.out) Tryz.underlying34 rfl (by kernel_rfl)) rfl ?_;exact ⟨_,aU,by (with_reducible repeat (first|apply Kd.R_alloc|apply Kd.R_drewN|apply Kd.R_drew));exact Kd.R_mono (Kd.R_far (p:=⟨gb525,0,none⟩) (Kd.R_types HO534.out BK525.out (by decide)) (λ_ hk=>hk.2) (.slice Ao32 t532.length co32)) (λ_ hk=>trivial),ow GE524.out GE525.out GE535.out⟩
def iW.j0:Nat->Int->Bool->List Int->Option (Int × Int × Bool)
 | 0,_,_,_=>none
 | k+1,x1,x22,x539000=>if x22=true then (some (0,0,false))else ((fU.f k x539000 x1).bind λt542=>((jO.f x539000 t542).bind λt543=>(some (t542,t543,true))))
def iW.f(k:Nat)(l0_0:List Int)(a1:Int):Option (Int × Int × Bool):=(dz.f k l0_0).bind λt539=>(if t539=true then ((lh.f a1).bind λt540=>(if t540=true then ((gP.f k l0_0 a1).bind λt541=>(iW.j0 k a1 (!t541) l0_0))else (iW.j0 k a1 true l0_0)))else (iW.j0 k a1 true l0_0))
theorem iW.calls(k:Nat)(A0_0:Option Addr)(c0_0:Nat)(l0_0:List Int)(a1:Int)(r1:Int)(r2:Int)(r3:Bool)(w:World)(hr0_0:Kd.C (Kd.int .i64) w A0_0 l0_0.length l0_0)(hc0_0:l0_0.length<=c0_0)(h:iW.f k l0_0 a1=some (r1,r2,r3)) :
  Calls Tryz.prog 157 #[.agg #[.slice A0_0 l0_0.length c0_0],.int .i64 a1] w λe w'=>e=.returned (.tuple #[.int .i64 r1,.int .i64 r2,.bool r3])/\Below w.heap.size w w':=by
 have hu34:=Tryz.underlying34;have HR0_0:=aa hr0_0;have HC0_0:=aa hc0_0;clear hr0_0 hc0_0;have HB:=aa (Below.refl w.heap.size w);unfold iW.f at h;have H:=h;clear h;have HC3:=aa H;clear H;go_enter Tryz.func157,Tryz.ntmps157
 go_upto_region 1 with (first|((with_reducible refine dm 2 ?_);refine fJ #[.slice A0_0 l0_0.length c0_0] 34 ?_;intro gb538 hg w4 hbox hb;have BK538:=aa (hbox);have GW538:=aa ((by rw[hg];exact (ay af):w.heap.size<=gb538));have GE538:=aa ((by rw[hg];exact (ay af):w.heap.size<=gb538));replace HB:=aa (aj af hb);clear hb hbox hg))
 (try simp only[Act.put,List.setIfInBounds_toArray,List.set_cons_zero,List.set_cons_succ])
 go_cut [22] (λv22 wc=>∃ (kq:Nat) (x22_2:Bool),v22=.bool x22_2/\ae (iW.j0 kq a1 x22_2 l0_0=some (r1,r2,r3))/\ae (kq<=k)/\ae (wc.heap[gb538]?=some (.cells #[(.slice A0_0 l0_0.length c0_0)] 34 (0,0)))/\ae (Below w.heap.size w wc))
 case first =>
  have H:=HC3.out;clear HC3;obtain ⟨t539,A5,H⟩:=aA H;revert H;refine bA (λc6 H=>?_) λc6 H=>?_
  ·
   subst c6;obtain ⟨t540,A7,H⟩:=aA H;revert H;refine bA (λc8 H=>?_) λc8 H=>?_
   ·
    subst c8;obtain ⟨t541,A9,H⟩:=aA H;have H':=aa H;clear H;have hcz10_0:w4.cell? ⟨gb538,0,none⟩=some (.slice A0_0 l0_0.length c0_0):=(ah BK538.out 0).trans rfl;have hfz10_0:=au BK538.out 0;go_wp2_with (first|((with_reducible refine av 61 ?_);refine ax 9 Tryz.func61 #[.agg #[.slice A0_0 l0_0.length c0_0]] ?_;(with_reducible refine (dz.calls k _ _ l0_0 true _ ?s1 ?s2 A5.out).mono ?_);(case s1=>exact bQ HR0_0.out);(case s2=>exact HC0_0.out);rintro e w11 ⟨rfl,hb⟩;refine ⟨_,rfl,?_⟩;replace BK538:=aa (aI (g:=gb538) (o:=.cells #[.slice A0_0 l0_0.length c0_0] 34 (0,0)) (aJ BK538.out) hb);replace HB:=aa (aj (aY GE538.out) hb);clear hb)|(go_at_call 216;(with_reducible refine (lh.calls a1 true _ A7.out).mono ?_);rintro e w' ⟨rfl,⟨nd,rfl⟩⟩;have hcz12_0:w11.cell? ⟨gb538,0,none⟩=some (.slice A0_0 l0_0.length c0_0):=(ah BK538.out 0).trans rfl;have hfz12_0:=au BK538.out 0)|(go_at_call 96;(with_reducible refine (gP.calls k _ _ l0_0 a1 t541 _ ?s1 ?s2 A9.out).mono ?_);(case s1=>exact kL HR0_0.out GE538.out);(case s2=>exact HC0_0.out);rintro e w' ⟨rfl,⟨nd,rfl⟩⟩));go_meet
    case rel=>exact ⟨_,(!t541),ag,H',⟨dF⟩,⟨aJ BK538.out⟩,⟨aY GE538.out⟩⟩
   subst c8;have H':=aa H;clear H;have hcz13_0:w4.cell? ⟨gb538,0,none⟩=some (.slice A0_0 l0_0.length c0_0):=(ah BK538.out 0).trans rfl;have hfz13_0:=au BK538.out 0;go_wp2_with (first|((with_reducible refine av 61 ?_);refine ax 9 Tryz.func61 #[.agg #[.slice A0_0 l0_0.length c0_0]] ?_;(with_reducible refine (dz.calls k _ _ l0_0 true _ ?s1 ?s2 A5.out).mono ?_);(case s1=>exact bQ HR0_0.out);(case s2=>exact HC0_0.out);rintro e w14 ⟨rfl,hb⟩;refine ⟨_,rfl,?_⟩;replace BK538:=aa (aI (g:=gb538) (o:=.cells #[.slice A0_0 l0_0.length c0_0] 34 (0,0)) (aJ BK538.out) hb);replace HB:=aa (aj (aY GE538.out) hb);clear hb)|(go_at_call 216;(with_reducible refine (lh.calls a1 false _ A7.out).mono ?_);rintro e w' ⟨rfl,⟨nd,rfl⟩⟩));go_meet
   case rel=>exact ⟨_,(true),ag,H',⟨dF⟩,⟨aJ BK538.out⟩,⟨aY GE538.out⟩⟩
  subst c6;have H':=aa H;clear H;have hcz15_0:w4.cell? ⟨gb538,0,none⟩=some (.slice A0_0 l0_0.length c0_0):=(ah BK538.out 0).trans rfl;have hfz15_0:=au BK538.out 0;go_wp2_with (first|((with_reducible refine av 61 ?_);refine ax 9 Tryz.func61 #[.agg #[.slice A0_0 l0_0.length c0_0]] ?_;(with_reducible refine (dz.calls k _ _ l0_0 false _ ?s1 ?s2 A5.out).mono ?_);(case s1=>exact bQ HR0_0.out);(case s2=>exact HC0_0.out);rintro e w16 ⟨rfl,hb⟩;refine ⟨_,rfl,?_⟩;replace BK538:=aa (aI (g:=gb538) (o:=.cells #[.slice A0_0 l0_0.length c0_0] 34 (0,0)) (aJ BK538.out) hb);replace HB:=aa (aj (aY GE538.out) hb);clear hb));go_meet
  case rel=>exact ⟨_,(true),ag,H',⟨dF⟩,⟨aJ BK538.out⟩,⟨aY GE538.out⟩⟩
 case rest =>
  clear HC3;obtain ⟨kq,x22_2,rfl,HA,HJ2,BK538,HB⟩:=hcut;cases kq with
  | zero=>exact ak HA.out
  | succ kj2 =>
   have H:=HA.out;clear HA;simp only[iW.j0]at H;revert H;refine bA (λc17 H=>?_) λc17 H=>?_
   ·
    subst c17;obtain ⟨rfl,rfl,rfl⟩:=eD H;go_wp2;go_ret3;exact ⟨aU,aY GE538.out⟩
   subst c17;obtain ⟨t542,A18,H⟩:=aA H;obtain ⟨t543,A19,H⟩:=aA H;obtain ⟨rfl,rfl,rfl⟩:=eD H;have hcz20_0:wc.cell? ⟨gb538,0,none⟩=some (.slice A0_0 l0_0.length c0_0):=(ah BK538.out 0).trans rfl;have hfz20_0:=au BK538.out 0;go_wp2_with (first|((with_reducible refine av 166 ?_);refine ax 26 Tryz.func166 #[.slice A0_0 l0_0.length c0_0,.int .i64 a1] ?_;(with_reducible refine (fU.calls kj2 _ _ l0_0 a1 t542 _ ?s1 ?s2 A18.out).mono ?_);(case s1=>exact bQ HR0_0.out);(case s2=>exact HC0_0.out);rintro e w' ⟨rfl,⟨nd,rfl⟩⟩;refine ⟨_,rfl,?_⟩)|((with_reducible refine av 97 ?_);refine ax 30 Tryz.func97 #[.agg #[.slice A0_0 l0_0.length c0_0],.int .i64 t542] ?_;(with_reducible refine (jO.calls _ _ l0_0 t542 t543 _ ?s1 ?s2 A19.out).mono ?_);(case s1=>exact kL HR0_0.out GE538.out);(case s2=>exact HC0_0.out);rintro e w21 ⟨rfl,hb⟩;refine ⟨_,rfl,?_⟩;replace BK538:=aa (aI (g:=gb538) (o:=.cells #[.slice A0_0 l0_0.length c0_0] 34 (0,0)) (aJ BK538.out) hb);replace HB:=aa (aj (aY GE538.out) hb);clear hb));go_ret3;exact ⟨aU,aY GE538.out⟩
def qC.l0:Nat->List Int->List Int->Int->Option (Bool)
 | 0,_,_,_=>none
 | k+1,x0,x1,x5=>if x5<(x0.length:Int)then (if 0<=x5 then (if x5<(x1.length:Int)then (if (rd x0 x5)=(rd x1 x5)then (qC.l0 k x0 x1 (wrap64 (x5+1)))else (some false))else (none))else (none))else (some true)
def qC.f(k:Nat)(l0:List Int)(l1:List Int):Option (Bool):=if (l0.length:Int)=(l1.length:Int)then (qC.l0 k l0 l1 0)else (some false)
def qD.l0:Nat->List Int->Int->Int->Option (Int × List Int)
 | 0,_,_,_=>none
 | k+1,x0,x1,x5=>if x5<(x0.length:Int)then (if 0<=x5 then (qD.l0 k (x0.set (x5:Int).toNat x1) (wrap64 (x1+1)) (wrap64 (x5+1)))else (none))else (some (x1,x0))
def qD.f(k:Nat)(l0:List Int)(a1:Int):Option (Int × List Int):=qD.l0 k l0 a1 0
def qj.l0:Nat->List Int->Int->Int->Option (Int)
 | 0,_,_,_=>none
 | k+1,x0,x1,x5=>if x5<(x0.length:Int)then (if 0<=x5 then (if (rd x0 x5)=x1 then (qj.l0 k x0 (wrap64 (x1+1)) (wrap64 (x5+1)))else (some (-1)))else (none))else (some x1)
def qj.f(k:Nat)(l0:List Int)(a1:Int):Option (Int):=qj.l0 k l0 a1 0
def vG.l0:Nat->List ByteArray->List ByteArray->Int->Option (Bool)
 | 0,_,_,_=>none
 | k+1,x0,x1,x5=>if x5<(x0.length:Int)then (if 0<=x5 then (if x5<(x1.length:Int)then (if (dS ByteArray.empty x0 x5).toList=(dS ByteArray.empty x1 x5).toList then (vG.l0 k x0 x1 (wrap64 (x5+1)))else (some false))else (none))else (none))else (some true)
def vG.f(k:Nat)(l0:List ByteArray)(l1:List ByteArray):Option (Bool):=if (l0.length:Int)=(l1.length:Int)then (vG.l0 k l0 l1 0)else (some false)
def qA.l0:Nat->Int->ByteArray->Option (ByteArray)
 | 0,_,_=>none
 | k+1,x0,x3=>if x0>0 then ((some (([(wrap64 (48+(Int.tmod x0 10))) % 256]:List Int):List Int)).bind λy565=>(if (strOfNums y565).size+x3.size<=9223372036854775807 then (qA.l0 k (wrap64 (Int.tdiv x0 10)) ((strOfNums y565)++x3))else (none)))else (if 1+x3.size<=9223372036854775807 then (some ((⟨#[109]⟩:ByteArray)++x3))else (none))
def qA.f(k:Nat)(a0:Int):Option (ByteArray):=if a0<=0 then (some (⟨#[109,48]⟩:ByteArray))else (qA.l0 k a0 (⟨#[]⟩:ByteArray))
def ut.l0:Nat->List ByteArray->Int->Int->Option (Int × List ByteArray)
 | 0,_,_,_=>none
 | k+1,x0,x1,x5=>if x5<(x0.length:Int)then ((qA.f k x1).bind λt568=>(if 0<=x5 then (ut.l0 k (x0.set (x5:Int).toNat t568) (wrap64 (x1+1)) (wrap64 (x5+1)))else (none)))else (some (x1,x0))
def ut.f(k:Nat)(l0:List ByteArray)(a1:Int):Option (Int × List ByteArray):=ut.l0 k l0 a1 0
def uu.l0:Nat->List ByteArray->Int->Int->Option (Int)
 | 0,_,_,_=>none
 | k+1,x0,x1,x5=>if x5<(x0.length:Int)then (if 0<=x5 then ((qA.f k x1).bind λt571=>(if (dS ByteArray.empty x0 x5).toList=t571.toList then (uu.l0 k x0 (wrap64 (x1+1)) (wrap64 (x5+1)))else (some (-1))))else (none))else (some x1)
def uu.f(k:Nat)(l0:List ByteArray)(a1:Int):Option (Int):=uu.l0 k l0 a1 0
def nT.f(l0_0:List Int)(l0_1:List Int):Option (List Int × List Int):=(fH.f l0_0).bind λt574=>((fH.f l0_1).bind λt577=>(some (t574,t577)))
def nT.T1:Bool × List (List Nat × List Nat):=(true,[([],[]),([0],[0]),([1],[1]),([],[]),([3],[3]),([4],[4]),([5,2],[5]),([6],[6]),([2,7],[2,7]),([8,6,0,1,2,3,4,5,6,7,8],[8])])
def nT.B1:List Nat:=[0,1,3,0,8,24,63,127,255,511]
theorem nT.tab1:dQ .any (opsOf Tryz.f41 1)=nT.T1:=by kernel_rfl
theorem nT.bits1:jv nT.T1.2 nT.B1=true:=by kernel_rfl
def Cv.f(k:Nat)(l0_0:List Int)(l1_0:List Int):Option (Bool):=(qC.f k l0_0 l1_0).bind λt582=>(if t582=true then (some true)else (some false))
def JP.f(k:Nat)(l0_0:List Int)(l0_1:List Int)(l1_0:List Int)(l1_1:List Int):Option (Bool):=(qC.f k l0_0 l1_0).bind λt585=>(if t585=true then ((Cv.f k l0_1 l1_1).bind λt586=>(if t586=true then (some true)else (some false)))else (some false))
def Hw.f(k:Nat)(l0_0:List Int)(a1:Int):Option (Int × List Int):=(qD.f k l0_0 a1).bind λbt588=>(some (bt588.1,bt588.2))
def JU.f(k:Nat)(l0_0:List Int)(l0_1:List Int)(a1:Int):Option (Int × List Int × List Int):=(qD.f k l0_0 a1).bind λbt591=>((Hw.f k l0_1 bt591.1).bind λbt593=>(some (bt593.1,bt591.2,bt593.2)))
def Bv.f(k:Nat)(l0_0:List Int)(a1:Int):Option (Int):=(qj.f k l0_0 a1).bind λt596=>(if t596<0 then (some (-1))else (some t596))
def JV.f(k:Nat)(l0_0:List Int)(l0_1:List Int)(a1:Int):Option (Int):=(qj.f k l0_0 a1).bind λt598=>(if t598<0 then (some (-1))else ((Bv.f k l0_1 t598).bind λt599=>(if t599<0 then (some (-1))else (some t599))))
def xx.f(l0:List Int)(a1:Int):Option (Int):=if (wrap64 (a1 - (l0.length:Int)))<0 then (some (-1))else (some (wrap64 (a1 - (l0.length:Int))))
def Io.f(l0_0:List Int)(a1:Int):Option (Int):=(xx.f l0_0 a1).bind λt601=>(if t601<0 then (some (-1))else (some t601))
def JR.f(l0_0:List Int)(l0_1:List Int)(a1:Int):Option (Int):=(xx.f l0_0 a1).bind λt603=>(if t603<0 then (some (-1))else ((Io.f l0_1 t603).bind λt604=>(if t604<0 then (some (-1))else (some t604))))
def JQ.f(k:Nat)(l0_0:List Int)(l0_1:List Int):Option (Bool):=(iL.f k l0_0).bind λt606=>(if t606=true then ((cZ.f k l0_1).bind λt607=>(some t607))else (some false))
mutual
def bE.l0:Nat->List Int->Int->Int->List Int->Int->Int->Option (Int)
 | 0,_,_,_,_,_,_=>none
 | k+1,x0,x1,x5,x6,x7,x8=>if x8<x1 then (bE.l1 k x0 x1 x5 x6 x7 x8 x0 (x0.length:Int) 0)else (if 0<=x5 then (if x5<(x6.length:Int)then (some (rd x6 x5))else (none))else (none))
def bE.l1:Nat->List Int->Int->Int->List Int->Int->Int->List Int->Int->Int->Option (Int)
 | 0,_,_,_,_,_,_,_,_,_=>none
 | k+1,x0,x1,x5,x6,x7,x8,x29,x30,x31=>if x31<x30 then (if 0<=x31 then (if x31<(x29.length:Int)then (if (rd x29 x31)=x8 then (bE.l1 k x0 x1 x5 x6 (wrap64 (x7+1)) x8 x29 x30 (wrap64 (x31+1)))else (bE.l1 k x0 x1 x5 x6 x7 x8 x29 x30 (wrap64 (x31+1))))else (none))else (none))else (if 0<=(wrap64 (x5+1))then (if (wrap64 (x5+1):Int).toNat<=35184372088832 then (bE.l2 k x0 x1 x5 x7 x8 (List.replicate (wrap64 (x5+1):Int).toNat 0) x6 (x6.length:Int) 0)else (none))else (none))
def bE.l2:Nat->List Int->Int->Int->Int->Int->List Int->List Int->Int->Int->Option (Int)
 | 0,_,_,_,_,_,_,_,_,_=>none
 | k+1,x0,x1,x5,x7,x8,x11,x44,x45,x46=>if x46<x45 then (if 0<=x46 then (if x46<(x44.length:Int)then (bE.l3 k x0 x1 x5 x7 x8 x11 x46 (rd x44 x46) 0 x44 x45 x46)else (none))else (none))else (bE.l0 k x0 x1 x5 x11 x7 (wrap64 (x8+1)))
def bE.l3:Nat->List Int->Int->Int->Int->Int->List Int->Int->Int->Int->List Int->Int->Int->Option (Int)
 | 0,_,_,_,_,_,_,_,_,_,_,_,_=>none
 | k+1,x0,x1,x5,x7,x8,x11,x12,x13,x14,x44,x45,x46=>if (wrap64 (x12+x14))<=x5 then (if (wrap64 ((wrap64 (x7+x12))+x14))>x8 then (if 0<=(wrap64 (x12+x14))then (if (wrap64 (x12+x14))<(x11.length:Int)then ((fP.f k (wrap64 (x5 - x12)) x14).bind λt165=>(bE.l3 k x0 x1 x5 x7 x8 (x11.set ((wrap64 (x12+x14)):Int).toNat (wrap64 ((rd x11 (wrap64 (x12+x14)))+(wrap64 (x13 * t165))))) x12 x13 (wrap64 (x14+1)) x44 x45 x46))else (none))else (none))else (bE.l3 k x0 x1 x5 x7 x8 x11 x12 x13 (wrap64 (x14+1)) x44 x45 x46))else (bE.l2 k x0 x1 x5 x7 x8 x11 x44 x45 (wrap64 (x46+1)))
end
def bE.f(k:Nat)(l0:List Int)(a1:Int):Option (Int):=if 0<=(wrap64 ((wrap64 (a1 - (l0.length:Int)))+1))then (if (wrap64 ((wrap64 (a1 - (l0.length:Int)))+1):Int).toNat<=35184372088832 then ((some (List.replicate (wrap64 ((wrap64 (a1 - (l0.length:Int)))+1):Int).toNat 0:List Int)).bind λy154=>(if 0<(y154.length:Int)then (bE.l0 k l0 a1 (wrap64 (a1 - (l0.length:Int))) (y154.set (0:Int).toNat 1) 0 0)else (none)))else (none))else (none)
def bE.T22:Bool × List (List Nat × List Nat):=(true,[([],[]),([],[]),([],[]),([1,2],[1,2]),([0,3],[0,3]),([4],[4]),([],[]),([],[]),([],[]),([7,8],[7,8]),([],[]),([9,10],[9,10]),([6,11],[6,11]),([5,12],[5,12]),([0,3,0,1,2,3,4,5,6,7,8,9,10,11,12,13],[0,3]),([14,13,11,0,1,2,3,4,5,6,7,8,9,10,11,12,13],[13,14])])
def bE.B22:List Nat:=[0,0,0,6,15,31,0,0,0,384,0,1920,4032,8191,16383,32767]
theorem bE.tab22:dQ .any (opsOf Tryz.f188 22)=bE.T22:=by kernel_rfl
theorem bE.bits22:jv bE.T22.2 bE.B22=true:=by kernel_rfl
theorem bE.calls(k:Nat)(A0:Option Addr)(c0:Nat)(l0:List Int)(a1:Int)(r:Int)(w:World)(hr0:Kd.C (Kd.int .i64) w A0 l0.length l0)(hc0:l0.length<=c0)(h:bE.f k l0 a1=some r) :
  Calls Tryz.prog 188 #[.slice A0 l0.length c0,.int .i64 a1] w λe w'=>e=.returned (.int .i64 r)/\Below w.heap.size w w':=by
 have HR0:=aa hr0;have HC0:=aa hc0;clear hr0 hc0;have HB:=aa (Below.refl w.heap.size w);unfold bE.f at h;have H:=h;clear h;obtain ⟨ji3,hji3⟩:∃j_:Int,(wrap64 ((wrap64 (a1 - (l0.length:Int)))+1))=j_:=⟨_,rfl⟩;replace H:(if 0<=(ji3)then (if (ji3:Int).toNat<=35184372088832 then ((some (List.replicate (ji3:Int).toNat 0:List Int)).bind λy154=>(if 0<(y154.length:Int)then (bE.l0 k l0 a1 (wrap64 (a1 - (l0.length:Int))) (y154.set (0:Int).toNat 1) 0 0)else (none)))else (none))else (none))=some r:=sS;have hji3w:(IntKind.i64.wrap ((wrap64 (a1 - (l0.length:Int)))+1))=ji3:=(cO _).trans hji3;revert H;refine dI λc4b0 c4b1 H=>?_;revert H;refine dI λc5b0 c5b1 H=>?_;obtain ⟨y154,hy154⟩:=bv ((List.replicate (ji3:Int).toNat 0):List Int);replace H:(if 0<(y154.length:Int)then (bE.l0 k l0 a1 (wrap64 (a1 - (l0.length:Int))) (y154.set (0:Int).toNat 1) 0 0)else (none))=some r:=bu hy154 H;have Ny154:=aa hy154;clear hy154;revert H;refine bZ λc6 H=>?_;have c6b0:=decide_eq_true c6;have c6b1:decide (0<y154.length)=true:=decide_eq_true (by omega);clear c6;obtain ⟨y157,hy157⟩:=bv ((y154.set (0:Int).toNat 1):List Int);replace H:(bE.l0 k l0 a1 (wrap64 (a1 - (l0.length:Int))) y157 0 0)=some r:=bu hy157 H;have Ny157:=aa hy157;clear hy157;have H':=aa H;clear H;go_enter Tryz.func188,Tryz.ntmps188;go_wp2_with (first|((with_reducible refine dm 21 ?_);refine Kd.R_make (Kd.int .i64) _ 3 rfl (N:=21) rfl 22 _ _ rfl ji3 rfl rfl Tryz.underlying22 (.int .i64 0) 8 info3 rfl (by decide) (by omega) 0 (ok:=λ_=>True) (okp:=λ_=>True) rfl (λ_ hk=>hk) trivial (of_decide_eq_true aD) (Nat.le_trans (Nat.mul_le_mul_right _ (of_decide_eq_true aD:ji3.toNat<=35184372088832)) (by omega)) (Below.refl _ _) (Nat.le_refl _) ?_;intro v155 w8 ho9 hb hg_ hnew_;clear hg_ hnew_;(first|rw[<- Ny154.out]at ho9|(simp only[Int.reduceToNat]at ho9;rw[<- Ny154.out]at ho9));have HO156:=aa (Kd.R_lower ho9 (ay af));replace HB:=aa (aj af hb);clear hb ho9;have p7:0<=(0:Int):=(by omega);have q7:(0:Int)<((y154.length:Int):Int):=of_decide_eq_true aD;have qi7:(0<y154.length)=True:=eq_true (by omega);obtain ⟨go7,co7,eo7,gb7,gl7,cl7,HG7⟩:=Kd.R_form HO156.out (by omega);(first|cases eo7|(injection eo7 with ea_ en_ ec_;(first|subst ea_|(injection ea_ with ea_;subst ea_));subst ec_;clear en_));have GB7:=aa gb7;have GG7:=aa HG7;clear gb7 gl7 HG7;obtain ⟨hx7_0,hf7_0⟩:=Kd.R_celln 0 HO156.out (0:Int) p7 q7;(try rw[show ((0:Int)).toNat=0 from rfl]at hx7_0);(try simp only[Nat.reduceMul,Nat.zero_mul,Nat.zero_add,Nat.reduceAdd]at hx7_0);(try rw[show ((0:Int)).toNat=0 from rfl]at hf7_0);(try simp only[Nat.reduceMul,Nat.zero_mul,Nat.zero_add,Nat.reduceAdd]at hf7_0);replace p7:=eq_true p7;replace q7:=eq_true q7;obtain ⟨hy10_,hz10_⟩:=Kd.R_celln 0 HO156.out (0:Int) (by omega) (of_decide_eq_true aD);(try simp only[Int.reduceToNat,Int.toNat_zero,Int.toNat_ofNat,Nat.reduceMul,Nat.zero_mul,Nat.zero_add]at hy10_ hz10_);(try rw[show ((0:Int)).toNat=0 from rfl]at hy10_);(try rw[show ((0:Int)).toNat=0 from rfl]at hz10_);have HP10:=Kd.R_putg HO156.out (0:Int) 1)|((with_reducible refine jh (t:=3) (p:=23) rfl ?_);refine jF (t:=3) (p:=23) (v:=?vo_w11) (w1:=(w8.setCell ⟨go7,(0:Int).toNat,none⟩ (.int .i64 1))) ?hg ?ho ?hn ?hr ?_;(case ho=>rfl);(case hg=>rfl);(case hn=>rfl);(case hr=>exact eO);intro w11 hw;have hg:w8.grownBy w11 (some go7):=(by rw[hw];exact HP10.2);have hp_:Kd.R (Kd.int .i64) 3 w11 w.heap.size (λ_=>True) (.slice (some ⟨go7,0,none⟩) y154.length co7) y157:=(by rw[hw,Ny157.out];exact HP10.1);clear HP10;replace HO156:=aa (hp_);replace HB:=aa ((by rw[hw];exact bf (HB.out) GB7.out:Below w.heap.size w w11));clear hg hw hp_))
 go_loopg [6,7,8] k (λkq v6 v7 v8 w'=>∃ (x6_1:List Int) (x7_1:Int) (x8_1:Int),v7=.int .i64 x7_1/\v8=.int .i64 x8_1/\ae (bE.l0 kq l0 a1 (wrap64 (a1 - (l0.length:Int))) x6_1 x7_1 x8_1=some r)/\ae (kq<=k)/\ae (Kd.R (Kd.int .i64) 3 w' w.heap.size (λ_=>True) v6 x6_1)/\ae (Below w.heap.size w w'))
 case atStart=>exact ⟨(y157),(0),(0),ag,ag,H',⟨Nat.le_refl _⟩,⟨ai HO156.out⟩,⟨af⟩⟩
 case round =>
  clear H';obtain ⟨x6_1,x7_1,x8_1,rfl,rfl,HA,HK1,HO_6,HB⟩:=hrel;cases gk with
  | zero=>exact ak HA.out
  | succ k1 =>
   have H:=HA.out;clear HA;simp only[bE.l0]at H;revert H;refine bi (λc12b0 H=>?_) λc12b0 H=>?_
   ·
    have H':=aa H;clear H;go_wp2
    go_loopg [7,31] k1 (λkq v7 v31 w'=>∃ (x7_2:Int) (x31_2:Int),v7=.int .i64 x7_2/\v31=.int .i64 x31_2/\ae (bE.l1 kq l0 a1 (wrap64 (a1 - (l0.length:Int))) x6_1 x7_2 x8_1 l0 (l0.length:Int) x31_2=some r)/\ae (kq<=k1)/\ae (Kd.R (Kd.int .i64) 3 w' w.heap.size (λ_=>True) u6 x6_1)/\ae (Below w.heap.size w w'))
    case atStart=>exact ⟨(x7_1),(0),ag,ag,H',⟨Nat.le_refl _⟩,⟨ai HO_6.out⟩,⟨af⟩⟩
    case round =>
     clear H';obtain ⟨x7_2,x31_2,rfl,rfl,HA,HK2,HO_6,HB⟩:=hrel;cases gk with
     | zero=>exact ak HA.out
     | succ k2 =>
      have H:=HA.out;clear HA;simp only[bE.l1]at H;revert H;refine bi (λc13b0 H=>?_) λc13b0 H=>?_
      ·
       revert H;refine aX λc14b0 H=>?_;revert H;refine aX λc15b0 H=>?_;revert H;refine dH (λc16b0 c16b1 H=>?_) λc16 c16b0 c16b1 H=>?_
       ·
        have H':=aa H;clear H;obtain ⟨ad159,rfl,hx159_0,p159,q159⟩:=bW HR0.out x31_2
        (try (replace hx159_0:=(HB.out.cell (World.block_lt_of_cell? w _ hx159_0)).trans hx159_0))
        go_wp2;go_roundg k2
        case measure=>have:=HK1.out;have:=HK2.out;omega
        case rel=>exact ⟨(wrap64 (x7_2+1)),(wrap64 (x31_2+1)),ag,ag,H',⟨dR HK1.out HK2.out⟩,⟨ai HO_6.out⟩,⟨af⟩⟩
       have H':=aa H;clear H;obtain ⟨ad159,rfl,hx159_0,p159,q159⟩:=bW HR0.out x31_2
       (try (replace hx159_0:=(HB.out.cell (World.block_lt_of_cell? w _ hx159_0)).trans hx159_0))
       go_wp2;go_roundg k2
       case measure=>have:=HK1.out;have:=HK2.out;omega
       case rel=>exact ⟨(x7_2),(wrap64 (x31_2+1)),ag,ag,H',⟨dR HK1.out HK2.out⟩,⟨ai HO_6.out⟩,⟨af⟩⟩
      replace H:(if 0<=(ji3)then (if (ji3:Int).toNat<=35184372088832 then (bE.l2 k2 l0 a1 (wrap64 (a1 - (l0.length:Int))) x7_2 x8_1 (List.replicate (ji3:Int).toNat 0) x6_1 (x6_1.length:Int) 0)else (none))else (none))=some r:=sS;revert H;refine dI λc17b0 c17b1 H=>?_;revert H;refine dI λc18b0 c18b1 H=>?_;obtain ⟨y160,hy160⟩:=bv ((List.replicate (ji3:Int).toNat 0):List Int);replace H:(bE.l2 k2 l0 a1 (wrap64 (a1 - (l0.length:Int))) x7_2 x8_1 y160 x6_1 (x6_1.length:Int) 0)=some r:=bu hy160 H;have Ny160:=aa hy160;clear hy160;have H':=aa H;clear H;go_wp2_with (first|((with_reducible refine dm 43 ?_);refine Kd.R_make (Kd.int .i64) _ 3 rfl (N:=43) rfl 22 _ _ rfl ji3 rfl rfl Tryz.underlying22 (.int .i64 0) 8 info3 rfl (by decide) (by omega) 0 (ok:=λ_=>True) (okp:=λ_=>True) rfl (λ_ hk=>hk) trivial (of_decide_eq_true aD) (Nat.le_trans (Nat.mul_le_mul_right _ (of_decide_eq_true aD:ji3.toNat<=35184372088832)) (by omega)) (Below.refl _ _) (Nat.le_refl _) ?_;intro v161 w19 ho20 hb hg_ hnew_;clear hg_ hnew_;(first|rw[<- Ny160.out]at ho20|(simp only[Int.reduceToNat]at ho20;rw[<- Ny160.out]at ho20));have HO162:=aa (Kd.R_lower (Kd.R_new' ho20 (Kd.R_lt (ai HO_6.out))) (ay af));replace HO_6:=aa (Kd.R_elder' (ai HO_6.out) (Kd.R_base ho20) hb);replace HB:=aa (aj af hb);clear hb ho20;obtain ⟨Ao21,co21,eo21⟩:=Kd.R_slice HO_6.out;subst eo21))
      go_loopg [46] k2 (λkq v46 w'=>∃ (x11_3:List Int) (x46_3:Int),v46=.int .i64 x46_3/\ae (bE.l2 kq l0 a1 (wrap64 (a1 - (l0.length:Int))) x7_2 x8_1 x11_3 x6_1 (x6_1.length:Int) x46_3=some r)/\ae (kq<=k2)/\ae (Kd.R (Kd.int .i64) 3 w' w.heap.size (λk_=>some k_≠((.slice Ao21 x6_1.length co21):Value).ownBlock) v161 x11_3)/\ae (Kd.R (Kd.int .i64) 3 w' w.heap.size (λk_=>some k_≠(v161:Value).ownBlock) (.slice Ao21 x6_1.length co21) x6_1)/\ae (Below w.heap.size w w'))
      case atStart=>exact ⟨(y160),(0),ag,H',⟨Nat.le_refl _⟩,⟨lC HO162.out⟩,⟨lC HO_6.out⟩,⟨af⟩⟩
      case round =>
       clear H';obtain ⟨x11_3,x46_3,rfl,HA,HK3,HO_11,HO_44,HB⟩:=hrel;cases gk with
       | zero=>exact ak HA.out
       | succ k3 =>
        have H:=HA.out;clear HA;simp only[bE.l2]at H;revert H;refine bi (λc22b0 H=>?_) λc22b0 H=>?_
        ·
         revert H;refine aX λc23b0 H=>?_;revert H;refine aX λc24b0 H=>?_;have H':=aa H;clear H;obtain ⟨ad163,rfl,hx163_0,p163,q163⟩:=bW (f_ HO_44.out) x46_3;go_wp2
         go_loopg [14] k3 (λkq v14 w'=>∃ (x11_4:List Int) (x14_4:Int),v14=.int .i64 x14_4/\ae (bE.l3 kq l0 a1 (wrap64 (a1 - (l0.length:Int))) x7_2 x8_1 x11_4 x46_3 (rd x6_1 x46_3) x14_4 x6_1 (x6_1.length:Int) x46_3=some r)/\ae (kq<=k3)/\ae (Kd.R (Kd.int .i64) 3 w' w.heap.size (λk_=>some k_≠((.slice (some ad163) x6_1.length co21):Value).ownBlock) v161 x11_4)/\ae (Kd.R (Kd.int .i64) 3 w' w.heap.size (λk_=>some k_≠(v161:Value).ownBlock) (.slice (some ad163) x6_1.length co21) x6_1)/\ae (Below w.heap.size w w'))
         case atStart=>exact ⟨(x11_3),(0),ag,H',⟨Nat.le_refl _⟩,⟨ai HO_11.out⟩,⟨ai HO_44.out⟩,⟨af⟩⟩
         case round =>
          clear H';obtain ⟨x11_4,x14_4,rfl,HA,HK4,HO_11,HO_44,HB⟩:=hrel;cases gk with
          | zero=>exact ak HA.out
          | succ k4 =>
           have H:=HA.out;clear HA;simp only[bE.l3]at H;revert H;refine bi (λc25b0 H=>?_) λc25b0 H=>?_
           ·
            revert H;refine bi (λc26b0 H=>?_) λc26b0 H=>?_
            ·
             obtain ⟨ji27,hji27⟩:∃j_:Int,(wrap64 (x46_3+x14_4))=j_:=⟨_,rfl⟩;replace H:(if 0<=(ji27)then (if (ji27)<(x11_4.length:Int)then ((fP.f k4 (wrap64 ((wrap64 (a1 - (l0.length:Int))) - x46_3)) x14_4).bind λt165=>(bE.l3 k4 l0 a1 (wrap64 (a1 - (l0.length:Int))) x7_2 x8_1 (x11_4.set ((ji27):Int).toNat (wrap64 ((rd x11_4 (ji27))+(wrap64 ((rd x6_1 x46_3) * t165))))) x46_3 (rd x6_1 x46_3) (wrap64 (x14_4+1)) x6_1 (x6_1.length:Int) x46_3))else (none))else (none))=some r:=by first|(rw[hji27]at H;exact H)|(simp only[hji27]at H ⊢;exact H)
             (try rw[hji27]at c25b0)
             have hji27w:(IntKind.i64.wrap (x46_3+x14_4))=ji27:=(cO _).trans hji27;revert H;refine aX λc28b0 H=>?_;revert H;refine aX λc29b0 H=>?_;obtain ⟨t165,A30,H⟩:=aA H;obtain ⟨y166,hy166⟩:=bv ((x11_4.set ((ji27):Int).toNat (wrap64 ((rd x11_4 (ji27))+(wrap64 ((rd x6_1 x46_3) * t165))))):List Int);replace H:(bE.l3 k4 l0 a1 (wrap64 (a1 - (l0.length:Int))) x7_2 x8_1 y166 x46_3 (rd x6_1 x46_3) (wrap64 (x14_4+1)) x6_1 (x6_1.length:Int) x46_3)=some r:=bu hy166 H;have Ny166:=aa hy166;clear hy166;have H':=aa H;clear H
             try go_wp2
             have ak:=aa (Kd.R_drew HO_11.out);have n1_:=aa (Kd.R_drew HO_44.out);have n2_:=aa (dw HB.out);clear HO_11 HO_44 HB;have HO_11:=ak;have HO_44:=n1_;have HB:=n2_;clear ak n1_ n2_;obtain ⟨Ao33,co33,eo33⟩:=Kd.R_slice HO_11.out
             (first|subst eo33|(injection eo33 with f1_ f2_ f3_;have f4_:=f1_.symm;have f5_:=f3_.symm;clear f1_ f2_ f3_;subst f4_;subst f5_))
             obtain ⟨ad164,rfl,hx164_0,p164,q164⟩:=bW (f_ HO_11.out) (ji27);refine jf (n:=16) (S:=λw'=>w'.cell? (ad164.add ((ji27)).toNat)=some (.int .i64 (rd x11_4 (ji27)))) (ds:=[15]) (fe 16 0) (by kernel_rfl) rfl (by kernel_rfl) (hx164_0) (λhHeld=>?_);refine j5 bE.tab22 bE.bits22 (λHT_ HW_=>?_)
             generalize wr.drew=w32 at HO_11 HO_44 HB hx164_0 hHeld ⊢;refine aK 0 65 16 1 ?_;refine aK 1 66 16 3 ?_;refine aK 2 67 16 7 ?_;refine aK 3 68 16 15 ?_;refine aK 4 69 16 31 ?_;refine aK 6 71 16 95 ?_;refine aK 7 72 16 223 ?_;refine aK 8 73 16 479 ?_;refine aK 9 74 16 991 ?_;refine aK 10 75 16 2015 ?_;refine il 5 70 16 2047 ?_;refine fV 11 (some 76) 16 4095 λK hK=>?_;refine gq Tryz.func229 (by kernel_rfl) rfl #[.int .i64 (wrap64 ((wrap64 (a1 - (l0.length:Int))) - x46_3)),.int .i64 x14_4] (by rfl) rfl rfl g_ ?_
             with_reducible refine (fP.calls k4 (wrap64 ((wrap64 (a1 - (l0.length:Int))) - x46_3)) x14_4 t165 _ A30.out).mono ?_
             rintro e w' ⟨rfl,⟨nd,rfl⟩⟩;refine ⟨_,rfl,?_⟩;have p31:0<=((ji27):Int):=of_decide_eq_true aD;have q31:((ji27):Int)<((x11_4.length:Int):Int):=of_decide_eq_true aD;obtain ⟨go31,co31,eo31,gb31,gl31,cl31,HG31⟩:=Kd.R_form HO_11.out (by omega)
             (first|cases eo31|(injection eo31 with ea_ en_ ec_;(first|subst ea_|(injection ea_ with ea_;subst ea_));subst ec_;clear en_))
             have GB31:=aa gb31;have GG31:=aa HG31;clear gb31 gl31 HG31
             (first|simp only[add_plain]at hx164_0|skip)
             obtain ⟨hx31_0,hf31_0⟩:=Kd.R_celln 0 HO_11.out ((ji27):Int) p31 q31;replace p31:=eq_true p31;replace q31:=eq_true q31;have HP34:=Kd.R_putn HO_11.out ((ji27):Int) (wrap64 ((rd x11_4 (ji27))+(wrap64 ((rd x6_1 x46_3) * t165))));rw[<- Ny166.out]at HP34;have HQ34:=aa HP34;clear HP34;refine hK.out _ _ (hHeld) (λhHeld=>?_);clear hK K;refine eG ?_;refine aK 12 77 16 8191 ?_;refine aK 13 78 16 16383 ?_;refine aK 14 79 16 32767 ?_;refine rH 15 none 16 65535 λK hK=>?_;refine qi (w1:=?_) (by rfl) rfl ?_ ?_;rotate_left
             ·
              go_simp;rfl
             refine hK.out _ _ ?_;clear hK K;refine iQ (jm HT_.out (by kernel_rfl)) ?_
             try go_wp2
             go_roundg k4
             case measure=>have:=HK1.out;have:=HK2.out;have:=HK3.out;have:=HK4.out;omega
             case rel=>exact ⟨(y166),(wrap64 (x14_4+1)),ag,H',⟨by have:=HK1.out;have:=HK2.out;have:=HK3.out;have:=HK4.out;omega⟩,⟨ai HQ34.out⟩,⟨by (with_reducible repeat (first|apply Kd.R_alloc|apply Kd.R_drewN|apply Kd.R_drew));exact Kd.R_mono (Kd.R_far (p:=⟨go31,((ji27):Int).toNat,none⟩) (Kd.R_mono HO_44.out (λk_ hk=>(⟨hk,λe_=>hk (by rw[e_];rfl)⟩:_/\k_≠go31))) (λ_ hk=>hk.2) (.int .i64 (wrap64 ((rd x11_4 (ji27))+(wrap64 ((rd x6_1 x46_3) * t165)))))) (λ_ hk=>hk.1)⟩,⟨aY GB31.out⟩⟩
            have H':=aa H;clear H;go_wp2;go_roundg k4
            case measure=>have:=HK1.out;have:=HK2.out;have:=HK3.out;have:=HK4.out;omega
            case rel=>exact ⟨(x11_4),(wrap64 (x14_4+1)),ag,H',⟨by have:=HK1.out;have:=HK2.out;have:=HK3.out;have:=HK4.out;omega⟩,⟨ai HO_11.out⟩,⟨ai HO_44.out⟩,⟨af⟩⟩
           have H':=aa H;clear H;go_wp2;go_roundg k4
           case measure=>have:=HK1.out;have:=HK2.out;have:=HK3.out;have:=HK4.out;omega
           case rel=>exact ⟨(x11_4),(wrap64 (x46_3+1)),ag,H',⟨by have:=HK1.out;have:=HK2.out;have:=HK3.out;have:=HK4.out;omega⟩,⟨ai HO_11.out⟩,⟨ai HO_44.out⟩,⟨af⟩⟩
        have H':=aa H;clear H;go_wp2;go_roundg k3
        case measure=>have:=HK1.out;have:=HK2.out;have:=HK3.out;omega
        case rel=>exact ⟨(x11_3),(x7_2),(wrap64 (x8_1+1)),ag,ag,H',⟨kU HK1.out HK2.out HK3.out⟩,⟨kJ HO_11.out⟩,⟨af⟩⟩
   obtain ⟨ji35,hji35⟩:∃j_:Int,(wrap64 (a1 - (l0.length:Int)))=j_:=⟨_,rfl⟩;replace H:(if 0<=(ji35)then (if (ji35)<(x6_1.length:Int)then (some (rd x6_1 (ji35)))else (none))else (none))=some r:=by first|(rw[hji35]at H;exact H)|(simp only[hji35]at H ⊢;exact H)
   have hji35w:(IntKind.i64.wrap (a1 - (l0.length:Int)))=ji35:=(cO _).trans hji35;revert H;refine aX λc36b0 H=>?_;revert H;refine aX λc37b0 H=>?_;obtain rfl:=Option.some.inj H;obtain ⟨Ao38,co38,eo38⟩:=Kd.R_slice HO_6.out;subst eo38;obtain ⟨ad158,rfl,hx158_0,p158,q158⟩:=bW (f_ HO_6.out) (ji35);go_wp2;go_ret;exact ⟨by first|rfl|(simp[ig,ic] <;> rfl)|(simp only[<- hji3,<- hji35];first|rfl|(simp[ig,ic] <;> rfl))|(simp[*,ig,ic] <;> rfl),af⟩
mutual
def fB.l0:Nat->Int->Int->List Int->Option (List Int)
 | 0,_,_,_=>none
 | k+1,x0,x1,x5=>if (x5.length:Int)<x0 then ((fH.f x5).bind λt167=>(if t167.length<17592186044416 then ((bE.f k (t167++[0]) x0).bind λt173=>(fB.l1 k x0 x1 x5 0 t173))else (none)))else (some x5)
def fB.l1:Nat->Int->Int->List Int->Int->Int->Option (List Int)
 | 0,_,_,_,_,_=>none
 | k+1,x0,x1,x5,x6,x7=>if x1 >= x7 then ((fH.f x5).bind λt174=>(if t174.length<17592186044416 then ((bE.f k (t174++[wrap64 (x6+1)]) x0).bind λt180=>(fB.l1 k x0 (wrap64 (x1 - x7)) x5 (wrap64 (x6+1)) t180))else (none)))else (if x5.length<17592186044416 then (fB.l0 k x0 x1 (x5++[x6]))else (none))
end
def fB.f(k:Nat)(a0:Int)(a1:Int):Option (List Int):=fB.l0 k a0 a1 ([]:List Int)
theorem fB.calls(k:Nat)(a0:Int)(a1:Int)(r:List Int)(w:World)(h:fB.f k a0 a1=some r) :
  Calls Tryz.prog 181 #[.int .i64 a0,.int .i64 a1] w λe w'=>∃v0_:Value,e=.returned (v0_)/\Kd.R (Kd.int .i64) 3 w' w.heap.size (λ_=>True) v0_ r/\Below w.heap.size w w':=by
 have HB:=aa (Below.refl w.heap.size w);unfold fB.f at h;have H:=h;clear h;have H':=aa H;clear H;go_enter Tryz.func181,Tryz.ntmps181;go_wp2
 go_loopg [1,5] k (λkq v1 v5 w'=>∃ (x1_1:Int) (x5_1:List Int),v1=.int .i64 x1_1/\ae (fB.l0 kq a0 x1_1 x5_1=some r)/\ae (kq<=k)/\ae (Kd.R (Kd.int .i64) 3 w' w.heap.size (λ_=>True) v5 x5_1)/\ae (Below w.heap.size w w'))
 case atStart=>exact ⟨(a1),(([]:List Int)),ag,H',⟨Nat.le_refl _⟩,⟨d9⟩,⟨af⟩⟩
 case round =>
  clear H';obtain ⟨x1_1,x5_1,rfl,HA,HK1,HO_5,HB⟩:=hrel;cases gk with
  | zero=>exact ak HA.out
  | succ k1 =>
   have H:=HA.out;clear HA;simp only[fB.l0]at H;revert H;refine bi (λc3b0 H=>?_) λc3b0 H=>?_
   ·
    obtain ⟨t167,A4,H⟩:=aA H;revert H;refine bZ λc5 H=>?_;have LMc5:=aa c5;clear c5;obtain ⟨y170,hy170⟩:=bv ((t167++[0]):List Int);replace H:((bE.f k1 y170 a0).bind λt173=>(fB.l1 k1 a0 x1_1 x5_1 0 t173))=some r:=bu hy170 H;have Ny170:=aa hy170;clear hy170;obtain ⟨t173,A6,H⟩:=aA H;have H':=aa H;clear H;obtain ⟨Ao7,co7,eo7⟩:=Kd.R_slice HO_5.out;subst eo7;go_wp2_with (first|((with_reducible refine av 70 ?_);refine ax 13 Tryz.func70 #[.slice Ao7 x5_1.length co7] ?_;(with_reducible refine (fH.calls _ _ x5_1 t167 _ ?s1 ?s2 A4.out).mono ?_);(case s1=>exact eH HO_5.out);(case s2=>exact (Kd.R_reads' HO_5.out).2.1);rintro e w8 ⟨v168,rfl,ho0,hb⟩;refine ⟨_,rfl,?_⟩;have HO169:=aa (Kd.R_lower (Kd.R_new' ho0 (Kd.R_lt (ai HO_5.out))) (ay af));replace HO_5:=aa (Kd.R_elder' (ai HO_5.out) (Kd.R_base ho0) hb);replace HB:=aa (aj af hb);clear hb ho0)|((with_reducible refine dE (b:=.append) (xs:=#[.tmp 13,.tmp 14]) rfl ?_);at_builtin;refine eQ (w0:=w) (.tmp 13) (.tmp 14) v168 t167 0 (λk_=>some k_≠(.slice Ao7 x5_1.length co7:Value).ownBlock) (λk_ hk=>Kd.fresh' (Kd.R_lt (ai HO_5.out)) k_ hk) (lC HO169.out) af (by exact bB LMc5.out) ?_;intro v171 w9 ho hb hg hat;rw[<- Ny170.out]at ho;replace HO_5:=aa (Kd.R_after (ok:=(λ_=>True)) (ai HO_5.out) hg hat);replace HB:=aa (hb);have HO172:=aa (ho);clear ho hb hg hat;obtain ⟨Ao10,co10,eo10⟩:=Kd.R_slice HO172.out;subst eo10)|((with_reducible refine av 188 ?_);refine ax 17 Tryz.func188 #[.slice Ao10 y170.length co10,.int .i64 a0] ?_;(with_reducible refine (bE.calls k1 _ _ y170 a0 t173 _ ?s1 ?s2 A6.out).mono ?_);(case s1=>exact eH HO172.out);(case s2=>exact (Kd.R_reads' HO172.out).2.1);rintro e w11 ⟨rfl,hb⟩;refine ⟨_,rfl,?_⟩;replace HO_5:=aa (Kd.R_below (ai HO_5.out) hb);replace HO172:=aa (Kd.R_below (ai HO172.out) hb);replace HB:=aa (aj af hb);clear hb))
    go_loopg [1,6,7] k1 (λkq v1 v6 v7 w'=>∃ (x1_2:Int) (x6_2:Int) (x7_2:Int),v1=.int .i64 x1_2/\v6=.int .i64 x6_2/\v7=.int .i64 x7_2/\ae (fB.l1 kq a0 x1_2 x5_1 x6_2 x7_2=some r)/\ae (kq<=k1)/\ae (Kd.R (Kd.int .i64) 3 w' w.heap.size (λ_=>True) (.slice Ao7 x5_1.length co7) x5_1)/\ae (Below w.heap.size w w'))
    case atStart=>exact ⟨(x1_1),(0),(t173),ag,ag,ag,H',⟨Nat.le_refl _⟩,⟨kJ HO_5.out⟩,⟨af⟩⟩
    case round =>
     clear H';obtain ⟨x1_2,x6_2,x7_2,rfl,rfl,rfl,HA,HK2,HO_5,HB⟩:=hrel;cases gk with
     | zero=>exact ak HA.out
     | succ k2 =>
      have H:=HA.out;clear HA;simp only[fB.l1]at H;revert H;refine bi (λc12b0 H=>?_) λc12b0 H=>?_
      ·
       obtain ⟨t174,A13,H⟩:=aA H;revert H;refine bZ λc14 H=>?_;have LMc14:=aa c14;clear c14;obtain ⟨y177,hy177⟩:=bv ((t174++[wrap64 (x6_2+1)]):List Int);replace H:((bE.f k2 y177 a0).bind λt180=>(fB.l1 k2 a0 (wrap64 (x1_2 - x7_2)) x5_1 (wrap64 (x6_2+1)) t180))=some r:=bu hy177 H;have Ny177:=aa hy177;clear hy177;obtain ⟨t180,A15,H⟩:=aA H;have H':=aa H;clear H;go_wp2_with (first|((with_reducible refine av 70 ?_);refine ax 22 Tryz.func70 #[.slice Ao7 x5_1.length co7] ?_;(with_reducible refine (fH.calls _ _ x5_1 t174 _ ?s1 ?s2 A13.out).mono ?_);(case s1=>exact eH HO_5.out);(case s2=>exact (Kd.R_reads' HO_5.out).2.1);rintro e w16 ⟨v175,rfl,ho0,hb⟩;refine ⟨_,rfl,?_⟩;have HO176:=aa (Kd.R_lower (Kd.R_new' ho0 (Kd.R_lt (ai HO_5.out))) (ay af));replace HO_5:=aa (Kd.R_elder' (ai HO_5.out) (Kd.R_base ho0) hb);replace HB:=aa (aj af hb);clear hb ho0)|((with_reducible refine dE (b:=.append) (xs:=#[.tmp 22,.tmp 24]) rfl ?_);at_builtin;refine eQ (w0:=w) (.tmp 22) (.tmp 24) v175 t174 (wrap64 (x6_2+1)) (λk_=>some k_≠(.slice Ao7 x5_1.length co7:Value).ownBlock) (λk_ hk=>Kd.fresh' (Kd.R_lt (ai HO_5.out)) k_ hk) (lC HO176.out) af (by exact bB LMc14.out) ?_;intro v178 w17 ho hb hg hat;rw[<- Ny177.out]at ho;replace HO_5:=aa (Kd.R_after (ok:=(λ_=>True)) (ai HO_5.out) hg hat);replace HB:=aa (hb);have HO179:=aa (ho);clear ho hb hg hat;obtain ⟨Ao18,co18,eo18⟩:=Kd.R_slice HO179.out;subst eo18)|((with_reducible refine av 188 ?_);refine ax 27 Tryz.func188 #[.slice Ao18 y177.length co18,.int .i64 a0] ?_;(with_reducible refine (bE.calls k2 _ _ y177 a0 t180 _ ?s1 ?s2 A15.out).mono ?_);(case s1=>exact eH HO179.out);(case s2=>exact (Kd.R_reads' HO179.out).2.1);rintro e w19 ⟨rfl,hb⟩;refine ⟨_,rfl,?_⟩;replace HO_5:=aa (Kd.R_below (ai HO_5.out) hb);replace HO179:=aa (Kd.R_below (ai HO179.out) hb);replace HB:=aa (aj af hb);clear hb));go_roundg k2
       case measure=>have:=HK1.out;have:=HK2.out;omega
       case rel=>exact ⟨(wrap64 (x1_2 - x7_2)),(wrap64 (x6_2+1)),(t180),ag,ag,ag,H',⟨dR HK1.out HK2.out⟩,⟨kJ HO_5.out⟩,⟨af⟩⟩
      revert H;refine bZ λc20 H=>?_;have LMc20:=aa c20;clear c20;obtain ⟨y181,hy181⟩:=bv ((x5_1++[x6_2]):List Int);replace H:(fB.l0 k2 a0 x1_2 y181)=some r:=bu hy181 H;have Ny181:=aa hy181;clear hy181;have H':=aa H;clear H;go_wp2_with (first|((with_reducible refine dE (b:=.append) (xs:=#[.tmp 33,.tmp 35]) rfl ?_);at_builtin;refine eQ (w0:=w) (.tmp 33) (.tmp 35) (.slice Ao7 x5_1.length co7) x5_1 x6_2 (λ_=>True) (λ_ _=>trivial) (ai HO_5.out) af (by exact bB LMc20.out) ?_;intro v182 w21 ho hb hg hat;rw[<- Ny181.out]at ho;replace HB:=aa (hb);have HO183:=aa (ho);clear ho hb hg hat));go_roundg k2
      case measure=>have:=HK1.out;have:=HK2.out;omega
      case rel=>exact ⟨(x1_2),(y181),ag,H',⟨dR HK1.out HK2.out⟩,⟨ai HO183.out⟩,⟨af⟩⟩
   obtain rfl:=Option.some.inj H;obtain ⟨Ao22,co22,eo22⟩:=Kd.R_slice HO_5.out;subst eo22;go_wp2;go_ret;exact ⟨_,aU,ai HO_5.out,af⟩
def mH.f(k:Nat)(a0:Int)(a1:Int):Option (List Int × Bool):=(kF.f a0).bind λt184=>(if t184=true then ((jk.f k a0).bind λt185=>((ek.f a1 0 (wrap64 (t185 - 1))).bind λt186=>(if t186=true then ((fB.f k a0 a1).bind λt187=>(some (t187,true)))else (some (([]:List Int),false)))))else (some (([]:List Int),false)))
theorem mH.calls(k:Nat)(a0:Int)(a1:Int)(r1:List Int)(r2:Bool)(w:World)(h:mH.f k a0 a1=some (r1,r2)) :
  Calls Tryz.prog 120 #[.int .i64 a0,.int .i64 a1] w λe w'=>∃v0_:Value,e=.returned (.tuple #[v0_,.bool r2])/\Kd.R (Kd.int .i64) 3 w' w.heap.size (λ_=>True) v0_ r1/\Below w.heap.size w w':=by
 have HB:=aa (Below.refl w.heap.size w);unfold mH.f at h;have H:=h;clear h;obtain ⟨t184,A3,H⟩:=aA H;revert H;refine bA (λc4 H=>?_) λc4 H=>?_
 ·
  subst c4;obtain ⟨t185,A5,H⟩:=aA H;obtain ⟨t186,A6,H⟩:=aA H;revert H;refine bA (λc7 H=>?_) λc7 H=>?_
  ·
   subst c7;obtain ⟨t187,A8,H⟩:=aA H;obtain ⟨rfl,rfl⟩:=dB H;go_enter Tryz.func120,Tryz.ntmps120;go_wp2_with (first|((with_reducible refine av 179 ?_);refine ax 7 Tryz.func179 #[.int .i64 a0] ?_;(with_reducible refine (kF.calls a0 true _ A3.out).mono ?_);rintro e w' ⟨rfl,⟨nd,rfl⟩⟩;refine ⟨_,rfl,?_⟩)|(go_at_call 180;(with_reducible refine (jk.calls k a0 t185 _ A5.out).mono ?_);rintro e w' ⟨rfl,⟨nd,rfl⟩⟩)|(go_at_call 112;(with_reducible refine (ek.calls a1 0 (wrap64 (t185 - 1)) true _ A6.out).mono ?_);rintro e w' ⟨rfl,⟨nd,rfl⟩⟩)|((with_reducible refine av 181 ?_);refine ax 19 Tryz.func181 #[.int .i64 a0,.int .i64 a1] ?_;(with_reducible refine (fB.calls k a0 a1 t187 _ A8.out).mono ?_);rintro e w9 ⟨v188,rfl,ho0,hb⟩;refine ⟨_,rfl,?_⟩;have HO189:=aa (Kd.R_lower ho0 (ay af));replace HB:=aa (aj af hb);clear hb ho0));go_ret2;exact ⟨_,aU,ai HO189.out,af⟩
  subst c7;obtain ⟨rfl,rfl⟩:=dB H;go_enter Tryz.func120,Tryz.ntmps120;go_wp2_with (first|((with_reducible refine av 179 ?_);refine ax 7 Tryz.func179 #[.int .i64 a0] ?_;(with_reducible refine (kF.calls a0 true _ A3.out).mono ?_);rintro e w' ⟨rfl,⟨nd,rfl⟩⟩;refine ⟨_,rfl,?_⟩)|(go_at_call 180;(with_reducible refine (jk.calls k a0 t185 _ A5.out).mono ?_);rintro e w' ⟨rfl,⟨nd,rfl⟩⟩)|(go_at_call 112;(with_reducible refine (ek.calls a1 0 (wrap64 (t185 - 1)) false _ A6.out).mono ?_);rintro e w' ⟨rfl,⟨nd,rfl⟩⟩));go_ret2;exact ⟨_,aU,d9,af⟩
 subst c4;obtain ⟨rfl,rfl⟩:=dB H;go_enter Tryz.func120,Tryz.ntmps120;go_wp2_with (first|((with_reducible refine av 179 ?_);refine ax 7 Tryz.func179 #[.int .i64 a0] ?_;(with_reducible refine (kF.calls a0 false _ A3.out).mono ?_);rintro e w' ⟨rfl,⟨nd,rfl⟩⟩;refine ⟨_,rfl,?_⟩));go_ret2;exact ⟨_,aU,d9,af⟩
mutual
def fq.l0:Nat->List Int->Int->List Int->Int->Int->Option (Int × Bool)
 | 0,_,_,_,_,_=>none
 | k+1,x0,x4,x11,x12,x13=>if x13<x12 then (if 0<=x13 then (if x13<(x11.length:Int)then (fq.l1 k x0 x4 x13 (rd x11 x13) 0 x11 x12 x13)else (none))else (none))else (some (x4,true))
def fq.l1:Nat->List Int->Int->Int->Int->Int->List Int->Int->Int->Option (Int × Bool)
 | 0,_,_,_,_,_,_,_,_=>none
 | k+1,x0,x4,x5,x6,x7,x11,x12,x13=>if x7<x6 then (if 0<=x5 then (if x5<=(x0.length:Int)then ((fH.f (x0.take (x5:Int).toNat)).bind λt193=>(if t193.length<17592186044416 then ((bE.f k (t193++[x7]) (x0.length:Int)).bind λt199=>(fq.l1 k x0 (wrap64 (x4+t199)) x5 x6 (wrap64 (x7+1)) x11 x12 x13))else (none)))else (none))else (none))else (fq.l0 k x0 x4 x11 x12 (wrap64 (x13+1)))
end
def fq.f(k:Nat)(l0:List Int):Option (Int × Bool):=(iL.f k l0).bind λt190=>(if t190=true then (fq.l0 k l0 0 l0 (l0.length:Int) 0)else (some (0,false)))
theorem fq.calls(k:Nat)(A0:Option Addr)(c0:Nat)(l0:List Int)(r1:Int)(r2:Bool)(w:World)(hr0:Kd.C (Kd.int .i64) w A0 l0.length l0)(hc0:l0.length<=c0)(h:fq.f k l0=some (r1,r2)) :
  Calls Tryz.prog 130 #[.slice A0 l0.length c0] w λe w'=>e=.returned (.tuple #[.int .i64 r1,.bool r2])/\Below w.heap.size w w':=by
 have HR0:=aa hr0;have HC0:=aa hc0;clear hr0 hc0;have HB:=aa (Below.refl w.heap.size w);unfold fq.f at h;have H:=h;clear h;obtain ⟨t190,A2,H⟩:=aA H;revert H;refine bA (λc3 H=>?_) λc3 H=>?_
 ·
  subst c3;have H':=aa H;clear H;go_enter Tryz.func130,Tryz.ntmps130;go_wp2_with (first|((with_reducible refine av 71 ?_);refine ax 9 Tryz.func71 #[.slice A0 l0.length c0] ?_;(with_reducible refine (iL.calls k _ _ l0 true _ ?s1 ?s2 A2.out).mono ?_);(case s1=>exact dU HR0.out);(case s2=>exact HC0.out);rintro e w4 ⟨rfl,hb⟩;refine ⟨_,rfl,?_⟩;replace HB:=aa (aj af hb);clear hb))
  go_loopg [4,13] k (λkq v4 v13 w'=>∃ (x4_1:Int) (x13_1:Int),v4=.int .i64 x4_1/\v13=.int .i64 x13_1/\ae (fq.l0 kq l0 x4_1 l0 (l0.length:Int) x13_1=some (r1,r2))/\ae (kq<=k)/\ae (Below w.heap.size w w'))
  case atStart=>exact ⟨(0),(0),ag,ag,H',⟨Nat.le_refl _⟩,⟨af⟩⟩
  case round =>
   clear H';obtain ⟨x4_1,x13_1,rfl,rfl,HA,HK1,HB⟩:=hrel;cases gk with
   | zero=>exact ak HA.out
   | succ k1 =>
    have H:=HA.out;clear HA;simp only[fq.l0]at H;revert H;refine bi (λc5b0 H=>?_) λc5b0 H=>?_
    ·
     revert H;refine aX λc6b0 H=>?_;revert H;refine aX λc7b0 H=>?_;have H':=aa H;clear H;obtain ⟨ad191,rfl,hx191_0,p191,q191⟩:=bW HR0.out x13_1
     (try (replace hx191_0:=(HB.out.cell (World.block_lt_of_cell? w _ hx191_0)).trans hx191_0))
     go_wp2
     go_loopg [4,7] k1 (λkq v4 v7 w'=>∃ (x4_2:Int) (x7_2:Int),v4=.int .i64 x4_2/\v7=.int .i64 x7_2/\ae (fq.l1 kq l0 x4_2 x13_1 (rd l0 x13_1) x7_2 l0 (l0.length:Int) x13_1=some (r1,r2))/\ae (kq<=k1)/\ae (Below w.heap.size w w'))
     case atStart=>exact ⟨(x4_1),(0),ag,ag,H',⟨Nat.le_refl _⟩,⟨af⟩⟩
     case round =>
      clear H';obtain ⟨x4_2,x7_2,rfl,rfl,HA,HK2,HB⟩:=hrel;cases gk with
      | zero=>exact ak HA.out
      | succ k2 =>
       have H:=HA.out;clear HA;simp only[fq.l1]at H;revert H;refine bi (λc8b0 H=>?_) λc8b0 H=>?_
       ·
        revert H;refine dI λc9b0 c9b1 H=>?_;revert H;refine dI λc10b0 c10b1 H=>?_;obtain ⟨t193,A11,H⟩:=aA H;revert H;refine bZ λc12 H=>?_;have LMc12:=aa c12;clear c12;obtain ⟨y196,hy196⟩:=bv ((t193++[x7_2]):List Int);replace H:((bE.f k2 y196 (l0.length:Int)).bind λt199=>(fq.l1 k2 l0 (wrap64 (x4_2+t199)) x13_1 (rd l0 x13_1) (wrap64 (x7_2+1)) l0 (l0.length:Int) x13_1))=some (r1,r2):=bu hy196 H;have Ny196:=aa hy196;clear hy196;obtain ⟨t199,A13,H⟩:=aA H;have H':=aa H;clear H;obtain ⟨i014,hi014,_,hsz14,_⟩:=info_parts info3;obtain ⟨hcut14,hA14,hC14⟩:=mE (P:=Tryz.prog) (Value.int .i64) 0 22 3 .i64 Tryz.underlying22 hi014 hsz14 (some ad191) c0 l0 x13_1 (of_decide_eq_true aD) (of_decide_eq_true aD) HC0.out;have HR192:=aa (Kd.C_of_reads (h1:=λ_=>rfl) (hA14 _ (Kd.reads_of_C HR0.out)));have HC192:=aa hC14;clear hA14 hC14 hi014 hsz14;go_wp2_with (first|((with_reducible refine av 70 ?_);refine oL (some 27) rfl rfl Tryz.func70 (by kernel_rfl) rfl #[.slice (some ad191) (l0.take (x13_1:Int).toNat).length c0] rfl (by (try simp only[List.map_toArray,List.map_cons,List.map_nil]);first|done|(rw[show (l0.take (x13_1:Int).toNat).length=x13_1.toNat from (by rw[List.length_take];have h_:(x13_1:Int)<=(l0.length:Int):=of_decide_eq_true aD;omega)] <;> rfl)|rfl|(simp only[List.length_drop,List.length_take];rfl)) ?_;(with_reducible refine (fH.calls _ _ (l0.take (x13_1:Int).toNat) t193 _ ?s1 ?s2 A11.out).mono ?_);(case s1=>exact bQ HR192.out);(case s2=>exact HC192.out);rintro e w15 ⟨v194,rfl,ho0,hb⟩;refine ⟨_,rfl,?_⟩;have HO195:=aa (Kd.R_lower ho0 (ay af));replace HB:=aa (aj af hb);clear hb ho0)|((with_reducible refine dE (b:=.append) (xs:=#[.tmp 27,.tmp 29]) rfl ?_);at_builtin;refine eQ (w0:=w) (.tmp 27) (.tmp 29) v194 t193 x7_2 (λ_=>True) (λ_ _=>trivial) (ai HO195.out) af (by exact bB LMc12.out) ?_;intro v197 w16 ho hb hg hat;rw[<- Ny196.out]at ho;replace HB:=aa (hb);have HO198:=aa (ho);clear ho hb hg hat;obtain ⟨Ao17,co17,eo17⟩:=Kd.R_slice HO198.out;subst eo17)|((with_reducible refine av 188 ?_);refine ax 33 Tryz.func188 #[.slice Ao17 y196.length co17,.int .i64 (l0.length:Int)] ?_;(with_reducible refine (bE.calls k2 _ _ y196 (l0.length:Int) t199 _ ?s1 ?s2 A13.out).mono ?_);(case s1=>exact eH HO198.out);(case s2=>exact (Kd.R_reads' HO198.out).2.1);rintro e w18 ⟨rfl,hb⟩;refine ⟨_,rfl,?_⟩;replace HO198:=aa (Kd.R_below (ai HO198.out) hb);replace HB:=aa (aj af hb);clear hb));go_roundg k2
        case measure=>have:=HK1.out;have:=HK2.out;omega
        case rel=>exact ⟨(wrap64 (x4_2+t199)),(wrap64 (x7_2+1)),ag,ag,H',⟨dR HK1.out HK2.out⟩,⟨af⟩⟩
       have H':=aa H;clear H;go_wp2;go_roundg k2
       case measure=>have:=HK1.out;have:=HK2.out;omega
       case rel=>exact ⟨(x4_2),(wrap64 (x13_1+1)),ag,ag,H',⟨dR HK1.out HK2.out⟩,⟨af⟩⟩
    obtain ⟨rfl,rfl⟩:=dB H;go_wp2;go_ret2;exact ⟨aU,af⟩
 subst c3;obtain ⟨rfl,rfl⟩:=dB H;go_enter Tryz.func130,Tryz.ntmps130;go_wp2_with (first|((with_reducible refine av 71 ?_);refine ax 9 Tryz.func71 #[.slice A0 l0.length c0] ?_;(with_reducible refine (iL.calls k _ _ l0 false _ ?s1 ?s2 A2.out).mono ?_);(case s1=>exact dU HR0.out);(case s2=>exact HC0.out);rintro e w19 ⟨rfl,hb⟩;refine ⟨_,rfl,?_⟩;replace HB:=aa (aj af hb);clear hb));go_ret2;exact ⟨aU,af⟩
def pz.f(k:Nat)(l0:List Int):Option (List Int × Bool):=(fq.f k l0).bind λbt200=>(if bt200.2=true then ((mH.f k (l0.length:Int) (wrap64 (bt200.1+1))).bind λbt202=>(some (bt202.1,bt202.2)))else (some (([]:List Int),false)))
theorem pz.calls(k:Nat)(A0:Option Addr)(c0:Nat)(l0:List Int)(r1:List Int)(r2:Bool)(w:World)(hr0:Kd.C (Kd.int .i64) w A0 l0.length l0)(hc0:l0.length<=c0)(h:pz.f k l0=some (r1,r2)) :
  Calls Tryz.prog 119 #[.slice A0 l0.length c0] w λe w'=>∃v0_:Value,e=.returned (.tuple #[v0_,.bool r2])/\Kd.R (Kd.int .i64) 3 w' w.heap.size (λ_=>True) v0_ r1/\Below w.heap.size w w':=by
 have HR0:=aa hr0;have HC0:=aa hc0;clear hr0 hc0;have HB:=aa (Below.refl w.heap.size w);unfold pz.f at h;have H:=h;clear h;obtain ⟨⟨t200,t201⟩,A2,H⟩:=aA H;dsimp only at H
 revert H;refine bA (λc3 H=>?_) λc3 H=>?_
 ·
  subst c3;obtain ⟨⟨t202,t203⟩,A4,H⟩:=aA H;dsimp only at H;obtain ⟨rfl,rfl⟩:=dB H;go_enter Tryz.func119,Tryz.ntmps119;go_wp2_with (first|((with_reducible refine av 130 ?_);refine ax 8 Tryz.func130 #[.slice A0 l0.length c0] ?_;(with_reducible refine (fq.calls k _ _ l0 t200 true _ ?s1 ?s2 A2.out).mono ?_);(case s1=>exact dU HR0.out);(case s2=>exact HC0.out);rintro e w5 ⟨rfl,hb⟩;refine ⟨_,rfl,?_⟩;replace HB:=aa (aj af hb);clear hb)|((with_reducible refine av 120 ?_);refine ax 17 Tryz.func120 #[.int .i64 (l0.length:Int),.int .i64 (wrap64 (t200+1))] ?_;(with_reducible refine (mH.calls k (l0.length:Int) (wrap64 (t200+1)) t202 t203 _ A4.out).mono ?_);rintro e w6 ⟨v204,rfl,ho0,hb⟩;refine ⟨_,rfl,?_⟩;have HO205:=aa (Kd.R_lower ho0 (ay af));replace HB:=aa (aj af hb);clear hb ho0));go_ret2;exact ⟨_,aU,ai HO205.out,af⟩
 subst c3;obtain ⟨rfl,rfl⟩:=dB H;go_enter Tryz.func119,Tryz.ntmps119;go_wp2_with (first|((with_reducible refine av 130 ?_);refine ax 8 Tryz.func130 #[.slice A0 l0.length c0] ?_;(with_reducible refine (fq.calls k _ _ l0 t200 false _ ?s1 ?s2 A2.out).mono ?_);(case s1=>exact dU HR0.out);(case s2=>exact HC0.out);rintro e w7 ⟨rfl,hb⟩;refine ⟨_,rfl,?_⟩;replace HB:=aa (aj af hb);clear hb));go_ret2;exact ⟨_,aU,d9,af⟩
end Go.Proofs.YtjdlhefjgceabaaGreatDoor.PAll

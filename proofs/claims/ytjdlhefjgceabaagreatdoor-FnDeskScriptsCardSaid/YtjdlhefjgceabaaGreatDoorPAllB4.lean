import Derived.Test.YtjdlhefjgceabaaGreatDoorPAllA4
set_option linter.unusedVariables false
set_option linter.unusedSimpArgs false
namespace Go.Proofs.YtjdlhefjgceabaaGreatDoor.PAll
open Go.RowKit Hand YtjdlhefjgceabaaGreatDoorW.PrintWords YtjdlhefjgceabaaGreatDoorW.PrintLast YtjdlhefjgceabaaGreatDoorW.PrintMore
attribute [local go_sem] l8 mF lZ mo mr mK nI mQ
set_option maxHeartbeats 8000000
set_option maxRecDepth 100000
def eT.j0:Nat->Int->Bool->List Int->Option (List Int × Int × Bool)
 | 0,_,_,_=>none
 | k+1,x1,x31,x241000=>if x31=true then (some (([]:List Int),0,false))else ((fH.f x241000).bind λt246=>((iZ.f k t246 x1).bind λbt250=>(some (bt250.2,bt250.1,true))))
def eT.f(k:Nat)(l0_0:List Int)(a1:Int):Option (List Int × Int × Bool):=(cZ.f k l0_0).bind λt242=>(if t242=true then ((kr.f a1).bind λt243=>(if t243=true then ((bD.f k l0_0 a1).bind λt244=>(if t244=true then (eT.j0 k a1 true l0_0)else ((iR.f k l0_0).bind λt245=>(eT.j0 k a1 (t245 == (wrap64 ((l0_0.length:Int) - 1))) l0_0))))else (eT.j0 k a1 true l0_0)))else (eT.j0 k a1 true l0_0))
def eT.T1:Bool × List (List Nat × List Nat):=(true,[([],[]),([0],[0]),([1],[1]),([2,1],[2]),([3],[3]),([4,3,3],[3,4]),([5,3],[3,5]),([3,6],[3,6]),([7,5],[7]),([8],[8]),([9,8],[8,9]),([8],[8]),([10,11,8,8],[8,10,11]),([8,12],[8,12]),([13,12],[13]),([14],[14]),([15,14,14],[14,15]),([14],[14]),([17,14],[14,17]),([18,14],[14,18]),([19,14],[14,19]),([16,20,14],[14,16,20]),([14,21],[14,21])])
def eT.B1:List Nat:=[0,1,3,7,15,31,63,127,255,511,1023,511,4095,8191,16383,32767,65535,32767,163839,425983,950271,2097151,4194303]
theorem eT.tab1:dQ .any (opsOf Tryz.f124 1)=eT.T1:=by kernel_rfl
theorem eT.bits1:jv eT.T1.2 eT.B1=true:=by kernel_rfl
theorem eT.calls(k:Nat)(A0_0:Option Addr)(c0_0:Nat)(l0_0:List Int)(a1:Int)(r1:List Int)(r2:Int)(r3:Bool)(w:World)(hr0_0:Kd.C (Kd.int .i64) w A0_0 l0_0.length l0_0)(hc0_0:l0_0.length<=c0_0)(h:eT.f k l0_0 a1=some (r1,r2,r3)) :
  Calls Tryz.prog 124 #[.agg #[.slice A0_0 l0_0.length c0_0],.int .i64 a1] w λe w'=>∃v0_:Value,e=.returned (.tuple #[.agg #[v0_],.int .i64 r2,.bool r3])/\Kd.R (Kd.int .i64) 3 w' w.heap.size (λ_=>True) v0_ r1/\Below w.heap.size w w':=by
 have hu34:=Tryz.underlying34;have HR0_0:=aa hr0_0;have HC0_0:=aa hc0_0;clear hr0_0 hc0_0;have HB:=aa (Below.refl w.heap.size w);unfold eT.f at h;have H:=h;clear h;have HC3:=aa H;clear H;go_enter Tryz.func124,Tryz.ntmps124
 go_upto_region 1 with (first|((with_reducible refine dm 2 ?_);(try (refine kZ (by rfl) ?_;dsimp only));refine fJ #[.slice A0_0 l0_0.length c0_0] 34 ?_;intro gb240 hg w4 hbox hb;have BK240:=aa (hbox);have GW240:=aa ((by rw[hg];exact (ay af):w.heap.size<=gb240));have GE240:=aa ((by rw[hg];exact (ay af):w.heap.size<=gb240));replace HB:=aa (aj af hb);clear hb hbox hg)|((with_reducible refine dm 4 ?_);(try (refine kZ (by rfl) ?_;dsimp only));refine fJ #[.slice none 0 0] 34 ?_;intro gb241 hg w5 hbox hb;have BK241:=aa (hbox);have GW241:=aa ((by rw[hg];exact (ay (aY GE240.out)):w.heap.size<=gb241));have GE241:=aa ((by rw[hg];exact (ay (aY GE240.out)):w.heap.size<=gb241));have NB240_241:=aa ((by rw[hg];exact Nat.ne_of_lt (dC (g:=gb240) (o:=.cells #[.slice A0_0 l0_0.length c0_0] 34 (0,0)) (aJ BK240.out)):gb240≠gb241));have NB241_240:=aa ((by rw[hg];exact Nat.ne_of_gt (dC (g:=gb240) (o:=.cells #[.slice A0_0 l0_0.length c0_0] 34 (0,0)) (aJ BK240.out)):gb241≠gb240));replace BK240:=aa (aI (g:=gb240) (o:=.cells #[.slice A0_0 l0_0.length c0_0] 34 (0,0)) (aJ BK240.out) hb);replace HB:=aa (aj (aY GE240.out) hb);clear hb hbox hg))
 (try simp only[Act.put,List.setIfInBounds_toArray,List.set_cons_zero,List.set_cons_succ])
 go_cut [31] (λv31 wc=>∃ (kq:Nat) (x31_2:Bool),v31=.bool x31_2/\ae (eT.j0 kq a1 x31_2 l0_0=some (r1,r2,r3))/\ae (kq<=k)/\ae (wc.heap[gb240]?=some (.cells #[(.slice A0_0 l0_0.length c0_0)] 34 (0,0)))/\ae (wc.heap[gb241]?=some (.cells #[(.slice none 0 0)] 34 (0,0)))/\ae (Below w.heap.size w wc))
 case first =>
  have H:=HC3.out;clear HC3;obtain ⟨t242,A6,H⟩:=aA H;revert H;refine bA (λc7 H=>?_) λc7 H=>?_
  ·
   subst c7;obtain ⟨t243,A8,H⟩:=aA H;revert H;refine bA (λc9 H=>?_) λc9 H=>?_
   ·
    subst c9;obtain ⟨t244,A10,H⟩:=aA H;have Hs_:=aa H;clear H
    try go_wp2
    have ak:=aa (bS BK240.out);have n1_:=aa (bS BK241.out);have n2_:=aa (dw HB.out);clear BK240 BK241 HB;have BK240:=ak;have BK241:=n1_;have HB:=n2_;clear ak n1_ n2_;refine jf (n:=23) (S:=λw'=>w'.cell? ⟨gb240,0,none⟩=some (.slice A0_0 l0_0.length c0_0)) (ds:=[]) (fe 23 0) (by kernel_rfl) rfl (by kernel_rfl) ((ah BK240.out 0).trans rfl) (λhHeld=>?_);refine j5 eT.tab1 eT.bits1 (λHT_ HW_=>?_)
    generalize w5.drew=w12 at BK240 BK241 HB hHeld ⊢;refine il 0 9 23 1 ?_;refine fV 1 (some 10) 23 3 λK hK=>?_;refine gq Tryz.func72 (by kernel_rfl) rfl #[.agg #[.slice A0_0 l0_0.length c0_0]] (by rfl) rfl rfl g_ ?_
    with_reducible refine (cZ.calls k _ _ l0_0 true _ ?s1 ?s2 A6.out).mono ?_
    (case s1=>exact bQ HR0_0.out)
    (case s2=>exact HC0_0.out)
    rintro e w13 ⟨rfl,hb⟩;refine ⟨_,rfl,?_⟩;have ak:=aa (aI (g:=gb240) (o:=.cells #[.slice A0_0 l0_0.length c0_0] 34 (0,0)) (aJ BK240.out) hb);have n1_:=aa (aI (g:=gb241) (o:=.cells #[.slice none 0 0] 34 (0,0)) (aJ BK241.out) hb);have n2_:=aa (aj (dM GE240.out GE241.out) hb);clear BK240 BK241 HB;have BK240:=ak;have BK241:=n1_;have HB:=n2_;clear ak n1_ n2_
    (try clear hb)
    (try clear hb2)
    (try clear hk)
    (try clear hi)
    refine hK.out _ _ ((ah BK240.out 0).trans rfl) (λhHeld=>?_);clear hK K;refine eG ?_;refine aK 2 11 23 7 ?_;refine aK 3 12 23 15 ?_;refine aK 4 13 23 31 ?_;refine fV 5 (some 14) 23 63 λK hK=>?_;refine gq Tryz.func183 (by kernel_rfl) rfl #[.int .i64 a1] (by rfl) rfl rfl g_ ?_
    with_reducible refine (kr.calls a1 true _ A8.out).mono ?_
    rintro e w' ⟨rfl,⟨nd,rfl⟩⟩;refine ⟨_,rfl,?_⟩;refine hK.out _ _ ((ah BK240.out 0).trans rfl) (λhHeld=>?_);clear hK K;refine eG ?_;refine aK 6 15 23 127 ?_;refine aK 7 16 23 255 ?_;refine aK 8 17 23 511 ?_;refine aK 9 18 23 1023 ?_;refine aK 11 20 23 3071 ?_;refine il 10 19 23 4095 ?_;refine fV 12 (some 21) 23 8191 λK hK=>?_;refine gq Tryz.func113 (by kernel_rfl) rfl #[.slice A0_0 l0_0.length c0_0,.int .i64 a1] (by rfl) rfl rfl g_ ?_
    by_cases c11:t244=true
    ·
     have H:=Hs_.out;clear Hs_;subst c11;rw[if_pos rfl]at H;have H':=aa H;clear H
     with_reducible refine (bD.calls k _ _ l0_0 a1 true _ ?s1 ?s2 A10.out).mono ?_
     (case s1=>exact pQ HR0_0.out GE240.out GE241.out)
     (case s2=>exact HC0_0.out)
     rintro e w' ⟨rfl,⟨nd,rfl⟩⟩;refine ⟨_,rfl,?_⟩;refine hK.out _ _ ((ah BK240.out 0).trans rfl) (λhHeld=>?_);clear hK K;refine eG ?_;refine aK 13 22 23 16383 ?_;refine aK 14 23 23 32767 ?_;refine bF 15 24 23 65535 ?_;refine bF 16 25 23 131071 ?_;refine bF 17 26 23 262143 ?_;refine bF 18 27 23 524287 ?_;refine bF 19 28 23 1048575 ?_;refine bF 20 29 23 2097151 ?_;refine bF 21 30 23 4194303 ?_;refine aK 22 31 23 8388607 ?_;refine iQ (jm HT_.out (by kernel_rfl)) ?_
     try go_wp2
     go_meet
     case rel=>exact ⟨_,(true),ag,H',⟨dF⟩,⟨aJ BK240.out⟩,⟨aJ BK241.out⟩,⟨dM GE240.out GE241.out⟩⟩
    have H:=Hs_.out;clear Hs_;replace c11:=Bool.eq_false_iff.mpr c11;subst c11;rw[if_neg Ad]at H;obtain ⟨t245,A14,H⟩:=aA H;have H':=aa H;clear H
    with_reducible refine (bD.calls k _ _ l0_0 a1 false _ ?s1 ?s2 A10.out).mono ?_
    (case s1=>exact pQ HR0_0.out GE240.out GE241.out)
    (case s2=>exact HC0_0.out)
    rintro e w' ⟨rfl,⟨nd,rfl⟩⟩;refine ⟨_,rfl,?_⟩;refine hK.out _ _ ((ah BK240.out 0).trans rfl) (λhHeld=>?_);clear hK K;refine eG ?_;refine aK 13 22 23 16383 ?_;refine aK 14 23 23 32767 ?_;refine aK 17 26 23 163839 ?_;refine il 15 24 23 196607 ?_;refine il 18 27 23 458751 ?_;refine aK 19 28 23 983039 ?_;refine aK 20 29 23 2031615 ?_;refine fV 16 (some 25) 23 2097151 λK hK=>?_;refine gq Tryz.func184 (by kernel_rfl) rfl #[.agg #[.slice A0_0 l0_0.length c0_0]] (by rfl) rfl rfl g_ ?_
    with_reducible refine (iR.calls k _ _ l0_0 t245 _ ?s1 ?s2 A14.out).mono ?_
    (case s1=>exact pQ HR0_0.out GE240.out GE241.out)
    (case s2=>exact HC0_0.out)
    rintro e w17 ⟨rfl,hb⟩;refine ⟨_,rfl,?_⟩;have ak:=aa (aI (g:=gb240) (o:=.cells #[.slice A0_0 l0_0.length c0_0] 34 (0,0)) (aJ BK240.out) hb);have n1_:=aa (aI (g:=gb241) (o:=.cells #[.slice none 0 0] 34 (0,0)) (aJ BK241.out) hb);have n2_:=aa (aj (dM GE240.out GE241.out) hb);clear BK240 BK241 HB;have BK240:=ak;have BK241:=n1_;have HB:=n2_;clear ak n1_ n2_
    (try clear hb)
    (try clear hb2)
    (try clear hk)
    (try clear hi)
    refine hK.out _ _ ((ah BK240.out 0).trans rfl) (λhHeld=>?_);clear hK K;refine eG ?_;refine aK 21 30 23 4194303 ?_;refine aK 22 31 23 8388607 ?_;refine iQ (jm HT_.out (by kernel_rfl)) ?_
    try go_wp2
    go_meet
    case rel=>exact ⟨_,((t245 == (wrap64 ((l0_0.length:Int) - 1)))),ag,H',⟨dF⟩,⟨aJ BK240.out⟩,⟨aJ BK241.out⟩,⟨dM GE240.out GE241.out⟩⟩
   subst c9;have H':=aa H;clear H
   try go_wp2
   have ak:=aa (bS BK240.out);have n1_:=aa (bS BK241.out);have n2_:=aa (dw HB.out);clear BK240 BK241 HB;have BK240:=ak;have BK241:=n1_;have HB:=n2_;clear ak n1_ n2_;refine jf (n:=23) (S:=λw'=>w'.cell? ⟨gb240,0,none⟩=some (.slice A0_0 l0_0.length c0_0)) (ds:=[]) (fe 23 0) (by kernel_rfl) rfl (by kernel_rfl) ((ah BK240.out 0).trans rfl) (λhHeld=>?_);refine j5 eT.tab1 eT.bits1 (λHT_ HW_=>?_)
   generalize w5.drew=w18 at BK240 BK241 HB hHeld ⊢;refine il 0 9 23 1 ?_;refine fV 1 (some 10) 23 3 λK hK=>?_;refine gq Tryz.func72 (by kernel_rfl) rfl #[.agg #[.slice A0_0 l0_0.length c0_0]] (by rfl) rfl rfl g_ ?_
   with_reducible refine (cZ.calls k _ _ l0_0 true _ ?s1 ?s2 A6.out).mono ?_
   (case s1=>exact bQ HR0_0.out)
   (case s2=>exact HC0_0.out)
   rintro e w19 ⟨rfl,hb⟩;refine ⟨_,rfl,?_⟩;have ak:=aa (aI (g:=gb240) (o:=.cells #[.slice A0_0 l0_0.length c0_0] 34 (0,0)) (aJ BK240.out) hb);have n1_:=aa (aI (g:=gb241) (o:=.cells #[.slice none 0 0] 34 (0,0)) (aJ BK241.out) hb);have n2_:=aa (aj (dM GE240.out GE241.out) hb);clear BK240 BK241 HB;have BK240:=ak;have BK241:=n1_;have HB:=n2_;clear ak n1_ n2_
   (try clear hb)
   (try clear hb2)
   (try clear hk)
   (try clear hi)
   refine hK.out _ _ ((ah BK240.out 0).trans rfl) (λhHeld=>?_);clear hK K;refine eG ?_;refine aK 2 11 23 7 ?_;refine aK 3 12 23 15 ?_;refine aK 4 13 23 31 ?_;refine fV 5 (some 14) 23 63 λK hK=>?_;refine gq Tryz.func183 (by kernel_rfl) rfl #[.int .i64 a1] (by rfl) rfl rfl g_ ?_
   with_reducible refine (kr.calls a1 false _ A8.out).mono ?_
   rintro e w' ⟨rfl,⟨nd,rfl⟩⟩;refine ⟨_,rfl,?_⟩;refine hK.out _ _ ((ah BK240.out 0).trans rfl) (λhHeld=>?_);clear hK K;refine eG ?_;refine aK 6 15 23 127 ?_;refine aK 7 16 23 255 ?_;refine aK 8 17 23 511 ?_;refine bF 9 18 23 1023 ?_;refine bF 10 19 23 2047 ?_;refine bF 11 20 23 4095 ?_;refine bF 12 21 23 8191 ?_;refine aK 13 22 23 16383 ?_;refine aK 14 23 23 32767 ?_;refine bF 15 24 23 65535 ?_;refine bF 16 25 23 131071 ?_;refine bF 17 26 23 262143 ?_;refine bF 18 27 23 524287 ?_;refine bF 19 28 23 1048575 ?_;refine bF 20 29 23 2097151 ?_;refine bF 21 30 23 4194303 ?_;refine aK 22 31 23 8388607 ?_;refine iQ (jm HT_.out (by kernel_rfl)) ?_
   try go_wp2
   go_meet
   case rel=>exact ⟨_,(true),ag,H',⟨dF⟩,⟨aJ BK240.out⟩,⟨aJ BK241.out⟩,⟨dM GE240.out GE241.out⟩⟩
  subst c7;have H':=aa H;clear H
  try go_wp2
  have ak:=aa (bS BK240.out);have n1_:=aa (bS BK241.out);have n2_:=aa (dw HB.out);clear BK240 BK241 HB;have BK240:=ak;have BK241:=n1_;have HB:=n2_;clear ak n1_ n2_;refine jf (n:=23) (S:=λw'=>w'.cell? ⟨gb240,0,none⟩=some (.slice A0_0 l0_0.length c0_0)) (ds:=[]) (fe 23 0) (by kernel_rfl) rfl (by kernel_rfl) ((ah BK240.out 0).trans rfl) (λhHeld=>?_);refine j5 eT.tab1 eT.bits1 (λHT_ HW_=>?_)
  generalize w5.drew=w20 at BK240 BK241 HB hHeld ⊢;refine il 0 9 23 1 ?_;refine fV 1 (some 10) 23 3 λK hK=>?_;refine gq Tryz.func72 (by kernel_rfl) rfl #[.agg #[.slice A0_0 l0_0.length c0_0]] (by rfl) rfl rfl g_ ?_
  with_reducible refine (cZ.calls k _ _ l0_0 false _ ?s1 ?s2 A6.out).mono ?_
  (case s1=>exact bQ HR0_0.out)
  (case s2=>exact HC0_0.out)
  rintro e w21 ⟨rfl,hb⟩;refine ⟨_,rfl,?_⟩;have ak:=aa (aI (g:=gb240) (o:=.cells #[.slice A0_0 l0_0.length c0_0] 34 (0,0)) (aJ BK240.out) hb);have n1_:=aa (aI (g:=gb241) (o:=.cells #[.slice none 0 0] 34 (0,0)) (aJ BK241.out) hb);have n2_:=aa (aj (dM GE240.out GE241.out) hb);clear BK240 BK241 HB;have BK240:=ak;have BK241:=n1_;have HB:=n2_;clear ak n1_ n2_
  (try clear hb)
  (try clear hb2)
  (try clear hk)
  (try clear hi)
  refine hK.out _ _ ((ah BK240.out 0).trans rfl) (λhHeld=>?_);clear hK K;refine eG ?_;refine aK 2 11 23 7 ?_;refine aK 3 12 23 15 ?_;refine bF 4 13 23 31 ?_;refine bF 5 14 23 63 ?_;refine bF 6 15 23 127 ?_;refine aK 7 16 23 255 ?_;refine aK 8 17 23 511 ?_;refine bF 9 18 23 1023 ?_;refine bF 10 19 23 2047 ?_;refine bF 11 20 23 4095 ?_;refine bF 12 21 23 8191 ?_;refine aK 13 22 23 16383 ?_;refine aK 14 23 23 32767 ?_;refine bF 15 24 23 65535 ?_;refine bF 16 25 23 131071 ?_;refine bF 17 26 23 262143 ?_;refine bF 18 27 23 524287 ?_;refine bF 19 28 23 1048575 ?_;refine bF 20 29 23 2097151 ?_;refine bF 21 30 23 4194303 ?_;refine aK 22 31 23 8388607 ?_;refine iQ (jm HT_.out (by kernel_rfl)) ?_
  try go_wp2
  go_meet
  case rel=>exact ⟨_,(true),ag,H',⟨dF⟩,⟨aJ BK240.out⟩,⟨aJ BK241.out⟩,⟨dM GE240.out GE241.out⟩⟩
 case rest =>
  clear HC3;obtain ⟨kq,x31_2,rfl,HA,HJ2,BK240,BK241,HB⟩:=hcut;cases kq with
  | zero=>exact ak HA.out
  | succ kj2 =>
   have H:=HA.out;clear HA;simp only[eT.j0]at H;revert H;refine bA (λc22 H=>?_) λc22 H=>?_
   ·
    subst c22;obtain ⟨rfl,rfl,rfl⟩:=eD H;have hnb23:=NB241_240.out;have hnc23:=NB240_241.out;have hcz24_0:wc.cell? ⟨gb241,0,none⟩=some (.slice none 0 0):=(ah BK241.out 0).trans rfl;have hfz24_0:=au BK241.out 0;go_wp2;refine bodyPost_ret (sF rfl _ _ gb241 34 #[.slice none 0 0] (0,0) _ rfl (lm BK241.out) Tryz.underlying34 rfl (by kernel_rfl)) rfl ?_;exact ⟨_,aU,d9,dM GE240.out GE241.out⟩
   subst c22;obtain ⟨t246,A25,H⟩:=aA H;obtain ⟨⟨t250,t251⟩,A26,H⟩:=aA H;dsimp only at H;obtain ⟨rfl,rfl,rfl⟩:=eD H;have hnb27:=NB240_241.out;have hnc27:=NB241_240.out;have hcz28_0:wc.cell? ⟨gb240,0,none⟩=some (.slice A0_0 l0_0.length c0_0):=(ah BK240.out 0).trans rfl;have hfz28_0:=au BK240.out 0
   go_wp2_with (first|((with_reducible refine av 70 ?_);refine ax 35 Tryz.func70 #[.slice A0_0 l0_0.length c0_0] ?_;(with_reducible refine (fH.calls _ _ l0_0 t246 _ ?s1 ?s2 A25.out).mono ?_);(case s1=>exact bQ HR0_0.out);(case s2=>exact HC0_0.out);rintro e w29 ⟨v247,rfl,ho0,hb⟩;refine ⟨_,rfl,?_⟩;have HO248:=aa (Kd.R_lower ho0 (ay (dM GE240.out GE241.out)));replace BK240:=aa (aI (g:=gb240) (o:=.cells #[.slice A0_0 l0_0.length c0_0] 34 (0,0)) (aJ BK240.out) hb);replace BK241:=aa (aI (g:=gb241) (o:=.cells #[.slice none 0 0] 34 (0,0)) (aJ BK241.out) hb);replace HB:=aa (aj (dM GE240.out GE241.out) hb);clear hb ho0;obtain ⟨Ao30,co30,eo30⟩:=Kd.R_slice HO248.out;subst eo30)|((with_reducible refine dm 7 ?_);(try (refine kZ (by rfl) ?_;dsimp only));refine fJ #[.slice none 0 0] 34 ?_;intro gb249 hg w31 hbox hb;replace HO248:=aa (Kd.R_below (ai HO248.out) hb);have BK249:=aa (hbox);have GW249:=aa ((by rw[hg];exact (ay (dM GE240.out GE241.out)):w.heap.size<=gb249));have GE249:=aa ((by rw[hg];exact (ay (dM GE240.out GE241.out)):w.heap.size<=gb249));have NB240_249:=aa ((by rw[hg];exact Nat.ne_of_lt (dC (g:=gb240) (o:=.cells #[.slice A0_0 l0_0.length c0_0] 34 (0,0)) (aJ BK240.out)):gb240≠gb249));have NB249_240:=aa ((by rw[hg];exact Nat.ne_of_gt (dC (g:=gb240) (o:=.cells #[.slice A0_0 l0_0.length c0_0] 34 (0,0)) (aJ BK240.out)):gb249≠gb240));replace BK240:=aa (aI (g:=gb240) (o:=.cells #[.slice A0_0 l0_0.length c0_0] 34 (0,0)) (aJ BK240.out) hb);have NB241_249:=aa ((by rw[hg];exact Nat.ne_of_lt (dC (g:=gb241) (o:=.cells #[.slice none 0 0] 34 (0,0)) (aJ BK241.out)):gb241≠gb249));have NB249_241:=aa ((by rw[hg];exact Nat.ne_of_gt (dC (g:=gb241) (o:=.cells #[.slice none 0 0] 34 (0,0)) (aJ BK241.out)):gb249≠gb241));replace BK241:=aa (aI (g:=gb241) (o:=.cells #[.slice none 0 0] 34 (0,0)) (aJ BK241.out) hb);replace HB:=aa (aj (dM GE240.out GE241.out) hb);clear hb hbox hg;have hnb32:=NB249_240.out;have hnc32:=NB240_249.out;have hnb33:=NB249_241.out;have hnc33:=NB241_249.out;have hcz34_0:w31.cell? ⟨gb249,0,none⟩=some (.slice none 0 0):=(ah BK249.out 0).trans rfl;have hfz34_0:=au BK249.out 0)|((with_reducible refine jh (t:=34) (p:=7) rfl ?_);refine jF (t:=34) (p:=7) (v:=?vo_w35) (w1:=(w31.setCell ⟨gb249,0,none⟩ (.slice Ao30 t246.length co30))) ?hg ?ho ?hn ?hr ?_;(case ho=>rfl);(case hg=>rfl);(case hn=>rfl);(case hr=>exact eO);intro w35 hw;have ak:ae (Kd.R (Kd.int .i64) 3 w35 w.heap.size (λ_=>True) (.slice Ao30 t246.length co30) t246):=⟨(by rw[hw];exact (by (with_reducible repeat (first|apply Kd.R_alloc|apply Kd.R_drewN|apply Kd.R_drew));exact Kd.R_mono (Kd.R_far (p:=⟨gb249,0,none⟩) (Kd.R_types HO248.out BK249.out (by decide)) (λ_ hk=>hk.2) (.slice Ao30 t246.length co30)) (λ_ hk=>trivial)))⟩;have n1_:ae (w35.heap[gb240]?=some (.cells #[.slice A0_0 l0_0.length c0_0] 34 (0,0))):=⟨(by rw[hw];exact (oJ NB240_249.out BK240.out))⟩;have n2_:ae (w35.heap[gb241]?=some (.cells #[.slice none 0 0] 34 (0,0))):=⟨(by rw[hw];exact (oJ NB241_249.out BK241.out))⟩;have n3_:ae (w35.heap[gb249]?=some (.cells #[.slice Ao30 t246.length co30] 34 (0,0))):=⟨(by rw[hw];exact (lm BK249.out))⟩;have n4_:ae (Below w.heap.size w w35):=⟨(by rw[hw];exact (ow GE240.out GE241.out GE249.out))⟩;clear hw;clear HO248;clear BK240;clear BK241;clear BK249;clear HB;have HO248:=ak;have BK240:=n1_;have BK241:=n2_;have BK249:=n3_;have HB:=n4_;clear ak n1_ n2_ n3_ n4_;have hcz36_0:w35.cell? ⟨gb249,0,none⟩=some (.slice Ao30 t246.length co30):=(ah BK249.out 0).trans rfl;have hfz36_0:=au BK249.out 0)|((with_reducible refine av 185 ?_);refine ax 40 Tryz.func185 #[.slice Ao30 t246.length co30,.int .i64 a1] ?_;(with_reducible refine (iZ.calls kj2 (λk_=>some k_=(.slice Ao30 t246.length co30:Value).ownBlock) (.slice Ao30 t246.length co30) t246 a1 t250 t251 w _ ?s1 ?s2 A26.out).mono ?_);(case s1=>exact ow GE240.out GE241.out GE249.out);(case s2=>exact Kd.R_tight rfl HO248.out);rintro e w37 ⟨rfl,hy0,hb,hkp⟩;refine ⟨_,rfl,?_⟩;replace BK240:=aa (oK (aJ BK240.out) hkp (λhs_=>(λe_=>(Kd.R_ne HO248.out BK240.out (by decide)) e_) hs_));replace BK241:=aa (oK (aJ BK241.out) hkp (λhs_=>(λe_=>(Kd.R_ne HO248.out BK241.out (by decide)) e_) hs_));replace BK249:=aa (oK (aJ BK249.out) hkp (λhs_=>(λe_=>(Kd.R_ne HO248.out BK249.out (by decide)) e_) hs_));replace HO248:=aa (Kd.R_reok rfl hy0 (λk_ e_=>HO248.out.1 k_ e_));replace HB:=aa (hb);clear hb;(try clear hkp);(try clear hy0);have hcz38_0:w37.cell? ⟨gb249,0,none⟩=some (.slice Ao30 t246.length co30):=(ah BK249.out 0).trans rfl;have hfz38_0:=au BK249.out 0;have hcz39_0:w37.cell? ⟨gb241,0,none⟩=some (.slice none 0 0):=(ah BK241.out 0).trans rfl;have hfz39_0:=au BK241.out 0))
   refine bodyPost_ret (sF rfl _ _ gb241 34 #[.slice Ao30 t246.length co30] (0,0) _ rfl (lm BK241.out) Tryz.underlying34 rfl (by kernel_rfl)) rfl ?_;exact ⟨_,aU,by (with_reducible repeat (first|apply Kd.R_alloc|apply Kd.R_drewN|apply Kd.R_drew));exact Kd.R_mono (Kd.R_far (p:=⟨gb241,0,none⟩) (Kd.R_types HO248.out BK241.out (by decide)) (λ_ hk=>hk.2) (.slice Ao30 t246.length co30)) (λ_ hk=>trivial),ow GE240.out GE241.out GE249.out⟩
def iB.l0:Nat->Int->List Int->Int->Int->Option (Int)
 | 0,_,_,_,_=>none
 | k+1,x1,x8,x9,x10=>if x10<x9 then (if 0<=x10 then (if x10<(x8.length:Int)then (if (rd x8 x10)=x1 then (some x10)else (iB.l0 k x1 x8 x9 (wrap64 (x10+1))))else (none))else (none))else (some (-1))
def iB.f(k:Nat)(l0_0:List Int)(a1:Int):Option (Int):=iB.l0 k a1 l0_0 (l0_0.length:Int) 0
theorem iB.calls(k:Nat)(A0_0:Option Addr)(c0_0:Nat)(l0_0:List Int)(a1:Int)(r:Int)(w:World)(hr0_0:Kd.C (Kd.int .i64) w A0_0 l0_0.length l0_0)(hc0_0:l0_0.length<=c0_0)(h:iB.f k l0_0 a1=some r) :
  Calls Tryz.prog 186 #[.agg #[.slice A0_0 l0_0.length c0_0],.int .i64 a1] w λe w'=>e=.returned (.int .i64 r)/\Below w.heap.size w w':=by
 have hu34:=Tryz.underlying34;have HR0_0:=aa hr0_0;have HC0_0:=aa hc0_0;clear hr0_0 hc0_0;have HB:=aa (Below.refl w.heap.size w);unfold iB.f at h;have H:=h;clear h;have H':=aa H;clear H;go_enter Tryz.func186,Tryz.ntmps186;go_wp2_with (first|((with_reducible refine dm 2 ?_);refine fJ #[.slice A0_0 l0_0.length c0_0] 34 ?_;intro gb252 hg w3 hbox hb;have BK252:=aa (hbox);have GW252:=aa ((by rw[hg];exact (ay af):w.heap.size<=gb252));have GE252:=aa ((by rw[hg];exact (ay af):w.heap.size<=gb252));replace HB:=aa (aj af hb);clear hb hbox hg;have hcz4_0:w3.cell? ⟨gb252,0,none⟩=some (.slice A0_0 l0_0.length c0_0):=(ah BK252.out 0).trans rfl;have hfz4_0:=au BK252.out 0))
 go_loopg [10] k (λkq v10 w'=>∃ (x10_1:Int),v10=.int .i64 x10_1/\ae (iB.l0 kq a1 l0_0 (l0_0.length:Int) x10_1=some r)/\ae (kq<=k)/\ae (w'.heap[gb252]?=some (.cells #[(.slice A0_0 l0_0.length c0_0)] 34 (0,0)))/\ae (Below w.heap.size w w'))
 case atStart=>exact ⟨(0),ag,H',⟨Nat.le_refl _⟩,⟨aJ BK252.out⟩,⟨aY GE252.out⟩⟩
 case round =>
  clear H';obtain ⟨x10_1,rfl,HA,HK1,BK252,HB⟩:=hrel;cases gk with
  | zero=>exact ak HA.out
  | succ k1 =>
   have H:=HA.out;clear HA;simp only[iB.l0]at H;revert H;refine bi (λc5b0 H=>?_) λc5b0 H=>?_
   ·
    revert H;refine aX λc6b0 H=>?_;revert H;refine aX λc7b0 H=>?_;revert H;refine dH (λc8b0 c8b1 H=>?_) λc8 c8b0 c8b1 H=>?_
    ·
     obtain rfl:=Option.some.inj H;obtain ⟨ad253,rfl,hx253_0,p253,q253⟩:=bW HR0_0.out x10_1
     (try (replace hx253_0:=(HB.out.cell (World.block_lt_of_cell? w _ hx253_0)).trans hx253_0))
     go_wp2;go_ret;exact ⟨aU,aY GE252.out⟩
    have H':=aa H;clear H;obtain ⟨ad253,rfl,hx253_0,p253,q253⟩:=bW HR0_0.out x10_1
    (try (replace hx253_0:=(HB.out.cell (World.block_lt_of_cell? w _ hx253_0)).trans hx253_0))
    go_wp2;go_roundg k1
    case measure=>have:=HK1.out;omega
    case rel=>exact ⟨(wrap64 (x10_1+1)),ag,H',⟨bB HK1.out⟩,⟨aJ BK252.out⟩,⟨aY GE252.out⟩⟩
   obtain rfl:=Option.some.inj H;go_wp2;go_ret;exact ⟨aU,aY GE252.out⟩
def jD.l0:Nat->List Int->List Int->List Int->Int->Int->Option (List Int)
 | 0,_,_,_,_,_=>none
 | k+1,x0,x5,x10,x11,x12=>if x12<x11 then (if 0<=x12 then (if x12<(x10.length:Int)then (if x12<(x0.length:Int)then (if x5.length<17592186044416 then (jD.l0 k x0 (x5++[wrap64 ((rd x10 x12) - (rd x0 x12))]) x10 x11 (wrap64 (x12+1)))else (none))else (none))else (none))else (none))else (some x5)
def jD.f(k:Nat)(l0:List Int)(a1:Int):Option (List Int):=(dP.f k l0 a1).bind λt254=>(jD.l0 k l0 ([]:List Int) t254 (t254.length:Int) 0)
theorem jD.calls(k:Nat)(A0:Option Addr)(c0:Nat)(l0:List Int)(a1:Int)(r:List Int)(w:World)(hr0:Kd.C (Kd.int .i64) w A0 l0.length l0)(hc0:l0.length<=c0)(h:jD.f k l0 a1=some r) :
  Calls Tryz.prog 127 #[.slice A0 l0.length c0,.int .i64 a1] w λe w'=>∃v0_:Value,e=.returned (v0_)/\Kd.R (Kd.int .i64) 3 w' w.heap.size (λ_=>True) v0_ r/\Below w.heap.size w w':=by
 have HR0:=aa hr0;have HC0:=aa hc0;clear hr0 hc0;have HB:=aa (Below.refl w.heap.size w);unfold jD.f at h;have H:=h;clear h;obtain ⟨t254,A3,H⟩:=aA H;have H':=aa H;clear H;go_enter Tryz.func127,Tryz.ntmps127;go_wp2_with (first|((with_reducible refine av 126 ?_);refine ax 10 Tryz.func126 #[.slice A0 l0.length c0,.int .i64 a1] ?_;(with_reducible refine (dP.calls k _ _ l0 a1 t254 _ ?s1 ?s2 A3.out).mono ?_);(case s1=>exact dU HR0.out);(case s2=>exact HC0.out);rintro e w4 ⟨v255,rfl,ho0,hb⟩;refine ⟨_,rfl,?_⟩;have HO256:=aa (Kd.R_lower ho0 (ay af));replace HB:=aa (aj af hb);clear hb ho0;obtain ⟨Ao5,co5,eo5⟩:=Kd.R_slice HO256.out;subst eo5))
 go_loopg [5,12] k (λkq v5 v12 w'=>∃ (x5_1:List Int) (x12_1:Int),v12=.int .i64 x12_1/\ae (jD.l0 kq l0 x5_1 t254 (t254.length:Int) x12_1=some r)/\ae (kq<=k)/\ae (Kd.R (Kd.int .i64) 3 w' w.heap.size (λk_=>some k_≠((.slice Ao5 t254.length co5):Value).ownBlock) v5 x5_1)/\ae (Kd.R (Kd.int .i64) 3 w' w.heap.size (λk_=>some k_≠(v5:Value).ownBlock) (.slice Ao5 t254.length co5) t254)/\ae (Below w.heap.size w w'))
 case atStart=>exact ⟨(([]:List Int)),(0),ag,H',⟨Nat.le_refl _⟩,⟨d9⟩,⟨by (with_reducible repeat (first|apply Kd.R_alloc|apply Kd.R_drewN|apply Kd.R_drew));exact Kd.R_mono HO256.out (λ_ hk=>(by simp[Value.ownBlock]))⟩,⟨af⟩⟩
 case round =>
  clear H';obtain ⟨x5_1,x12_1,rfl,HA,HK1,HO_5,HO_10,HB⟩:=hrel;cases gk with
  | zero=>exact ak HA.out
  | succ k1 =>
   have H:=HA.out;clear HA;simp only[jD.l0]at H;revert H;refine bi (λc6b0 H=>?_) λc6b0 H=>?_
   ·
    revert H;refine aX λc7b0 H=>?_;revert H;refine aX λc8b0 H=>?_;revert H;refine aX λc9b0 H=>?_;revert H;refine bZ λc10 H=>?_;have LMc10:=aa c10;clear c10;obtain ⟨y259,hy259⟩:=bv ((x5_1++[wrap64 ((rd t254 x12_1) - (rd l0 x12_1))]):List Int);replace H:(jD.l0 k1 l0 y259 t254 (t254.length:Int) (wrap64 (x12_1+1)))=some r:=bu hy259 H;have Ny259:=aa hy259;clear hy259;have H':=aa H;clear H;obtain ⟨ad257,rfl,hx257_0,p257,q257⟩:=bW (f_ HO_10.out) x12_1;obtain ⟨ad258,rfl,hx258_0,p258,q258⟩:=bW HR0.out x12_1
    (try (replace hx258_0:=(HB.out.cell (World.block_lt_of_cell? w _ hx258_0)).trans hx258_0))
    go_wp2_with (first|((with_reducible refine dE (b:=.append) (xs:=#[.tmp 17,.tmp 24]) rfl ?_);at_builtin;refine eQ (w0:=w) (.tmp 17) (.tmp 24) u5 x5_1 (wrap64 ((rd t254 x12_1) - (rd l0 x12_1))) (λk_=>some k_≠(.slice (some ad257) t254.length co5:Value).ownBlock) (λk_ hk=>Kd.fresh' (Kd.R_lt (ai HO_10.out)) k_ hk) (ai HO_5.out) af (by exact bB LMc10.out) ?_;intro v260 w11 ho hb hg hat;rw[<- Ny259.out]at ho;replace HO_10:=aa (Kd.R_after (ok:=(λ_=>True)) (xy HO_10.out) hg hat);replace HB:=aa (hb);have HO261:=aa (ho);clear ho hb hg hat));go_roundg k1
    case measure=>have:=HK1.out;omega
    case rel=>exact ⟨(y259),(wrap64 (x12_1+1)),ag,H',⟨bB HK1.out⟩,⟨ai HO261.out⟩,⟨lC HO_10.out⟩,⟨af⟩⟩
   obtain rfl:=Option.some.inj H;go_wp2;go_ret;exact ⟨_,aU,kJ HO_5.out,af⟩
def iD.l0:Nat->Int->Int->List Int->Int->Int->Option (Int)
 | 0,_,_,_,_,_=>none
 | k+1,x1,x5,x8,x9,x10=>if x10<x9 then (if 0<=x10 then (if x10<(x8.length:Int)then (if (rd x8 x10) >= x1 then (iD.l0 k x1 (wrap64 (x5+1)) x8 x9 (wrap64 (x10+1)))else (iD.l0 k x1 x5 x8 x9 (wrap64 (x10+1))))else (none))else (none))else (some x5)
def iD.f(k:Nat)(l0:List Int)(a1:Int):Option (Int):=iD.l0 k a1 0 l0 (l0.length:Int) 0
theorem iD.calls(k:Nat)(A0:Option Addr)(c0:Nat)(l0:List Int)(a1:Int)(r:Int)(w:World)(hr0:Kd.C (Kd.int .i64) w A0 l0.length l0)(hc0:l0.length<=c0)(h:iD.f k l0 a1=some r) :
  Calls Tryz.prog 187 #[.slice A0 l0.length c0,.int .i64 a1] w λe w'=>e=.returned (.int .i64 r)/\bg w w':=by
 have HR0:=aa hr0;have HC0:=aa hc0;clear hr0 hc0;unfold iD.f at h;have H:=h;clear h;have H':=aa H;clear H;go_enter Tryz.func187,Tryz.ntmps187;go_wp2
 go_loopg [5,10] k (λkq v5 v10 w'=>∃ (x5_1:Int) (x10_1:Int),v5=.int .i64 x5_1/\v10=.int .i64 x10_1/\ae (iD.l0 kq a1 x5_1 l0 (l0.length:Int) x10_1=some r)/\ae (kq<=k)/\bg w w')
 case atStart=>exact ⟨(0),(0),ag,ag,H',⟨Nat.le_refl _⟩,aZ⟩
 case round =>
  clear H';obtain ⟨x5_1,x10_1,rfl,rfl,HA,HK1,⟨m1,rfl⟩⟩:=hrel;cases gk with
  | zero=>exact ak HA.out
  | succ k1 =>
   have H:=HA.out;clear HA;simp only[iD.l0]at H;revert H;refine bi (λc3b0 H=>?_) λc3b0 H=>?_
   ·
    revert H;refine aX λc4b0 H=>?_;revert H;refine aX λc5b0 H=>?_;revert H;refine bi (λc6b0 H=>?_) λc6b0 H=>?_
    ·
     have H':=aa H;clear H;obtain ⟨ad262,rfl,hx262_0,p262,q262⟩:=bW HR0.out x10_1;go_wp2;go_roundg k1
     case measure=>have:=HK1.out;omega
     case rel=>exact ⟨(wrap64 (x5_1+1)),(wrap64 (x10_1+1)),ag,ag,H',⟨bB HK1.out⟩,aZ⟩
    have H':=aa H;clear H;obtain ⟨ad262,rfl,hx262_0,p262,q262⟩:=bW HR0.out x10_1;go_wp2;go_roundg k1
    case measure=>have:=HK1.out;omega
    case rel=>exact ⟨(x5_1),(wrap64 (x10_1+1)),ag,ag,H',⟨bB HK1.out⟩,aZ⟩
   obtain rfl:=Option.some.inj H;go_wp2;go_ret;exact ⟨ag,aZ⟩
def iY.l0:Nat->List Int->List Int->Int->Option (List Int)
 | 0,_,_,_=>none
 | k+1,x0,x3,x4=>if x4<(x0.length:Int)then ((iD.f k x0 x4).bind λt263=>(if (wrap64 ((x0.length:Int) - t263))=x4 then (if x3.length<17592186044416 then (iY.l0 k x0 (x3++[x4]) (wrap64 (x4+1)))else (none))else (iY.l0 k x0 x3 (wrap64 (x4+1)))))else (some x3)
def iY.f(k:Nat)(l0:List Int):Option (List Int):=iY.l0 k l0 ([]:List Int) 1
theorem iY.calls(k:Nat)(A0:Option Addr)(c0:Nat)(l0:List Int)(r:List Int)(w:World)(hr0:Kd.C (Kd.int .i64) w A0 l0.length l0)(hc0:l0.length<=c0)(h:iY.f k l0=some r) :
  Calls Tryz.prog 128 #[.slice A0 l0.length c0] w λe w'=>∃v0_:Value,e=.returned (v0_)/\Kd.R (Kd.int .i64) 3 w' w.heap.size (λ_=>True) v0_ r/\Below w.heap.size w w':=by
 have HR0:=aa hr0;have HC0:=aa hc0;clear hr0 hc0;have HB:=aa (Below.refl w.heap.size w);unfold iY.f at h;have H:=h;clear h;have H':=aa H;clear H;go_enter Tryz.func128,Tryz.ntmps128;go_wp2
 go_loopg [3,4] k (λkq v3 v4 w'=>∃ (x3_1:List Int) (x4_1:Int),v4=.int .i64 x4_1/\ae (iY.l0 kq l0 x3_1 x4_1=some r)/\ae (kq<=k)/\ae (Kd.R (Kd.int .i64) 3 w' w.heap.size (λ_=>True) v3 x3_1)/\ae (Below w.heap.size w w'))
 case atStart=>exact ⟨(([]:List Int)),(1),ag,H',⟨Nat.le_refl _⟩,⟨d9⟩,⟨af⟩⟩
 case round =>
  clear H';obtain ⟨x3_1,x4_1,rfl,HA,HK1,HO_3,HB⟩:=hrel;cases gk with
  | zero=>exact ak HA.out
  | succ k1 =>
   have H:=HA.out;clear HA;simp only[iY.l0]at H;revert H;refine bi (λc2b0 H=>?_) λc2b0 H=>?_
   ·
    obtain ⟨t263,A3,H⟩:=aA H;revert H;refine dH (λc4b0 c4b1 H=>?_) λc4 c4b0 c4b1 H=>?_
    ·
     revert H;refine bZ λc5 H=>?_;have LMc5:=aa c5;clear c5;obtain ⟨y264,hy264⟩:=bv ((x3_1++[x4_1]):List Int);replace H:(iY.l0 k1 l0 y264 (wrap64 (x4_1+1)))=some r:=bu hy264 H;have Ny264:=aa hy264;clear hy264;have H':=aa H;clear H;go_wp2_with (first|((with_reducible refine av 187 ?_);refine ax 15 Tryz.func187 #[.slice A0 l0.length c0,.int .i64 x4_1] ?_;(with_reducible refine (iD.calls k1 _ _ l0 x4_1 t263 _ ?s1 ?s2 A3.out).mono ?_);(case s1=>exact bQ HR0.out);(case s2=>exact HC0.out);rintro e w' ⟨rfl,⟨nd,rfl⟩⟩;refine ⟨_,rfl,?_⟩)|((with_reducible refine dE (b:=.append) (xs:=#[.tmp 19,.tmp 21]) rfl ?_);at_builtin;refine eQ (w0:=w) (.tmp 19) (.tmp 21) u3 x3_1 x4_1 (λ_=>True) (λ_ _=>trivial) (ai HO_3.out) af (by exact bB LMc5.out) ?_;intro v265 w6 ho hb hg hat;rw[<- Ny264.out]at ho;replace HB:=aa (hb);have HO266:=aa (ho);clear ho hb hg hat));go_roundg k1
     case measure=>have:=HK1.out;omega
     case rel=>exact ⟨(y264),(wrap64 (x4_1+1)),ag,H',⟨bB HK1.out⟩,⟨ai HO266.out⟩,⟨af⟩⟩
    have H':=aa H;clear H;go_wp2_with (first|((with_reducible refine av 187 ?_);refine ax 15 Tryz.func187 #[.slice A0 l0.length c0,.int .i64 x4_1] ?_;(with_reducible refine (iD.calls k1 _ _ l0 x4_1 t263 _ ?s1 ?s2 A3.out).mono ?_);(case s1=>exact bQ HR0.out);(case s2=>exact HC0.out);rintro e w' ⟨rfl,⟨nd,rfl⟩⟩;refine ⟨_,rfl,?_⟩));go_roundg k1
    case measure=>have:=HK1.out;omega
    case rel=>exact ⟨(x3_1),(wrap64 (x4_1+1)),ag,H',⟨bB HK1.out⟩,⟨ai HO_3.out⟩,⟨af⟩⟩
   obtain rfl:=Option.some.inj H;go_wp2;go_ret;exact ⟨_,aU,ai HO_3.out,af⟩
def oW.f(k:Nat)(a0:Int):Option (Int × Bool):=(kF.f a0).bind λt267=>(if t267=true then ((jk.f k a0).bind λt268=>(some (t268,true)))else (some (0,false)))
theorem oW.calls(k:Nat)(a0:Int)(r1:Int)(r2:Bool)(w:World)(h:oW.f k a0=some (r1,r2)) :
  Calls Tryz.prog 131 #[.int .i64 a0] w λe w'=>e=.returned (.tuple #[.int .i64 r1,.bool r2])/\bg w w':=by
 unfold oW.f at h;have H:=h;clear h;obtain ⟨t267,A2,H⟩:=aA H;revert H;refine bA (λc3 H=>?_) λc3 H=>?_
 ·
  subst c3;obtain ⟨t268,A4,H⟩:=aA H;obtain ⟨rfl,rfl⟩:=dB H;go_enter Tryz.func131,Tryz.ntmps131;go_wp2_with (first|((with_reducible refine av 179 ?_);refine ax 5 Tryz.func179 #[.int .i64 a0] ?_;(with_reducible refine (kF.calls a0 true _ A2.out).mono ?_);rintro e w' ⟨rfl,⟨nd,rfl⟩⟩;refine ⟨_,rfl,?_⟩)|((with_reducible refine av 180 ?_);refine ax 8 Tryz.func180 #[.int .i64 a0] ?_;(with_reducible refine (jk.calls k a0 t268 _ A4.out).mono ?_);rintro e w' ⟨rfl,⟨nd,rfl⟩⟩;refine ⟨_,rfl,?_⟩));go_ret2;exact ⟨ag,aZ⟩
 subst c3;obtain ⟨rfl,rfl⟩:=dB H;go_enter Tryz.func131,Tryz.ntmps131;go_wp2_with (first|((with_reducible refine av 179 ?_);refine ax 5 Tryz.func179 #[.int .i64 a0] ?_;(with_reducible refine (kF.calls a0 false _ A2.out).mono ?_);rintro e w' ⟨rfl,⟨nd,rfl⟩⟩;refine ⟨_,rfl,?_⟩));go_ret2;exact ⟨ag,aZ⟩
def jN.f(k:Nat)(l0:List Int):Option (Bool):=if (l0.length:Int)<=8 then ((fC.f k l0 0 (l0.length:Int)).bind λt269=>(some t269))else (some false)
theorem jN.calls(k:Nat)(A0:Option Addr)(c0:Nat)(l0:List Int)(r:Bool)(w:World)(hr0:Kd.C (Kd.int .i64) w A0 l0.length l0)(hc0:l0.length<=c0)(h:jN.f k l0=some r) :
  Calls Tryz.prog 91 #[.slice A0 l0.length c0] w λe w'=>e=.returned (.bool r)/\bg w w':=by
 have HR0:=aa hr0;have HC0:=aa hc0;clear hr0 hc0;unfold jN.f at h;have H:=h;clear h
 by_cases c2:(l0.length:Int)<=8
 ·
  rw[if_pos c2]at H;have c2b0:=decide_eq_true c2;have c2b1:decide (l0.length<=8)=true:=decide_eq_true (by omega);clear c2;obtain ⟨t269,A3,H⟩:=aA H;obtain rfl:=Option.some.inj H;go_enter Tryz.func91,Tryz.ntmps91;go_wp2_with (first|(go_at_call 110;(with_reducible refine (fC.calls k _ _ l0 0 (l0.length:Int) t269 _ ?s1 ?s2 A3.out).mono ?_);(case s1=>exact dU HR0.out);(case s2=>exact HC0.out);rintro e w' ⟨rfl,⟨nd,rfl⟩⟩));go_ret;exact ⟨ag,aZ⟩
 rw[if_neg c2]at H;have c2b0:=decide_eq_false c2;have c2b1:decide (l0.length<=8)=false:=decide_eq_false (by omega);clear c2;obtain rfl:=Option.some.inj H;go_enter Tryz.func91,Tryz.ntmps91;go_wp2;go_ret;exact ⟨ag,aZ⟩
def jN.Pure:Prop:=∀ (l0:List Int),l0.length<=maxLen->l0.length * 8<=140737488351232->(∀x∈l0,(Lit.int .i64 x).wf=true)->∃k,jN.f k l0=some true
theorem jN.walk(P:jN.Pure)(a0:Option Addr)(len0 cap0:Nat)(z0:List Int)(w:World)(w0:(a0=none/\len0=0/\cap0=0/\z0=[])\/∃x,a0=some x/\len0<=cap0/\cap0<=maxLen/\z0.length=cap0/\(∀i,i<z0.length->w.cell? (x.add i)=some (.int .i64 (z0.getD i 0)))/\∀n∈z0,(Lit.int .i64 n).wf=true)(y0:len0 * 8<=140737488351232) :
  Calls Tryz.prog 91 #[.slice a0 len0 cap0] w λe w'=>e=.returned (.bool true)/\Below w.heap.size w w':=by
 obtain ⟨l0,rfl,hr0,hm0,hw0,hc0⟩:=jW.ofRowC w0;obtain ⟨k,h⟩:=P l0 hm0 y0 hw0;refine (jN.calls k _ _ l0 true w (Kd.C_of_reads (d:=(0:Int)) (h1:=λ_=>rfl) hr0) hc0 h).mono ?_;rintro e w' ⟨rfl,hd⟩;exact ⟨rfl,hd.below⟩
mutual
def fF.l0:Nat->Int->List Int->List Int->Int->Int->Option (List Int)
 | 0,_,_,_,_,_=>none
 | k+1,x1,x5,x8,x9,x10=>if x10<x9 then (if 0<=x10 then (if x10<(x8.length:Int)then (fF.l1 k x1 x5 (rd x8 x10) x8 x9 x10)else (none))else (none))else (some x5)
def fF.l1:Nat->Int->List Int->Int->List Int->Int->Int->Option (List Int)
 | 0,_,_,_,_,_,_=>none
 | k+1,x1,x5,x7,x8,x9,x10=>(bD.f k x5 x7).bind λt271=>(if t271=true then (if x1=0 then (none)else (fF.l1 k x1 x5 (Int.tmod (wrap64 (x7+1)) x1) x8 x9 x10))else (if x5.length<17592186044416 then (fF.l0 k x1 (x5++[x7]) x8 x9 (wrap64 (x10+1)))else (none)))
end
def fF.f(k:Nat)(l0:List Int)(a1:Int):Option (List Int):=fF.l0 k a1 ([]:List Int) l0 (l0.length:Int) 0
theorem fF.calls(k:Nat)(A0:Option Addr)(c0:Nat)(l0:List Int)(a1:Int)(r:List Int)(w:World)(hr0:Kd.C (Kd.int .i64) w A0 l0.length l0)(hc0:l0.length<=c0)(h:fF.f k l0 a1=some r) :
  Calls Tryz.prog 230 #[.slice A0 l0.length c0,.int .i64 a1] w λe w'=>∃v0_:Value,e=.returned (v0_)/\Kd.R (Kd.int .i64) 3 w' w.heap.size (λ_=>True) v0_ r/\Below w.heap.size w w':=by
 have HR0:=aa hr0;have HC0:=aa hc0;clear hr0 hc0;have HB:=aa (Below.refl w.heap.size w);unfold fF.f at h;have H:=h;clear h;have H':=aa H;clear H;go_enter Tryz.func230,Tryz.ntmps230;go_wp2
 go_loopg [5,10] k (λkq v5 v10 w'=>∃ (x5_1:List Int) (x10_1:Int),v10=.int .i64 x10_1/\ae (fF.l0 kq a1 x5_1 l0 (l0.length:Int) x10_1=some r)/\ae (kq<=k)/\ae (Kd.R (Kd.int .i64) 3 w' w.heap.size (λ_=>True) v5 x5_1)/\ae (Below w.heap.size w w'))
 case atStart=>exact ⟨(([]:List Int)),(0),ag,H',⟨Nat.le_refl _⟩,⟨d9⟩,⟨af⟩⟩
 case round =>
  clear H';obtain ⟨x5_1,x10_1,rfl,HA,HK1,HO_5,HB⟩:=hrel;cases gk with
  | zero=>exact ak HA.out
  | succ k1 =>
   have H:=HA.out;clear HA;simp only[fF.l0]at H;revert H;refine bi (λc3b0 H=>?_) λc3b0 H=>?_
   ·
    revert H;refine aX λc4b0 H=>?_;revert H;refine aX λc5b0 H=>?_;have H':=aa H;clear H;obtain ⟨ad270,rfl,hx270_0,p270,q270⟩:=bW HR0.out x10_1
    (try (replace hx270_0:=(HB.out.cell (World.block_lt_of_cell? w _ hx270_0)).trans hx270_0))
    go_wp2
    go_loopg [7] k1 (λkq v7 w'=>∃ (x7_2:Int),v7=.int .i64 x7_2/\ae (fF.l1 kq a1 x5_1 x7_2 l0 (l0.length:Int) x10_1=some r)/\ae (kq<=k1)/\ae (Kd.R (Kd.int .i64) 3 w' w.heap.size (λ_=>True) u5 x5_1)/\ae (Below w.heap.size w w'))
    case atStart=>exact ⟨(rd l0 x10_1),ag,H',⟨Nat.le_refl _⟩,⟨ai HO_5.out⟩,⟨af⟩⟩
    case round =>
     clear H';obtain ⟨x7_2,rfl,HA,HK2,HO_5,HB⟩:=hrel;cases gk with
     | zero=>exact ak HA.out
     | succ k2 =>
      have H:=HA.out;clear HA;simp only[fF.l1]at H;obtain ⟨t271,A6,H⟩:=aA H;revert H;refine bA (λc7 H=>?_) λc7 H=>?_
      ·
       subst c7;revert H;refine jb λc8 H=>?_;have c8b0:=beq_eq_false_iff_ne.mpr c8;have c8b1:=bne_iff_ne.mpr c8;have H':=aa H;clear H;obtain ⟨Ao9,co9,eo9⟩:=Kd.R_slice HO_5.out;subst eo9;go_wp2_with (first|((with_reducible refine av 113 ?_);refine ax 16 Tryz.func113 #[.slice Ao9 x5_1.length co9,.int .i64 x7_2] ?_;(with_reducible refine (bD.calls k2 _ _ x5_1 x7_2 true _ ?s1 ?s2 A6.out).mono ?_);(case s1=>exact eH HO_5.out);(case s2=>exact (Kd.R_reads' HO_5.out).2.1);rintro e w' ⟨rfl,⟨nd,rfl⟩⟩;refine ⟨_,rfl,?_⟩));go_roundg k2
       case measure=>have:=HK1.out;have:=HK2.out;omega
       case rel=>exact ⟨(Int.tmod (wrap64 (x7_2+1)) a1),ag,H',⟨dR HK1.out HK2.out⟩,⟨ai HO_5.out⟩,⟨af⟩⟩
      subst c7;revert H;refine bZ λc10 H=>?_;have LMc10:=aa c10;clear c10;obtain ⟨y272,hy272⟩:=bv ((x5_1++[x7_2]):List Int);replace H:(fF.l0 k2 a1 y272 l0 (l0.length:Int) (wrap64 (x10_1+1)))=some r:=bu hy272 H;have Ny272:=aa hy272;clear hy272;have H':=aa H;clear H;obtain ⟨Ao11,co11,eo11⟩:=Kd.R_slice HO_5.out;subst eo11;go_wp2_with (first|((with_reducible refine av 113 ?_);refine ax 16 Tryz.func113 #[.slice Ao11 x5_1.length co11,.int .i64 x7_2] ?_;(with_reducible refine (bD.calls k2 _ _ x5_1 x7_2 false _ ?s1 ?s2 A6.out).mono ?_);(case s1=>exact eH HO_5.out);(case s2=>exact (Kd.R_reads' HO_5.out).2.1);rintro e w' ⟨rfl,⟨nd,rfl⟩⟩;refine ⟨_,rfl,?_⟩)|((with_reducible refine dE (b:=.append) (xs:=#[.tmp 21,.tmp 23]) rfl ?_);at_builtin;refine eQ (w0:=w) (.tmp 21) (.tmp 23) (.slice Ao11 x5_1.length co11) x5_1 x7_2 (λ_=>True) (λ_ _=>trivial) (ai HO_5.out) af (by exact bB LMc10.out) ?_;intro v273 w12 ho hb hg hat;rw[<- Ny272.out]at ho;replace HB:=aa (hb);have HO274:=aa (ho);clear ho hb hg hat));go_roundg k2
      case measure=>have:=HK1.out;have:=HK2.out;omega
      case rel=>exact ⟨(y272),(wrap64 (x10_1+1)),ag,H',⟨dR HK1.out HK2.out⟩,⟨ai HO274.out⟩,⟨af⟩⟩
   obtain rfl:=Option.some.inj H;go_wp2;go_ret;exact ⟨_,aU,ai HO_5.out,af⟩
def jL.l0:Nat->List Int->Int->Option (Int)
 | 0,_,_=>none
 | k+1,x3,x4=>(bD.f k x3 x4).bind λt278=>(if t278=true then (jL.l0 k x3 (wrap64 (x4+1)))else (some x4))
def jL.f(k:Nat)(l0:List Int):Option (Int):=(fF.f k l0 (wrap64 ((l0.length:Int)+1))).bind λt275=>(jL.l0 k t275 0)
theorem jL.calls(k:Nat)(A0:Option Addr)(c0:Nat)(l0:List Int)(r:Int)(w:World)(hr0:Kd.C (Kd.int .i64) w A0 l0.length l0)(hc0:l0.length<=c0)(h:jL.f k l0=some r) :
  Calls Tryz.prog 189 #[.slice A0 l0.length c0] w λe w'=>e=.returned (.int .i64 r)/\Below w.heap.size w w':=by
 have HR0:=aa hr0;have HC0:=aa hc0;clear hr0 hc0;have HB:=aa (Below.refl w.heap.size w);unfold jL.f at h;have H:=h;clear h;obtain ⟨t275,A2,H⟩:=aA H;have H':=aa H;clear H;go_enter Tryz.func189,Tryz.ntmps189;go_wp2_with (first|((with_reducible refine av 230 ?_);refine ax 9 Tryz.func230 #[.slice A0 l0.length c0,.int .i64 (wrap64 ((l0.length:Int)+1))] ?_;(with_reducible refine (fF.calls k _ _ l0 (wrap64 ((l0.length:Int)+1)) t275 _ ?s1 ?s2 A2.out).mono ?_);(case s1=>exact dU HR0.out);(case s2=>exact HC0.out);rintro e w3 ⟨v276,rfl,ho0,hb⟩;refine ⟨_,rfl,?_⟩;have HO277:=aa (Kd.R_lower ho0 (ay af));replace HB:=aa (aj af hb);clear hb ho0))
 go_loopg [4] k (λkq v4 w'=>∃ (x4_1:Int),v4=.int .i64 x4_1/\ae (jL.l0 kq t275 x4_1=some r)/\ae (kq<=k)/\ae (Kd.R (Kd.int .i64) 3 w' w.heap.size (λ_=>True) v276 t275)/\ae (Below w.heap.size w w'))
 case atStart=>exact ⟨(0),ag,H',⟨Nat.le_refl _⟩,⟨ai HO277.out⟩,⟨af⟩⟩
 case round =>
  clear H';obtain ⟨x4_1,rfl,HA,HK1,HO_3,HB⟩:=hrel;cases gk with
  | zero=>exact ak HA.out
  | succ k1 =>
   have H:=HA.out;clear HA;simp only[jL.l0]at H;obtain ⟨t278,A4,H⟩:=aA H;revert H;refine bA (λc5 H=>?_) λc5 H=>?_
   ·
    subst c5;have H':=aa H;clear H;obtain ⟨Ao6,co6,eo6⟩:=Kd.R_slice HO_3.out;subst eo6;go_wp2_with (first|((with_reducible refine av 113 ?_);refine ax 12 Tryz.func113 #[.slice Ao6 t275.length co6,.int .i64 x4_1] ?_;(with_reducible refine (bD.calls k1 _ _ t275 x4_1 true _ ?s1 ?s2 A4.out).mono ?_);(case s1=>exact eH HO_3.out);(case s2=>exact (Kd.R_reads' HO_3.out).2.1);rintro e w' ⟨rfl,⟨nd,rfl⟩⟩;refine ⟨_,rfl,?_⟩));go_roundg k1
    case measure=>have:=HK1.out;omega
    case rel=>exact ⟨(wrap64 (x4_1+1)),ag,H',⟨bB HK1.out⟩,⟨ai HO_3.out⟩,⟨af⟩⟩
   subst c5;obtain rfl:=Option.some.inj H;obtain ⟨Ao7,co7,eo7⟩:=Kd.R_slice HO_3.out;subst eo7;go_wp2_with (first|((with_reducible refine av 113 ?_);refine ax 12 Tryz.func113 #[.slice Ao7 t275.length co7,.int .i64 x4_1] ?_;(with_reducible refine (bD.calls k1 _ _ t275 x4_1 false _ ?s1 ?s2 A4.out).mono ?_);(case s1=>exact eH HO_3.out);(case s2=>exact (Kd.R_reads' HO_3.out).2.1);rintro e w' ⟨rfl,⟨nd,rfl⟩⟩;refine ⟨_,rfl,?_⟩));go_ret;exact ⟨aU,af⟩
def jS.l0:Nat->Int->Int->List Int->List Int->Int->Int->Option (List Int)
 | 0,_,_,_,_,_,_=>none
 | k+1,x1,x2,x7,x10,x11,x12=>if x12<x11 then (if 0<=x12 then (if x12<(x10.length:Int)then (if x1=0 then (none)else (if x7.length<17592186044416 then (jS.l0 k x1 x2 (x7++[Int.tmod (wrap64 ((Int.tmod (wrap64 ((rd x10 x12)+x2)) x1)+x1)) x1]) x10 x11 (wrap64 (x12+1)))else (none)))else (none))else (none))else (some x7)
def jS.f(k:Nat)(l0:List Int)(a1:Int)(a2:Int):Option (List Int):=jS.l0 k a1 a2 ([]:List Int) l0 (l0.length:Int) 0
theorem jS.calls(k:Nat)(A0:Option Addr)(c0:Nat)(l0:List Int)(a1:Int)(a2:Int)(r:List Int)(w:World)(hr0:Kd.C (Kd.int .i64) w A0 l0.length l0)(hc0:l0.length<=c0)(h:jS.f k l0 a1 a2=some r) :
  Calls Tryz.prog 190 #[.slice A0 l0.length c0,.int .i64 a1,.int .i64 a2] w λe w'=>∃v0_:Value,e=.returned (v0_)/\Kd.R (Kd.int .i64) 3 w' w.heap.size (λ_=>True) v0_ r/\Below w.heap.size w w':=by
 have HR0:=aa hr0;have HC0:=aa hc0;clear hr0 hc0;have HB:=aa (Below.refl w.heap.size w);unfold jS.f at h;have H:=h;clear h;have H':=aa H;clear H;go_enter Tryz.func190,Tryz.ntmps190;go_wp2
 go_loopg [7,12] k (λkq v7 v12 w'=>∃ (x7_1:List Int) (x12_1:Int),v12=.int .i64 x12_1/\ae (jS.l0 kq a1 a2 x7_1 l0 (l0.length:Int) x12_1=some r)/\ae (kq<=k)/\ae (Kd.R (Kd.int .i64) 3 w' w.heap.size (λ_=>True) v7 x7_1)/\ae (Below w.heap.size w w'))
 case atStart=>exact ⟨(([]:List Int)),(0),ag,H',⟨Nat.le_refl _⟩,⟨d9⟩,⟨af⟩⟩
 case round =>
  clear H';obtain ⟨x7_1,x12_1,rfl,HA,HK1,HO_7,HB⟩:=hrel;cases gk with
  | zero=>exact ak HA.out
  | succ k1 =>
   have H:=HA.out;clear HA;simp only[jS.l0]at H;revert H;refine bi (λc4b0 H=>?_) λc4b0 H=>?_
   ·
    revert H;refine aX λc5b0 H=>?_;revert H;refine aX λc6b0 H=>?_;revert H;refine jb λc7 H=>?_;have c7b0:=beq_eq_false_iff_ne.mpr c7;have c7b1:=bne_iff_ne.mpr c7;revert H;refine bZ λc8 H=>?_;have LMc8:=aa c8;clear c8;obtain ⟨y280,hy280⟩:=bv ((x7_1++[Int.tmod (wrap64 ((Int.tmod (wrap64 ((rd l0 x12_1)+a2)) a1)+a1)) a1]):List Int);replace H:(jS.l0 k1 a1 a2 y280 l0 (l0.length:Int) (wrap64 (x12_1+1)))=some r:=bu hy280 H;have Ny280:=aa hy280;clear hy280;have H':=aa H;clear H;obtain ⟨ad279,rfl,hx279_0,p279,q279⟩:=bW HR0.out x12_1
    (try (replace hx279_0:=(HB.out.cell (World.block_lt_of_cell? w _ hx279_0)).trans hx279_0))
    go_wp2_with (first|((with_reducible refine dE (b:=.append) (xs:=#[.tmp 16,.tmp 26]) rfl ?_);at_builtin;refine eQ (w0:=w) (.tmp 16) (.tmp 26) u7 x7_1 (Int.tmod (wrap64 ((Int.tmod (wrap64 ((rd l0 x12_1)+a2)) a1)+a1)) a1) (λ_=>True) (λ_ _=>trivial) (ai HO_7.out) af (by exact bB LMc8.out) ?_;intro v281 w9 ho hb hg hat;rw[<- Ny280.out]at ho;replace HB:=aa (hb);have HO282:=aa (ho);clear ho hb hg hat));go_roundg k1
    case measure=>have:=HK1.out;omega
    case rel=>exact ⟨(y280),(wrap64 (x12_1+1)),ag,H',⟨bB HK1.out⟩,⟨ai HO282.out⟩,⟨af⟩⟩
   obtain rfl:=Option.some.inj H;go_wp2;go_ret;exact ⟨_,aU,ai HO_7.out,af⟩
def oO.f(k:Nat)(l0:List Int):Option (List Int × Int × Bool):=(jN.f k l0).bind λt283=>(if t283=true then ((jL.f k l0).bind λt284=>((jS.f k l0 (wrap64 ((l0.length:Int)+1)) (wrap64 ((l0.length:Int) - t284))).bind λt285=>(some (t285,wrap64 ((l0.length:Int) - t284),true))))else (some (([]:List Int),0,false)))
theorem oO.calls(k:Nat)(A0:Option Addr)(c0:Nat)(l0:List Int)(r1:List Int)(r2:Int)(r3:Bool)(w:World)(hr0:Kd.C (Kd.int .i64) w A0 l0.length l0)(hc0:l0.length<=c0)(h:oO.f k l0=some (r1,r2,r3)) :
  Calls Tryz.prog 132 #[.slice A0 l0.length c0] w λe w'=>∃v0_:Value,e=.returned (.tuple #[v0_,.int .i64 r2,.bool r3])/\Kd.R (Kd.int .i64) 3 w' w.heap.size (λ_=>True) v0_ r1/\Below w.heap.size w w':=by
 have HR0:=aa hr0;have HC0:=aa hc0;clear hr0 hc0;have HB:=aa (Below.refl w.heap.size w);unfold oO.f at h;have H:=h;clear h;obtain ⟨t283,A2,H⟩:=aA H;revert H;refine bA (λc3 H=>?_) λc3 H=>?_
 ·
  subst c3;obtain ⟨t284,A4,H⟩:=aA H;obtain ⟨t285,A5,H⟩:=aA H;obtain ⟨rfl,rfl,rfl⟩:=eD H;go_enter Tryz.func132,Tryz.ntmps132;go_wp2_with (first|((with_reducible refine av 91 ?_);refine ax 7 Tryz.func91 #[.slice A0 l0.length c0] ?_;(with_reducible refine (jN.calls k _ _ l0 true _ ?s1 ?s2 A2.out).mono ?_);(case s1=>exact dU HR0.out);(case s2=>exact HC0.out);rintro e w' ⟨rfl,⟨nd,rfl⟩⟩;refine ⟨_,rfl,?_⟩)|((with_reducible refine av 189 ?_);refine ax 12 Tryz.func189 #[.slice A0 l0.length c0] ?_;(with_reducible refine (jL.calls k _ _ l0 t284 _ ?s1 ?s2 A4.out).mono ?_);(case s1=>exact dU HR0.out);(case s2=>exact HC0.out);rintro e w6 ⟨rfl,hb⟩;refine ⟨_,rfl,?_⟩;replace HB:=aa (aj af hb);clear hb)|((with_reducible refine av 190 ?_);refine ax 19 Tryz.func190 #[.slice A0 l0.length c0,.int .i64 (wrap64 ((l0.length:Int)+1)),.int .i64 (wrap64 ((l0.length:Int) - t284))] ?_;(with_reducible refine (jS.calls k _ _ l0 (wrap64 ((l0.length:Int)+1)) (wrap64 ((l0.length:Int) - t284)) t285 _ ?s1 ?s2 A5.out).mono ?_);(case s1=>exact bQ HR0.out);(case s2=>exact HC0.out);rintro e w7 ⟨v286,rfl,ho0,hb⟩;refine ⟨_,rfl,?_⟩;have HO287:=aa (Kd.R_lower ho0 (ay af));replace HB:=aa (aj af hb);clear hb ho0));go_ret3;exact ⟨_,aU,ai HO287.out,af⟩
 subst c3;obtain ⟨rfl,rfl,rfl⟩:=eD H;go_enter Tryz.func132,Tryz.ntmps132;go_wp2_with (first|((with_reducible refine av 91 ?_);refine ax 7 Tryz.func91 #[.slice A0 l0.length c0] ?_;(with_reducible refine (jN.calls k _ _ l0 false _ ?s1 ?s2 A2.out).mono ?_);(case s1=>exact dU HR0.out);(case s2=>exact HC0.out);rintro e w' ⟨rfl,⟨nd,rfl⟩⟩;refine ⟨_,rfl,?_⟩));go_ret3;exact ⟨_,aU,d9,af⟩
def oz.f(a0:Int):Option (Bool):=(ek.f a0 0 8).bind λt288=>(some t288)
theorem oz.calls(a0:Int)(r:Bool)(w:World)(h:oz.f a0=some r) :
  Calls Tryz.prog 191 #[.int .i64 a0] w λe w'=>e=.returned (.bool r)/\bg w w':=by
 unfold oz.f at h;have H:=h;clear h;obtain ⟨t288,A2,H⟩:=aA H;obtain rfl:=Option.some.inj H;go_enter Tryz.func191,Tryz.ntmps191;go_wp2_with (first|((with_reducible refine av 112 ?_);refine ax 4 Tryz.func112 #[.int .i64 a0,.int .i64 0,.int .i64 8] ?_;(with_reducible refine (ek.calls a0 0 8 t288 _ A2.out).mono ?_);rintro e w' ⟨rfl,⟨nd,rfl⟩⟩;refine ⟨_,rfl,?_⟩));go_ret;exact ⟨ag,aZ⟩
mutual
def eu.l0:Nat->List Int->Int->List (List Int)->Int->Option ((List (List Int)))
 | 0,_,_,_,_=>none
 | k+1,x0,x1,x5,x6=>if x6<x1 then ((fH.f x0).bind λt295=>(if t295.length<17592186044416 then ((eu.f k (t295++[x6]) x1).bind λt301=>(if x5.length+t301.length<5864062014805 then (eu.l0 k x0 x1 (x5++t301) (wrap64 (x6+1)))else (none)))else (none)))else (some x5)
def eu.f:Nat->List Int->Int->Option ((List (List Int)))
 | 0,_,_=>none
 | k+1,l0,a1=>if (l0.length:Int)=a1 then ((fH.f l0).bind λt289=>(some (([t289]:List (List Int)))))else (eu.l0 k l0 a1 ([]:List (List Int)) 0)
end
theorem eu.mono_l:∀k,(∀y0 y1,aC (eu.f k y0 y1) (eu.f (k+1) y0 y1))/\(∀y0 y1 y2 y3,aC (eu.l0 k y0 y1 y2 y3) (eu.l0 (k+1) y0 y1 y2 y3))
 | 0=>⟨λ_ _ r h=>by simp[eu.f]at h,λ_ _ _ _ r h=>by simp[eu.l0]at h⟩
 | k+1=>by
  obtain ⟨ih0,ih1⟩:=eu.mono_l k;refine ⟨?_,?_⟩
  ·
   intro y0 y1;unfold eu.f
   repeat' (with_reducible first|exact ih0 _ _|exact ih1 _ _ _ _|exact aC.refl _|exact aC.none _|refine aC.ite ?_ ?_|refine aC.bind ?_ (λ_=>?_))
  ·
   intro y0 y1 y2 y3;unfold eu.l0
   repeat' (with_reducible first|exact ih0 _ _|exact ih1 _ _ _ _|exact aC.refl _|exact aC.none _|refine aC.ite ?_ ?_|refine aC.bind ?_ (λ_=>?_))
theorem eu.mono:∀a0 a1 k,aC (eu.f k a0 a1) (eu.f (k+1) a0 a1):=by
 intro a0 a1 k;obtain ⟨ih0,ih1⟩:=eu.mono_l k;exact ih0 a0 a1
theorem eu.calls(k:Nat):∀ (A0:Option Addr) (c0:Nat) (l0:List Int) (a1:Int) (r:List (List Int)) (w:World) (hr0:Kd.C (Kd.int .i64) w A0 l0.length l0) (hc0:l0.length<=c0) (h:eu.f k l0 a1=some r),
  Calls Tryz.prog 192 #[.slice A0 l0.length c0,.int .i64 a1] w λe w'=>∃v0_:Value,e=.returned (v0_)/\Kd.N (Kd.slice 3 (Kd.int .i64)) 22 w' w.heap.size (λk_=>(w.heap.size<=k_)) v0_ r/\Below w.heap.size w w':=by
 induction k using Nat.strongRecOn with
 | _ k ih =>
 intro A0 c0 l0 a1 r w hr0 hc0 h;cases k with
 | zero=>exact absurd h (by simp[eu.f])
 | succ k =>
 simp only[eu.f]at h;have HR0:=aa hr0;have HC0:=aa hc0;clear hr0 hc0;have HB:=aa (Below.refl w.heap.size w);have H:(if (l0.length:Int)=a1 then ((fH.f l0).bind λt289=>(some (([t289]:List (List Int)))))else (eu.l0 k l0 a1 ([]:List (List Int)) 0))=some r:=h;clear h;revert H;refine dH (λc3b0 c3b1 H=>?_) λc3 c3b0 c3b1 H=>?_
 ·
  obtain ⟨t289,A4,H⟩:=aA H;obtain ⟨y292,hy292⟩:=bv ((([t289]:List (List Int))):List (List Int));replace H:(some y292)=some r:=bu hy292 H;have Ny292:=aa hy292;clear hy292;obtain rfl:=Option.some.inj H;go_enter Tryz.func192,Tryz.ntmps192;go_wp2_with (first|((with_reducible refine av 70 ?_);refine ax 12 Tryz.func70 #[.slice A0 l0.length c0] ?_;(with_reducible refine (fH.calls _ _ l0 t289 _ ?s1 ?s2 A4.out).mono ?_);(case s1=>exact dU HR0.out);(case s2=>exact HC0.out);rintro e w5 ⟨v290,rfl,ho0,hb⟩;refine ⟨_,rfl,?_⟩;have HO291:=aa (Kd.R_lower (Kd.R_newM (M:=λk_=>(w.heap.size<=k_)) ho0 (ay af) (λk_ h_=>h_)) (ay af));replace HB:=aa (aj af hb);clear hb ho0;obtain ⟨Ao6,co6,eo6⟩:=Kd.R_slice HO291.out;subst eo6)|((with_reducible refine dm 13 ?_);refine Kd.N_lit (Kd.slice 3 (Kd.int .i64)) _ 22 ?hg (N':=13) ?hd (xs:=([t289]:List (List Int))) (inner:=[.slice Ao6 t289.length co6]) (ok:=(λk_=>(w.heap.size<=k_))) (okp:=(λk_=>(w.heap.size<=k_))) ?hr ?hp (λ_ hk=>hk) ((show ∀k_,w5.heap.size<=k_->(λk_=>(w.heap.size<=k_)) k_ from λk_ hk=>(Nat.le_trans (ay af) hk)) _ (Nat.le_refl _)) (Below.refl _ _) (Nat.le_refl _) (by simp) ?_;(case hd=>rfl);(case hg=>rfl);(case hr=>exact eO);(case hp=>exact (bG.one (show Kd.FK (Kd.slice 3 (Kd.int .i64)) _ _ t289 [.slice Ao6 t289.length co6] from (Kd.FK_slice_mk (Kd.R_reads' (Kd.R_mono (ok':=(λk_=>(w.heap.size<=k_))) (HO291.out) (λk_ hk=>hk.1))).2.1 (Kd.R_F (Kd.R_mono (ok':=(λk_=>(w.heap.size<=k_))) (HO291.out) (λk_ hk=>hk.1))))) (bG.none _ _)));intro v293 w7 ho8 hb hg_ hnew_;clear hg_ hnew_;(first|rw[<- Ny292.out]at ho8|(simp only[Int.reduceToNat]at ho8;rw[<- Ny292.out]at ho8));have HO294:=aa (Kd.N_lower ho8 (ay af));replace HB:=aa (aj af hb);clear hb ho8));go_ret;exact ⟨_,aU,lN HO294.out,af⟩
 have H':=aa H;clear H;go_enter Tryz.func192,Tryz.ntmps192;go_wp2
 go_loopg [5,6] k (λkq v5 v6 w'=>∃ (x5_1:List (List Int)) (x6_1:Int),v6=.int .i64 x6_1/\ae (eu.l0 kq l0 a1 x5_1 x6_1=some r)/\ae (kq<=k)/\ae (Kd.N (Kd.slice 3 (Kd.int .i64)) 22 w' w.heap.size (λk_=>(w.heap.size<=k_)) v5 x5_1)/\ae (Below w.heap.size w w'))
 case atStart=>exact ⟨(([]:List (List Int))),(0),ag,H',⟨Nat.le_refl _⟩,⟨by first|exact Kd.S_nil _ _ _ _ _|exact Kd.N_nil _ _ _ _ _|exact Kd.V_nil _ _ _ _ _|exact Kd.Q_nil _ _ _ _ _|exact Kd.R_nil _ _ _ _ _⟩,⟨af⟩⟩
 case round =>
  clear H';obtain ⟨x5_1,x6_1,rfl,HA,HK1,HO_5,HB⟩:=hrel;cases gk with
  | zero=>exact ak HA.out
  | succ k1 =>
   have H:=HA.out;clear HA;simp only[eu.l0]at H;revert H;refine bi (λc9b0 H=>?_) λc9b0 H=>?_
   ·
    obtain ⟨t295,A10,H⟩:=aA H;revert H;refine bZ λc11 H=>?_;have LMc11:=aa c11;clear c11;obtain ⟨y298,hy298⟩:=bv ((t295++[x6_1]):List Int);replace H:((eu.f k1 y298 a1).bind λt301=>(if x5_1.length+t301.length<5864062014805 then (eu.l0 k1 l0 a1 (x5_1++t301) (wrap64 (x6_1+1)))else (none)))=some r:=bu hy298 H;have Ny298:=aa hy298;clear hy298;obtain ⟨t301,A12,H⟩:=aA H;revert H;refine bZ λc13 H=>?_;have LMc13:=aa c13;clear c13;obtain ⟨y304,hy304⟩:=bv ((x5_1++t301):List (List Int));replace H:(eu.l0 k1 l0 a1 y304 (wrap64 (x6_1+1)))=some r:=bu hy304 H;have Ny304:=aa hy304;clear hy304;have H':=aa H;clear H
    go_wp2_with (first|((with_reducible refine av 70 ?_);refine ax 21 Tryz.func70 #[.slice A0 l0.length c0] ?_;(with_reducible refine (fH.calls _ _ l0 t295 _ ?s1 ?s2 A10.out).mono ?_);(case s1=>exact bQ HR0.out);(case s2=>exact HC0.out);rintro e w14 ⟨v296,rfl,ho0,hb⟩;refine ⟨_,rfl,?_⟩;replace HO_5:=aa (Kd.N_elder' (lN HO_5.out) (Kd.R_base ho0) hb);have HO297:=aa (Kd.R_lower (Kd.R_newM (M:=λk_=>(w.heap.size<=k_)) ho0 (ay af) (λk_ h_=>h_)) (ay af));replace HB:=aa (aj af hb);clear hb ho0)|((with_reducible refine dE (b:=.append) (xs:=#[.tmp 21,.tmp 23]) rfl ?_);at_builtin;refine eQ (w0:=w) (.tmp 21) (.tmp 23) v296 t295 x6_1 (λk_=>(w.heap.size<=k_)) (λk_ hk=>(Nat.le_trans (ay af) hk)) (Iu HO297.out) af (by exact bB LMc11.out) ?_;intro v299 w15 ho hb hg hat;rw[<- Ny298.out]at ho;replace HO_5:=aa (Kd.N_afterv (ok:=(λk_=>(w.heap.size<=k_))) (lN HO_5.out) hg hat);replace HB:=aa (hb);have HO300:=aa (ho);clear ho hb hg hat;obtain ⟨Ao16,co16,eo16⟩:=Kd.R_slice HO300.out;subst eo16)|((with_reducible refine av 192 ?_);refine ax 26 Tryz.func192 #[.slice Ao16 y298.length co16,.int .i64 a1] ?_;(with_reducible refine (ih k1 (bB HK1.out) _ _ y298 a1 t301 _ ?s1 ?s2 A12.out).mono ?_);(case s1=>exact eH HO300.out);(case s2=>exact (Kd.R_reads' HO300.out).2.1);rintro e w17 ⟨v302,rfl,ho0,hb⟩;refine ⟨_,rfl,?_⟩;have HO303:=aa (Kd.N_lower (Kd.N_mono (ok':=λk_=>(w.heap.size<=k_)/\some k_≠(u5:Value).ownBlock/\some k_≠(.slice Ao16 y298.length co16:Value).ownBlock) ho0 (λk_ hk_=>⟨(Nat.le_trans (ay af) hk_),(Kd.fresh' (Kd.N_lt (lN HO_5.out)) k_ hk_),(Kd.fresh' (Kd.R_lt (ai HO300.out)) k_ hk_)⟩)) (ay af));replace HO_5:=aa (Kd.N_elder' (lN HO_5.out) (by first|exact Kd.N_base ho0|exact Kd.S_base ho0) hb);replace HO300:=aa (Kd.R_below (ai HO300.out) hb);replace HB:=aa (aj af hb);clear hb ho0;obtain ⟨Ao19,co19,eo19⟩:=Kd.N_slice HO303.out;subst eo19)|((with_reducible refine dE (b:=.append) (xs:=#[.tmp 19,.tmp 26]) rfl ?_);at_builtin;refine Kd.N_append_rows (Kd.slice 3 (Kd.int .i64)) (w0:=w) w.heap.size rfl (.tmp 19) (.tmp 26) 154 22 (.slice none 0 0) 24 rfl Tryz.underlying154 IU rfl (by decide) (by omega) u5 x5_1 t301 _ _ _ (λk_=>(w.heap.size<=k_)/\some k_≠(.slice Ao16 y298.length co16:Value).ownBlock) (λk_=>((λk_=>(w.heap.size<=k_)/\some k_≠(.slice Ao16 y298.length co16:Value).ownBlock)) k_/\some k_≠(u5:Value).ownBlock) rfl rfl ?aO ?aR (λ_ hk=>hk) ?aF ?aB ?aS ?aL ?_;(case aR=>exact (by skip;exact Kd.N_F (Kd.N_mono (ok':=(λk_=>((λk_=>(w.heap.size<=k_)/\some k_≠(.slice Ao16 y298.length co16:Value).ownBlock)) k_/\some k_≠(u5:Value).ownBlock)) (HO303.out) (λk_ hk=>⟨⟨hk.1,hk.2.2⟩,hk.2.1⟩))));(case aB=>exact af);(case aF=>exact (λk_ hk=>⟨(Nat.le_trans (ay af) hk),Kd.fresh' (Kd.R_lt (ai HO300.out)) k_ hk⟩));(case aO=>exact (by (with_reducible repeat (first|apply Kd.N_alloc|apply Kd.N_drewN|apply Kd.N_drew));exact Kd.N_mono HO_5.out (λ_ hk=>⟨hk.1.1,hk.1.2⟩)));(case aS=>exact (ay af));(case aL=>exact bB LMc13.out);intro v305 w18 ho hb hg hat;rw[<- Ny304.out]at ho;replace HO300:=aa (Kd.R_over' (ai HO300.out) (Kd.N_typed (lN HO_5.out)) (by decide) hg);replace HO303:=aa (Kd.N_afterv (ok:=(λk_=>(w.heap.size<=k_)/\some k_≠(.slice Ao16 y298.length co16:Value).ownBlock)) (by (with_reducible repeat (first|apply Kd.N_alloc|apply Kd.N_drewN|apply Kd.N_drew));exact Kd.N_mono HO303.out (λ_ hk=>⟨⟨hk.1,hk.2.2⟩,hk.2.1⟩)) hg hat);replace HB:=aa (hb);have HO306:=aa (ho);clear ho hb hg hat))
    go_roundg k1
    case measure=>have:=HK1.out;omega
    case rel=>exact ⟨(y304),(wrap64 (x6_1+1)),ag,H',⟨bB HK1.out⟩,⟨by (with_reducible repeat (first|apply Kd.N_alloc|apply Kd.N_drewN|apply Kd.N_drew));exact Kd.N_mono HO306.out (λ_ hk=>hk.1)⟩,⟨af⟩⟩
   obtain rfl:=Option.some.inj H;go_wp2;go_ret;exact ⟨_,aU,lN HO_5.out,af⟩
mutual
def bI.l0:Nat->Int->Int->List Int->List Int->Int->Int->Option (List Int)
 | 0,_,_,_,_,_,_=>none
 | k+1,x1,x2,x7,x13,x14,x15=>if x15<x14 then (if 0<=x15 then (if x15<(x13.length:Int)then (bI.l1 k x1 x2 x7 (rd x13 x15) (-1) 0 x13 x14 x15)else (none))else (none))else (some x7)
def bI.l1:Nat->Int->Int->List Int->Int->Int->Int->List Int->Int->Int->Option (List Int)
 | 0,_,_,_,_,_,_,_,_,_=>none
 | k+1,x1,x2,x7,x9,x10,x11,x13,x14,x15=>if x11<=x2 then (if (wrap64 (x9 - x11)) >= 0 then (bI.j2 k x1 x2 x7 x9 x10 x11 x13 x14 x15 (decide (x10<0)))else (bI.j2 k x1 x2 x7 x9 x10 x11 x13 x14 x15 false))else (bI.j2 k x1 x2 x7 x9 x10 x11 x13 x14 x15 false)
def bI.j2:Nat->Int->Int->List Int->Int->Int->Int->List Int->Int->Int->Bool->Option (List Int)
 | 0,_,_,_,_,_,_,_,_,_,_=>none
 | k+1,x1,x2,x7,x9,x10,x11,x13,x14,x15,x31=>if x31=true then ((bD.f k x7 (wrap64 (x9 - x11))).bind λt308=>(if t308=true then (bI.l1 k x1 x2 x7 x9 x10 (wrap64 (x11+1)) x13 x14 x15)else (bI.l1 k x1 x2 x7 x9 (wrap64 (x9 - x11)) (wrap64 (x11+1)) x13 x14 x15)))else (bI.l2 k x1 x2 x7 x10 x9 x13 x14 x15)
def bI.l2:Nat->Int->Int->List Int->Int->Int->List Int->Int->Int->Option (List Int)
 | 0,_,_,_,_,_,_,_,_=>none
 | k+1,x1,x2,x7,x10,x12,x13,x14,x15=>if x12<x1 then (bI.j4 k x1 x2 x7 x10 x12 x13 x14 x15 (decide (x10<0)))else (bI.j4 k x1 x2 x7 x10 x12 x13 x14 x15 false)
def bI.j4:Nat->Int->Int->List Int->Int->Int->List Int->Int->Int->Bool->Option (List Int)
 | 0,_,_,_,_,_,_,_,_,_=>none
 | k+1,x1,x2,x7,x10,x12,x13,x14,x15,x50=>if x50=true then ((bD.f k x7 x12).bind λt309=>(if t309=true then (bI.l2 k x1 x2 x7 x10 (wrap64 (x12+1)) x13 x14 x15)else (bI.l2 k x1 x2 x7 x12 (wrap64 (x12+1)) x13 x14 x15)))else (if x7.length<17592186044416 then (bI.l0 k x1 x2 (x7++[x10]) x13 x14 (wrap64 (x15+1)))else (none))
end
def bI.f(k:Nat)(l0:List Int)(a1:Int)(a2:Int):Option (List Int):=bI.l0 k a1 a2 ([]:List Int) l0 (l0.length:Int) 0
theorem bI.mono_l:∀k,(∀y0 y1 y2 y3 y4 y5,aC (bI.l0 k y0 y1 y2 y3 y4 y5) (bI.l0 (k+1) y0 y1 y2 y3 y4 y5))/\(∀y0 y1 y2 y3 y4 y5 y6 y7 y8,aC (bI.l1 k y0 y1 y2 y3 y4 y5 y6 y7 y8) (bI.l1 (k+1) y0 y1 y2 y3 y4 y5 y6 y7 y8))/\(∀y0 y1 y2 y3 y4 y5 y6 y7 y8 y9,aC (bI.j2 k y0 y1 y2 y3 y4 y5 y6 y7 y8 y9) (bI.j2 (k+1) y0 y1 y2 y3 y4 y5 y6 y7 y8 y9))/\(∀y0 y1 y2 y3 y4 y5 y6 y7,aC (bI.l2 k y0 y1 y2 y3 y4 y5 y6 y7) (bI.l2 (k+1) y0 y1 y2 y3 y4 y5 y6 y7))/\(∀y0 y1 y2 y3 y4 y5 y6 y7 y8,aC (bI.j4 k y0 y1 y2 y3 y4 y5 y6 y7 y8) (bI.j4 (k+1) y0 y1 y2 y3 y4 y5 y6 y7 y8))
 | 0=>⟨λ_ _ _ _ _ _ r h=>by simp[bI.l0]at h,λ_ _ _ _ _ _ _ _ _ r h=>by simp[bI.l1]at h,λ_ _ _ _ _ _ _ _ _ _ r h=>by simp[bI.j2]at h,λ_ _ _ _ _ _ _ _ r h=>by simp[bI.l2]at h,λ_ _ _ _ _ _ _ _ _ r h=>by simp[bI.j4]at h⟩
 | k+1=>by
  obtain ⟨ih0,ih1,ih2,ih3,ih4⟩:=bI.mono_l k;refine ⟨?_,?_,?_,?_,?_⟩
  ·
   intro y0 y1 y2 y3 y4 y5;unfold bI.l0
   repeat' (with_reducible first|exact ih0 _ _ _ _ _ _|exact ih1 _ _ _ _ _ _ _ _ _|exact ih2 _ _ _ _ _ _ _ _ _ _|exact ih3 _ _ _ _ _ _ _ _|exact ih4 _ _ _ _ _ _ _ _ _|exact bD.mono _ _ _|exact aC.refl _|exact aC.none _|refine aC.ite ?_ ?_|refine aC.bind ?_ (λ_=>?_))
  ·
   intro y0 y1 y2 y3 y4 y5 y6 y7 y8;unfold bI.l1
   repeat' (with_reducible first|exact ih0 _ _ _ _ _ _|exact ih1 _ _ _ _ _ _ _ _ _|exact ih2 _ _ _ _ _ _ _ _ _ _|exact ih3 _ _ _ _ _ _ _ _|exact ih4 _ _ _ _ _ _ _ _ _|exact bD.mono _ _ _|exact aC.refl _|exact aC.none _|refine aC.ite ?_ ?_|refine aC.bind ?_ (λ_=>?_))
  ·
   intro y0 y1 y2 y3 y4 y5 y6 y7 y8 y9;unfold bI.j2
   repeat' (with_reducible first|exact ih0 _ _ _ _ _ _|exact ih1 _ _ _ _ _ _ _ _ _|exact ih2 _ _ _ _ _ _ _ _ _ _|exact ih3 _ _ _ _ _ _ _ _|exact ih4 _ _ _ _ _ _ _ _ _|exact bD.mono _ _ _|exact aC.refl _|exact aC.none _|refine aC.ite ?_ ?_|refine aC.bind ?_ (λ_=>?_))
  ·
   intro y0 y1 y2 y3 y4 y5 y6 y7;unfold bI.l2
   repeat' (with_reducible first|exact ih0 _ _ _ _ _ _|exact ih1 _ _ _ _ _ _ _ _ _|exact ih2 _ _ _ _ _ _ _ _ _ _|exact ih3 _ _ _ _ _ _ _ _|exact ih4 _ _ _ _ _ _ _ _ _|exact bD.mono _ _ _|exact aC.refl _|exact aC.none _|refine aC.ite ?_ ?_|refine aC.bind ?_ (λ_=>?_))
  ·
   intro y0 y1 y2 y3 y4 y5 y6 y7 y8;unfold bI.j4
   repeat' (with_reducible first|exact ih0 _ _ _ _ _ _|exact ih1 _ _ _ _ _ _ _ _ _|exact ih2 _ _ _ _ _ _ _ _ _ _|exact ih3 _ _ _ _ _ _ _ _|exact ih4 _ _ _ _ _ _ _ _ _|exact bD.mono _ _ _|exact aC.refl _|exact aC.none _|refine aC.ite ?_ ?_|refine aC.bind ?_ (λ_=>?_))
theorem bI.mono:∀a0 a1 a2 k,aC (bI.f k a0 a1 a2) (bI.f (k+1) a0 a1 a2):=by
 intro a0 a1 a2 k;obtain ⟨ih0,ih1,ih2,ih3,ih4⟩:=bI.mono_l k;unfold bI.f
 repeat' (with_reducible first|exact ih0 _ _ _ _ _ _|exact ih1 _ _ _ _ _ _ _ _ _|exact ih2 _ _ _ _ _ _ _ _ _ _|exact ih3 _ _ _ _ _ _ _ _|exact ih4 _ _ _ _ _ _ _ _ _|exact bD.mono _ _ _|exact aC.refl _|exact aC.none _|refine aC.ite ?_ ?_|refine aC.bind ?_ (λ_=>?_))
theorem bI.calls(k:Nat)(A0:Option Addr)(c0:Nat)(l0:List Int)(a1:Int)(a2:Int)(r:List Int)(w:World)(hr0:Kd.C (Kd.int .i64) w A0 l0.length l0)(hc0:l0.length<=c0)(h:bI.f k l0 a1 a2=some r) :
  Calls Tryz.prog 193 #[.slice A0 l0.length c0,.int .i64 a1,.int .i64 a2] w λe w'=>∃v0_:Value,e=.returned (v0_)/\Kd.R (Kd.int .i64) 3 w' w.heap.size (λ_=>True) v0_ r/\Below w.heap.size w w':=by
 have HR0:=aa hr0;have HC0:=aa hc0;clear hr0 hc0;have HB:=aa (Below.refl w.heap.size w);unfold bI.f at h;have H:=h;clear h;have H':=aa H;clear H;go_enter Tryz.func193,Tryz.ntmps193;go_wp2
 go_loopg [7,15] k (λkq v7 v15 w'=>∃ (x7_1:List Int) (x15_1:Int),v15=.int .i64 x15_1/\ae (bI.l0 kq a1 a2 x7_1 l0 (l0.length:Int) x15_1=some r)/\ae (kq<=k)/\ae (Kd.R (Kd.int .i64) 3 w' w.heap.size (λ_=>True) v7 x7_1)/\ae (Below w.heap.size w w'))
 case atStart=>exact ⟨(([]:List Int)),(0),ag,H',⟨Nat.le_refl _⟩,⟨d9⟩,⟨af⟩⟩
 case round =>
  clear H';obtain ⟨x7_1,x15_1,rfl,HA,HK1,HO_7,HB⟩:=hrel;cases gk with
  | zero=>exact ak HA.out
  | succ k1 =>
   have H:=HA.out;clear HA;simp only[bI.l0]at H;revert H;refine bi (λc4b0 H=>?_) λc4b0 H=>?_
   ·
    revert H;refine aX λc5b0 H=>?_;revert H;refine aX λc6b0 H=>?_;have H':=aa H;clear H;obtain ⟨ad307,rfl,hx307_0,p307,q307⟩:=bW HR0.out x15_1
    (try (replace hx307_0:=(HB.out.cell (World.block_lt_of_cell? w _ hx307_0)).trans hx307_0))
    go_wp2
    go_loopg [10,11] k1 (λkq v10 v11 w'=>∃ (x10_2:Int) (x11_2:Int),v10=.int .i64 x10_2/\v11=.int .i64 x11_2/\ae (bI.l1 kq a1 a2 x7_1 (rd l0 x15_1) x10_2 x11_2 l0 (l0.length:Int) x15_1=some r)/\ae (kq<=k1)/\ae (Kd.R (Kd.int .i64) 3 w' w.heap.size (λ_=>True) u7 x7_1)/\ae (Below w.heap.size w w'))
    case atStart=>exact ⟨((-1)),(0),ag,ag,H',⟨Nat.le_refl _⟩,⟨ai HO_7.out⟩,⟨af⟩⟩
    case round =>
     clear H';obtain ⟨x10_2,x11_2,rfl,rfl,HA,HK2,HO_7,HB⟩:=hrel;cases gk with
     | zero=>exact ak HA.out
     | succ k2 =>
      have H:=HA.out;clear HA;simp only[bI.l1]at H;have HC7:=aa H;clear H
      go_upto_region 7 with (fail)
      go_cut [31] (λv31 wc=>∃ (kq:Nat) (x31_6:Bool),v31=.bool x31_6/\ae (bI.j2 kq a1 a2 x7_1 (rd l0 x15_1) x10_2 x11_2 l0 (l0.length:Int) x15_1 x31_6=some r)/\ae (kq<=k2)/\ae (Kd.R (Kd.int .i64) 3 wc w.heap.size (λ_=>True) u7 x7_1)/\ae (Below w.heap.size w wc))
      case first =>
       have H:=HC7.out;clear HC7;revert H;refine bi (λc8b0 H=>?_) λc8b0 H=>?_
       ·
        (first|rw[c8b0]|(simp only[cO,eB];rw[c8b0])|skip)
        revert H;refine bi (λc9b0 H=>?_) λc9b0 H=>?_
        ·
         have H':=aa H;clear H;go_wp2;go_meet
         case rel=>exact ⟨_,(decide (x10_2<0)),ag,H',⟨mU HK1.out HK2.out⟩,⟨ai HO_7.out⟩,⟨af⟩⟩
        have H':=aa H;clear H;go_wp2;go_meet
        case rel=>exact ⟨_,(false),ag,H',⟨mU HK1.out HK2.out⟩,⟨ai HO_7.out⟩,⟨af⟩⟩
       (first|rw[c8b0]|(simp only[cO,eB];rw[c8b0])|skip)
       have H':=aa H;clear H;go_wp2;go_meet
       case rel=>exact ⟨_,(false),ag,H',⟨mU HK1.out HK2.out⟩,⟨ai HO_7.out⟩,⟨af⟩⟩
      case rest =>
       clear HC7;obtain ⟨kq,x31_6,rfl,HA,HJ6,HO_7,HB⟩:=hcut;cases kq with
       | zero=>exact ak HA.out
       | succ kj6 =>
        have H:=HA.out;clear HA;simp only[bI.j2]at H;revert H;refine bA (λc10 H=>?_) λc10 H=>?_
        ·
         subst c10;obtain ⟨t308,A11,H⟩:=aA H;revert H;refine bA (λc12 H=>?_) λc12 H=>?_
         ·
          subst c12;have H':=aa H;clear H;obtain ⟨Ao13,co13,eo13⟩:=Kd.R_slice HO_7.out;subst eo13;go_wp2_with (first|((with_reducible refine av 113 ?_);refine ax 38 Tryz.func113 #[.slice Ao13 x7_1.length co13,.int .i64 (wrap64 ((rd l0 x15_1) - x11_2))] ?_;(with_reducible refine (bD.calls kj6 _ _ x7_1 (wrap64 ((rd l0 x15_1) - x11_2)) true _ ?s1 ?s2 A11.out).mono ?_);(case s1=>exact eH HO_7.out);(case s2=>exact (Kd.R_reads' HO_7.out).2.1);rintro e w' ⟨rfl,⟨nd,rfl⟩⟩;refine ⟨_,rfl,?_⟩));go_roundg kj6
          case measure=>have:=HK1.out;have:=HK2.out;have:=HJ6.out;omega
          case rel=>exact ⟨(x10_2),(wrap64 (x11_2+1)),ag,ag,H',⟨kU HK1.out HK2.out HJ6.out⟩,⟨ai HO_7.out⟩,⟨af⟩⟩
         subst c12;have H':=aa H;clear H;obtain ⟨Ao14,co14,eo14⟩:=Kd.R_slice HO_7.out;subst eo14;go_wp2_with (first|((with_reducible refine av 113 ?_);refine ax 38 Tryz.func113 #[.slice Ao14 x7_1.length co14,.int .i64 (wrap64 ((rd l0 x15_1) - x11_2))] ?_;(with_reducible refine (bD.calls kj6 _ _ x7_1 (wrap64 ((rd l0 x15_1) - x11_2)) false _ ?s1 ?s2 A11.out).mono ?_);(case s1=>exact eH HO_7.out);(case s2=>exact (Kd.R_reads' HO_7.out).2.1);rintro e w' ⟨rfl,⟨nd,rfl⟩⟩;refine ⟨_,rfl,?_⟩));go_roundg kj6
         case measure=>have:=HK1.out;have:=HK2.out;have:=HJ6.out;omega
         case rel=>exact ⟨(wrap64 ((rd l0 x15_1) - x11_2)),(wrap64 (x11_2+1)),ag,ag,H',⟨kU HK1.out HK2.out HJ6.out⟩,⟨ai HO_7.out⟩,⟨af⟩⟩
        subst c10;have H':=aa H;clear H;go_wp2
        go_loopg [10,12] kj6 (λkq v10 v12 w'=>∃ (x10_4:Int) (x12_4:Int),v10=.int .i64 x10_4/\v12=.int .i64 x12_4/\ae (bI.l2 kq a1 a2 x7_1 x10_4 x12_4 l0 (l0.length:Int) x15_1=some r)/\ae (kq<=kj6)/\ae (Kd.R (Kd.int .i64) 3 w' w.heap.size (λ_=>True) u7 x7_1)/\ae (Below w.heap.size w w'))
        case atStart=>exact ⟨(x10_2),((rd l0 x15_1)),ag,ag,H',⟨Nat.le_refl _⟩,⟨ai HO_7.out⟩,⟨af⟩⟩
        case round =>
         clear H';obtain ⟨x10_4,x12_4,rfl,rfl,HA,HK4,HO_7,HB⟩:=hrel;cases gk with
         | zero=>exact ak HA.out
         | succ k4 =>
          have H:=HA.out;clear HA;simp only[bI.l2]at H;have HC15:=aa H;clear H
          go_upto_region 12 with (fail)
          go_cut [50] (λv50 wc=>∃ (kq:Nat) (x50_14:Bool),v50=.bool x50_14/\ae (bI.j4 kq a1 a2 x7_1 x10_4 x12_4 l0 (l0.length:Int) x15_1 x50_14=some r)/\ae (kq<=k4)/\ae (Kd.R (Kd.int .i64) 3 wc w.heap.size (λ_=>True) u7 x7_1)/\ae (Below w.heap.size w wc))
          case first =>
           have H:=HC15.out;clear HC15;revert H;refine bi (λc16b0 H=>?_) λc16b0 H=>?_
           ·
            (first|rw[c16b0]|(simp only[cO,eB];rw[c16b0])|skip)
            have H':=aa H;clear H;go_wp2;go_meet
            case rel=>exact ⟨_,(decide (x10_4<0)),ag,H',⟨by have:=HK1.out;have:=HK2.out;have:=HJ6.out;have:=HK4.out;first|omega|exact Nat.le_refl _⟩,⟨ai HO_7.out⟩,⟨af⟩⟩
           (first|rw[c16b0]|(simp only[cO,eB];rw[c16b0])|skip)
           have H':=aa H;clear H;go_wp2;go_meet
           case rel=>exact ⟨_,(false),ag,H',⟨by have:=HK1.out;have:=HK2.out;have:=HJ6.out;have:=HK4.out;first|omega|exact Nat.le_refl _⟩,⟨ai HO_7.out⟩,⟨af⟩⟩
          case rest =>
           clear HC15;obtain ⟨kq,x50_14,rfl,HA,HJ14,HO_7,HB⟩:=hcut;cases kq with
           | zero=>exact ak HA.out
           | succ kj14 =>
            have H:=HA.out;clear HA;simp only[bI.j4]at H;revert H;refine bA (λc17 H=>?_) λc17 H=>?_
            ·
             subst c17;obtain ⟨t309,A18,H⟩:=aA H;revert H;refine bA (λc19 H=>?_) λc19 H=>?_
             ·
              subst c19;have H':=aa H;clear H;obtain ⟨Ao20,co20,eo20⟩:=Kd.R_slice HO_7.out;subst eo20;go_wp2_with (first|((with_reducible refine av 113 ?_);refine ax 55 Tryz.func113 #[.slice Ao20 x7_1.length co20,.int .i64 x12_4] ?_;(with_reducible refine (bD.calls kj14 _ _ x7_1 x12_4 true _ ?s1 ?s2 A18.out).mono ?_);(case s1=>exact eH HO_7.out);(case s2=>exact (Kd.R_reads' HO_7.out).2.1);rintro e w' ⟨rfl,⟨nd,rfl⟩⟩;refine ⟨_,rfl,?_⟩));go_roundg kj14
              case measure=>have:=HK1.out;have:=HK2.out;have:=HJ6.out;have:=HK4.out;have:=HJ14.out;omega
              case rel=>exact ⟨(x10_4),(wrap64 (x12_4+1)),ag,ag,H',⟨by have:=HK1.out;have:=HK2.out;have:=HJ6.out;have:=HK4.out;have:=HJ14.out;omega⟩,⟨ai HO_7.out⟩,⟨af⟩⟩
             subst c19;have H':=aa H;clear H;obtain ⟨Ao21,co21,eo21⟩:=Kd.R_slice HO_7.out;subst eo21;go_wp2_with (first|((with_reducible refine av 113 ?_);refine ax 55 Tryz.func113 #[.slice Ao21 x7_1.length co21,.int .i64 x12_4] ?_;(with_reducible refine (bD.calls kj14 _ _ x7_1 x12_4 false _ ?s1 ?s2 A18.out).mono ?_);(case s1=>exact eH HO_7.out);(case s2=>exact (Kd.R_reads' HO_7.out).2.1);rintro e w' ⟨rfl,⟨nd,rfl⟩⟩;refine ⟨_,rfl,?_⟩));go_roundg kj14
             case measure=>have:=HK1.out;have:=HK2.out;have:=HJ6.out;have:=HK4.out;have:=HJ14.out;omega
             case rel=>exact ⟨(x12_4),(wrap64 (x12_4+1)),ag,ag,H',⟨by have:=HK1.out;have:=HK2.out;have:=HJ6.out;have:=HK4.out;have:=HJ14.out;omega⟩,⟨ai HO_7.out⟩,⟨af⟩⟩
            subst c17;revert H;refine bZ λc22 H=>?_;have LMc22:=aa c22;clear c22;obtain ⟨y310,hy310⟩:=bv ((x7_1++[x10_4]):List Int);replace H:(bI.l0 kj14 a1 a2 y310 l0 (l0.length:Int) (wrap64 (x15_1+1)))=some r:=bu hy310 H;have Ny310:=aa hy310;clear hy310;have H':=aa H;clear H;go_wp2_with (first|((with_reducible refine dE (b:=.append) (xs:=#[.tmp 58,.tmp 60]) rfl ?_);at_builtin;refine eQ (w0:=w) (.tmp 58) (.tmp 60) u7 x7_1 x10_4 (λ_=>True) (λ_ _=>trivial) (ai HO_7.out) af (by exact bB LMc22.out) ?_;intro v311 w23 ho hb hg hat;rw[<- Ny310.out]at ho;replace HB:=aa (hb);have HO312:=aa (ho);clear ho hb hg hat));go_roundg kj14
            case measure=>have:=HK1.out;have:=HK2.out;have:=HJ6.out;have:=HK4.out;have:=HJ14.out;omega
            case rel=>exact ⟨(y310),(wrap64 (x15_1+1)),ag,H',⟨by have:=HK1.out;have:=HK2.out;have:=HJ6.out;have:=HK4.out;have:=HJ14.out;omega⟩,⟨ai HO312.out⟩,⟨af⟩⟩
   obtain rfl:=Option.some.inj H;go_wp2;go_ret;exact ⟨_,aU,ai HO_7.out,af⟩
mutual
def dX.j0:Nat->Int->Int->Bool->Option (Int × Bool)
 | 0,_,_,_=>none
 | k+1,x0,x1,x16=>if x16=true then (some (0,false))else ((eu.f k ([]:List Int) x0).bind λt315=>(dX.l0 k x0 x1 0 t315 (t315.length:Int) 0))
def dX.l0:Nat->Int->Int->Int->List (List Int)->Int->Int->Option (Int × Bool)
 | 0,_,_,_,_,_,_=>none
 | k+1,x0,x1,x6,x18,x19,x20=>if x20<x19 then (if 0<=x20 then (if x20<(x18.length:Int)then ((bI.f k (kS x18 x20) x0 x1).bind λt319=>((bD.f k t319 (-1)).bind λt322=>(if t322=true then (dX.l0 k x0 x1 x6 x18 x19 (wrap64 (x20+1)))else (dX.l0 k x0 x1 (wrap64 (x6+1)) x18 x19 (wrap64 (x20+1))))))else (none))else (none))else (some (x6,true))
end
def dX.f(k:Nat)(a0:Int)(a1:Int):Option (Int × Bool):=(ek.f a0 1 5).bind λt313=>(if t313=true then ((oz.f a1).bind λt314=>(dX.j0 k a0 a1 (!t314)))else (dX.j0 k a0 a1 true))
theorem dX.mono_l:∀k,(∀y0 y1 y2,aC (dX.j0 k y0 y1 y2) (dX.j0 (k+1) y0 y1 y2))/\(∀y0 y1 y2 y3 y4 y5,aC (dX.l0 k y0 y1 y2 y3 y4 y5) (dX.l0 (k+1) y0 y1 y2 y3 y4 y5))
 | 0=>⟨λ_ _ _ r h=>by simp[dX.j0]at h,λ_ _ _ _ _ _ r h=>by simp[dX.l0]at h⟩
 | k+1=>by
  obtain ⟨ih0,ih1⟩:=dX.mono_l k;refine ⟨?_,?_⟩
  ·
   intro y0 y1 y2;unfold dX.j0
   repeat' (with_reducible first|exact ih0 _ _ _|exact ih1 _ _ _ _ _ _|exact bD.mono _ _ _|exact eu.mono _ _ _|exact bI.mono _ _ _ _|exact aC.refl _|exact aC.none _|refine aC.ite ?_ ?_|refine aC.bind ?_ (λ_=>?_))
  ·
   intro y0 y1 y2 y3 y4 y5;unfold dX.l0
   repeat' (with_reducible first|exact ih0 _ _ _|exact ih1 _ _ _ _ _ _|exact bD.mono _ _ _|exact eu.mono _ _ _|exact bI.mono _ _ _ _|exact aC.refl _|exact aC.none _|refine aC.ite ?_ ?_|refine aC.bind ?_ (λ_=>?_))
theorem dX.mono:∀a0 a1 k,aC (dX.f k a0 a1) (dX.f (k+1) a0 a1):=by
 intro a0 a1 k;obtain ⟨ih0,ih1⟩:=dX.mono_l k;unfold dX.f
 repeat' (with_reducible first|exact ih0 _ _ _|exact ih1 _ _ _ _ _ _|exact bD.mono _ _ _|exact eu.mono _ _ _|exact bI.mono _ _ _ _|exact aC.refl _|exact aC.none _|refine aC.ite ?_ ?_|refine aC.bind ?_ (λ_=>?_))
theorem dX.calls(k:Nat)(a0:Int)(a1:Int)(r1:Int)(r2:Bool)(w:World)(h:dX.f k a0 a1=some (r1,r2)) :
  Calls Tryz.prog 134 #[.int .i64 a0,.int .i64 a1] w λe w'=>e=.returned (.tuple #[.int .i64 r1,.bool r2])/\Below w.heap.size w w':=by
 have HB:=aa (Below.refl w.heap.size w);unfold dX.f at h;have H:=h;clear h;have HC3:=aa H;clear H;go_enter Tryz.func134,Tryz.ntmps134
 go_upto_region 1 with (fail)
 go_cut [16] (λv16 wc=>∃ (kq:Nat) (x16_2:Bool),v16=.bool x16_2/\ae (dX.j0 kq a0 a1 x16_2=some (r1,r2))/\ae (kq<=k)/\ae (Below w.heap.size w wc))
 case first =>
  have H:=HC3.out;clear HC3;obtain ⟨t313,A4,H⟩:=aA H;revert H;refine bA (λc5 H=>?_) λc5 H=>?_
  ·
   subst c5;obtain ⟨t314,A6,H⟩:=aA H;have H':=aa H;clear H;go_wp2_with (first|((with_reducible refine av 112 ?_);refine ax 10 Tryz.func112 #[.int .i64 a0,.int .i64 1,.int .i64 5] ?_;(with_reducible refine (ek.calls a0 1 5 true _ A4.out).mono ?_);rintro e w' ⟨rfl,⟨nd,rfl⟩⟩;refine ⟨_,rfl,?_⟩)|(go_at_call 191;(with_reducible refine (oz.calls a1 t314 _ A6.out).mono ?_);rintro e w' ⟨rfl,⟨nd,rfl⟩⟩));go_meet
   case rel=>exact ⟨_,(!t314),ag,H',⟨dF⟩,⟨af⟩⟩
  subst c5;have H':=aa H;clear H;go_wp2_with (first|((with_reducible refine av 112 ?_);refine ax 10 Tryz.func112 #[.int .i64 a0,.int .i64 1,.int .i64 5] ?_;(with_reducible refine (ek.calls a0 1 5 false _ A4.out).mono ?_);rintro e w' ⟨rfl,⟨nd,rfl⟩⟩;refine ⟨_,rfl,?_⟩));go_meet
  case rel=>exact ⟨_,(true),ag,H',⟨dF⟩,⟨af⟩⟩
 case rest =>
  clear HC3;obtain ⟨kq,x16_2,rfl,HA,HJ2,HB⟩:=hcut;cases kq with
  | zero=>exact ak HA.out
  | succ kj2 =>
   have H:=HA.out;clear HA;simp only[dX.j0]at H;revert H;refine bA (λc7 H=>?_) λc7 H=>?_
   ·
    subst c7;obtain ⟨rfl,rfl⟩:=dB H;go_wp2;go_ret2;exact ⟨aU,af⟩
   subst c7;obtain ⟨t315,A8,H⟩:=aA H;have H':=aa H;clear H;go_wp2_with (first|((with_reducible refine av 192 ?_);refine ax 18 Tryz.func192 #[.slice none 0 0,.int .i64 a0] ?_;(refine (eu.calls kj2 _ _ ([]:List Int) a0 t315 _ ?s1 ?s2 A8.out).mono ?_);(case s1=>exact Kd.C_nil _ _);(case s2=>exact Nat.le_refl _);rintro e w9 ⟨v316,rfl,ho0,hb⟩;refine ⟨_,rfl,?_⟩;have HO317:=aa (Kd.N_lower (Kd.N_mono (ok':=λk_=>True) ho0 (λk_ hk_=>trivial)) (ay af));replace HB:=aa (aj af hb);clear hb ho0;obtain ⟨Ao10,co10,eo10⟩:=Kd.N_slice HO317.out;subst eo10))
   go_loopg [6,20] kj2 (λkq v6 v20 w'=>∃ (x6_2:Int) (x20_2:Int),v6=.int .i64 x6_2/\v20=.int .i64 x20_2/\ae (dX.l0 kq a0 a1 x6_2 t315 (t315.length:Int) x20_2=some (r1,r2))/\ae (kq<=kj2)/\ae (Kd.N (Kd.slice 3 (Kd.int .i64)) 22 w' w.heap.size (λ_=>True) (.slice Ao10 t315.length co10) t315)/\ae (Below w.heap.size w w'))
   case atStart=>exact ⟨(0),(0),ag,ag,H',⟨Nat.le_refl _⟩,⟨lN HO317.out⟩,⟨af⟩⟩
   case round =>
    clear H';obtain ⟨x6_2,x20_2,rfl,rfl,HA,HK2,HO_18,HB⟩:=hrel;cases gk with
    | zero=>exact ak HA.out
    | succ k2 =>
     have H:=HA.out;clear HA;simp only[dX.l0]at H;revert H;refine bi (λc11b0 H=>?_) λc11b0 H=>?_
     ·
      revert H;refine aX λc12b0 H=>?_;revert H;refine aX λc13b0 H=>?_;obtain ⟨t319,A14,H⟩:=aA H;obtain ⟨t322,A15,H⟩:=aA H;revert H;refine bA (λc16 H=>?_) λc16 H=>?_
      ·
       subst c16;have H':=aa H;clear H;have p318:0<=(x20_2:Int):=of_decide_eq_true aD;have q318:x20_2<(t315.length:Int):=of_decide_eq_true aD;obtain ⟨ad318,A318_0,c318_0,e318,hx318_0,hl318_0,hi318_0⟩:=ym (Kd.N_reads' HO_18.out).2.2 x20_2 p318 q318;cases e318;obtain ⟨ce318,hce318,hMe318,hcc318⟩:=Kd.N_get HO_18.out [] x20_2 p318 (by first|exact q318|exact of_decide_eq_true aD|(have e_:=(Kd.N_reads' HO_18.out).1;omega));obtain ⟨ua318_0,uc318_0,rfl,ul318_0,ge318_0⟩:=Kd.FK_slice_open hMe318;have hv318_0:=hcc318 0 _ rfl;rw[Nat.add_zero,show ((Kd.slice 3 (Kd.int .i64))).sz=1 from rfl,Nat.mul_one]at hv318_0;replace hv318_0:=Option.some.inj (hv318_0.symm.trans hx318_0)
       injection hv318_0 with hva_ hvn_ hvc_
       rw[hva_]at ge318_0;rw[hvc_]at ul318_0;have HL318_0:=aa (show Kd.V (Kd.int .i64) 3 _ w.heap.size _ _ (kS t315 x20_2) from Kd.V_mk ul318_0 ge318_0);clear hva_ hvn_ hvc_ ge318_0 ul318_0 hcc318 hce318;have HR318_0:=aa hi318_0;have HC318_0:=aa hl318_0;clear hi318_0 hl318_0;replace p318:=eq_true p318;replace q318:=eq_true q318;go_wp2_with (first|((with_reducible refine av 193 ?_);refine ax 27 Tryz.func193 #[.slice A318_0 (kS t315 x20_2).length c318_0,.int .i64 a0,.int .i64 a1] ?_;(with_reducible refine (bI.calls k2 _ _ (kS t315 x20_2) a0 a1 t319 _ ?s1 ?s2 A14.out).mono ?_);(case s1=>exact rP HR318_0.out);(case s2=>exact HC318_0.out);rintro e w17 ⟨v320,rfl,ho0,hb⟩;refine ⟨_,rfl,?_⟩;replace HO_18:=aa (Kd.N_elder' (lN HO_18.out) (Kd.R_base ho0) hb);replace HL318_0:=aa (Kd.V_elder' (by (with_reducible repeat (first|apply Kd.V_alloc|apply Kd.V_drewN|apply Kd.V_drew));exact HL318_0.out) (Kd.R_base ho0) hb);have HO321:=aa (Kd.R_lower ho0 (ay af));replace HR318_0:=aa (Kd.C_below (rJ HR318_0.out) hb);replace HB:=aa (aj af hb);clear hb ho0;obtain ⟨Ao18,co18,eo18⟩:=Kd.R_slice HO321.out;subst eo18)|((with_reducible refine av 113 ?_);refine ax 28 Tryz.func113 #[.slice Ao18 t319.length co18,.int .i64 (-1)] ?_;(with_reducible refine (bD.calls k2 _ _ t319 (-1) true _ ?s1 ?s2 A15.out).mono ?_);(case s1=>exact eH HO321.out);(case s2=>exact (Kd.R_reads' HO321.out).2.1);rintro e w' ⟨rfl,⟨nd,rfl⟩⟩;refine ⟨_,rfl,?_⟩));go_roundg k2
       case measure=>have:=HJ2.out;have:=HK2.out;omega
       case rel=>exact ⟨(x6_2),(wrap64 (x20_2+1)),ag,ag,H',⟨dR HJ2.out HK2.out⟩,⟨by (with_reducible repeat (first|apply Kd.N_alloc|apply Kd.N_drewN|apply Kd.N_drew));exact Kd.N_mono HO_18.out (λ_ hk=>trivial)⟩,⟨af⟩⟩
      subst c16;have H':=aa H;clear H;have p318:0<=(x20_2:Int):=of_decide_eq_true aD;have q318:x20_2<(t315.length:Int):=of_decide_eq_true aD;obtain ⟨ad318,A318_0,c318_0,e318,hx318_0,hl318_0,hi318_0⟩:=ym (Kd.N_reads' HO_18.out).2.2 x20_2 p318 q318;cases e318;obtain ⟨ce318,hce318,hMe318,hcc318⟩:=Kd.N_get HO_18.out [] x20_2 p318 (by first|exact q318|exact of_decide_eq_true aD|(have e_:=(Kd.N_reads' HO_18.out).1;omega));obtain ⟨ua318_0,uc318_0,rfl,ul318_0,ge318_0⟩:=Kd.FK_slice_open hMe318;have hv318_0:=hcc318 0 _ rfl;rw[Nat.add_zero,show ((Kd.slice 3 (Kd.int .i64))).sz=1 from rfl,Nat.mul_one]at hv318_0;replace hv318_0:=Option.some.inj (hv318_0.symm.trans hx318_0)
      injection hv318_0 with hva_ hvn_ hvc_
      rw[hva_]at ge318_0;rw[hvc_]at ul318_0;have HL318_0:=aa (show Kd.V (Kd.int .i64) 3 _ w.heap.size _ _ (kS t315 x20_2) from Kd.V_mk ul318_0 ge318_0);clear hva_ hvn_ hvc_ ge318_0 ul318_0 hcc318 hce318;have HR318_0:=aa hi318_0;have HC318_0:=aa hl318_0;clear hi318_0 hl318_0;replace p318:=eq_true p318;replace q318:=eq_true q318;go_wp2_with (first|((with_reducible refine av 193 ?_);refine ax 27 Tryz.func193 #[.slice A318_0 (kS t315 x20_2).length c318_0,.int .i64 a0,.int .i64 a1] ?_;(with_reducible refine (bI.calls k2 _ _ (kS t315 x20_2) a0 a1 t319 _ ?s1 ?s2 A14.out).mono ?_);(case s1=>exact rP HR318_0.out);(case s2=>exact HC318_0.out);rintro e w19 ⟨v320,rfl,ho0,hb⟩;refine ⟨_,rfl,?_⟩;replace HO_18:=aa (Kd.N_elder' (lN HO_18.out) (Kd.R_base ho0) hb);replace HL318_0:=aa (Kd.V_elder' (by (with_reducible repeat (first|apply Kd.V_alloc|apply Kd.V_drewN|apply Kd.V_drew));exact HL318_0.out) (Kd.R_base ho0) hb);have HO321:=aa (Kd.R_lower ho0 (ay af));replace HR318_0:=aa (Kd.C_below (rJ HR318_0.out) hb);replace HB:=aa (aj af hb);clear hb ho0;obtain ⟨Ao20,co20,eo20⟩:=Kd.R_slice HO321.out;subst eo20)|((with_reducible refine av 113 ?_);refine ax 28 Tryz.func113 #[.slice Ao20 t319.length co20,.int .i64 (-1)] ?_;(with_reducible refine (bD.calls k2 _ _ t319 (-1) false _ ?s1 ?s2 A15.out).mono ?_);(case s1=>exact eH HO321.out);(case s2=>exact (Kd.R_reads' HO321.out).2.1);rintro e w' ⟨rfl,⟨nd,rfl⟩⟩;refine ⟨_,rfl,?_⟩));go_roundg k2
      case measure=>have:=HJ2.out;have:=HK2.out;omega
      case rel=>exact ⟨(wrap64 (x6_2+1)),(wrap64 (x20_2+1)),ag,ag,H',⟨dR HJ2.out HK2.out⟩,⟨by (with_reducible repeat (first|apply Kd.N_alloc|apply Kd.N_drewN|apply Kd.N_drew));exact Kd.N_mono HO_18.out (λ_ hk=>trivial)⟩,⟨af⟩⟩
     obtain ⟨rfl,rfl⟩:=dB H;go_wp2;go_ret2;exact ⟨aU,af⟩
def kR.l0:Nat->Int->List Int->Int->Int->Option (Int)
 | 0,_,_,_,_=>none
 | k+1,x3,x6,x7,x8=>if x8<x7 then (if 0<=x8 then (if x8<(x6.length:Int)then (kR.l0 k (wrap64 (x3+(rd x6 x8))) x6 x7 (wrap64 (x8+1)))else (none))else (none))else (some x3)
def kR.f(k:Nat)(l0:List Int):Option (Int):=kR.l0 k 0 l0 (l0.length:Int) 0
theorem kR.calls(k:Nat)(A0:Option Addr)(c0:Nat)(l0:List Int)(r:Int)(w:World)(hr0:Kd.C (Kd.int .i64) w A0 l0.length l0)(hc0:l0.length<=c0)(h:kR.f k l0=some r) :
  Calls Tryz.prog 194 #[.slice A0 l0.length c0] w λe w'=>e=.returned (.int .i64 r)/\bg w w':=by
 have HR0:=aa hr0;have HC0:=aa hc0;clear hr0 hc0;unfold kR.f at h;have H:=h;clear h;have H':=aa H;clear H;go_enter Tryz.func194,Tryz.ntmps194;go_wp2
 go_loopg [3,8] k (λkq v3 v8 w'=>∃ (x3_1:Int) (x8_1:Int),v3=.int .i64 x3_1/\v8=.int .i64 x8_1/\ae (kR.l0 kq x3_1 l0 (l0.length:Int) x8_1=some r)/\ae (kq<=k)/\bg w w')
 case atStart=>exact ⟨(0),(0),ag,ag,H',⟨Nat.le_refl _⟩,aZ⟩
 case round =>
  clear H';obtain ⟨x3_1,x8_1,rfl,rfl,HA,HK1,⟨m1,rfl⟩⟩:=hrel;cases gk with
  | zero=>exact ak HA.out
  | succ k1 =>
   have H:=HA.out;clear HA;simp only[kR.l0]at H;revert H;refine bi (λc2b0 H=>?_) λc2b0 H=>?_
   ·
    revert H;refine aX λc3b0 H=>?_;revert H;refine aX λc4b0 H=>?_;have H':=aa H;clear H;obtain ⟨ad323,rfl,hx323_0,p323,q323⟩:=bW HR0.out x8_1;go_wp2;go_roundg k1
    case measure=>have:=HK1.out;omega
    case rel=>exact ⟨(wrap64 (x3_1+(rd l0 x8_1))),(wrap64 (x8_1+1)),ag,ag,H',⟨bB HK1.out⟩,aZ⟩
   obtain rfl:=Option.some.inj H;go_wp2;go_ret;exact ⟨ag,aZ⟩
def iV.l0:Nat->List Int->List Int->Int->Int->List Int->Option (List Int)
 | 0,_,_,_,_,_=>none
 | k+1,x3,x7,x8,x9,x325000=>if x9<x8 then (if 0<=x9 then (if x9<(x7.length:Int)then (if (rd x7 x9)=(-1)then (iV.l0 k x3 x7 x8 (wrap64 (x9+1)) x325000)else ((jB.f (rd x7 x9) x9 (x325000.length:Int)).bind λt326=>(if x3.length<17592186044416 then (iV.l0 k (x3++[t326]) x7 x8 (wrap64 (x9+1)) x325000)else (none))))else (none))else (none))else (some x3)
def iV.f(k:Nat)(l0_0:List Int):Option (List Int):=iV.l0 k ([]:List Int) l0_0 (l0_0.length:Int) 0 l0_0
theorem iV.calls(k:Nat)(A0_0:Option Addr)(c0_0:Nat)(l0_0:List Int)(r:List Int)(w:World)(hr0_0:Kd.C (Kd.int .i64) w A0_0 l0_0.length l0_0)(hc0_0:l0_0.length<=c0_0)(h:iV.f k l0_0=some r) :
  Calls Tryz.prog 195 #[.agg #[.slice A0_0 l0_0.length c0_0]] w λe w'=>∃v0_:Value,e=.returned (v0_)/\Kd.R (Kd.int .i64) 3 w' w.heap.size (λ_=>True) v0_ r/\Below w.heap.size w w':=by
 have hu34:=Tryz.underlying34;have HR0_0:=aa hr0_0;have HC0_0:=aa hc0_0;clear hr0_0 hc0_0;have HB:=aa (Below.refl w.heap.size w);unfold iV.f at h;have H:=h;clear h;have H':=aa H;clear H;go_enter Tryz.func195,Tryz.ntmps195;go_wp2_with (first|((with_reducible refine dm 1 ?_);refine fJ #[.slice A0_0 l0_0.length c0_0] 34 ?_;intro gb324 hg w2 hbox hb;have BK324:=aa (hbox);have GW324:=aa ((by rw[hg];exact (ay af):w.heap.size<=gb324));have GE324:=aa ((by rw[hg];exact (ay af):w.heap.size<=gb324));replace HB:=aa (aj af hb);clear hb hbox hg;have hcz3_0:w2.cell? ⟨gb324,0,none⟩=some (.slice A0_0 l0_0.length c0_0):=(ah BK324.out 0).trans rfl;have hfz3_0:=au BK324.out 0))
 go_loopg [3,9] k (λkq v3 v9 w'=>∃ (x3_1:List Int) (x9_1:Int),v9=.int .i64 x9_1/\ae (iV.l0 kq x3_1 l0_0 (l0_0.length:Int) x9_1 l0_0=some r)/\ae (kq<=k)/\ae (Kd.R (Kd.int .i64) 3 w' w.heap.size (λ_=>True) v3 x3_1)/\ae (w'.heap[gb324]?=some (.cells #[(.slice A0_0 l0_0.length c0_0)] 34 (0,0)))/\ae (Below w.heap.size w w'))
 case atStart=>exact ⟨(([]:List Int)),(0),ag,H',⟨Nat.le_refl _⟩,⟨d9⟩,⟨aJ BK324.out⟩,⟨aY GE324.out⟩⟩
 case round =>
  clear H';obtain ⟨x3_1,x9_1,rfl,HA,HK1,HO_3,BK324,HB⟩:=hrel;cases gk with
  | zero=>exact ak HA.out
  | succ k1 =>
   have H:=HA.out;clear HA;simp only[iV.l0]at H;revert H;refine bi (λc4b0 H=>?_) λc4b0 H=>?_
   ·
    revert H;refine aX λc5b0 H=>?_;revert H;refine aX λc6b0 H=>?_;revert H;refine dH (λc7b0 c7b1 H=>?_) λc7 c7b0 c7b1 H=>?_
    ·
     have H':=aa H;clear H;obtain ⟨ad325,rfl,hx325_0,p325,q325⟩:=bW HR0_0.out x9_1
     (try (replace hx325_0:=(HB.out.cell (World.block_lt_of_cell? w _ hx325_0)).trans hx325_0))
     go_wp2;go_roundg k1
     case measure=>have:=HK1.out;omega
     case rel=>exact ⟨(x3_1),(wrap64 (x9_1+1)),ag,H',⟨bB HK1.out⟩,⟨ai HO_3.out⟩,⟨aJ BK324.out⟩,⟨aY GE324.out⟩⟩
    obtain ⟨t326,A8,H⟩:=aA H;revert H;refine bZ λc9 H=>?_;have LMc9:=aa c9;clear c9;obtain ⟨y327,hy327⟩:=bv ((x3_1++[t326]):List Int);replace H:(iV.l0 k1 y327 l0_0 (l0_0.length:Int) (wrap64 (x9_1+1)) l0_0)=some r:=bu hy327 H;have Ny327:=aa hy327;clear hy327;have H':=aa H;clear H;obtain ⟨ad325,rfl,hx325_0,p325,q325⟩:=bW HR0_0.out x9_1
    (try (replace hx325_0:=(HB.out.cell (World.block_lt_of_cell? w _ hx325_0)).trans hx325_0))
    have hcz10_0:wr.cell? ⟨gb324,0,none⟩=some (.slice (some ad325) l0_0.length c0_0):=(ah BK324.out 0).trans rfl;have hfz10_0:=au BK324.out 0;go_wp2_with (first|((with_reducible refine av 114 ?_);refine ax 22 Tryz.func114 #[.int .i64 (rd l0_0 x9_1),.int .i64 x9_1,.int .i64 (l0_0.length:Int)] ?_;(with_reducible refine (jB.calls (rd l0_0 x9_1) x9_1 (l0_0.length:Int) t326 _ A8.out).mono ?_);rintro e w' ⟨rfl,⟨nd,rfl⟩⟩;refine ⟨_,rfl,?_⟩)|((with_reducible refine dE (b:=.append) (xs:=#[.tmp 16,.tmp 23]) rfl ?_);at_builtin;refine eQ (w0:=w) (.tmp 16) (.tmp 23) u3 x3_1 t326 (λ_=>True) (λ_ _=>trivial) (ai HO_3.out) (aY GE324.out) (by exact bB LMc9.out) ?_;intro v328 w11 ho hb hg hat;rw[<- Ny327.out]at ho;replace BK324:=aa (iM (g:=gb324) (o:=.cells #[.slice (some ad325) l0_0.length c0_0] 34 (0,0)) (aJ BK324.out) hg (Kd.R_ne HO_3.out BK324.out (by decide)));replace HB:=aa (hb);have HO329:=aa (ho);clear ho hb hg hat));go_roundg k1
    case measure=>have:=HK1.out;omega
    case rel=>exact ⟨(y327),(wrap64 (x9_1+1)),ag,H',⟨bB HK1.out⟩,⟨ai HO329.out⟩,⟨aJ BK324.out⟩,⟨aY GE324.out⟩⟩
   obtain rfl:=Option.some.inj H;go_wp2;go_ret;exact ⟨_,aU,ai HO_3.out,aY GE324.out⟩
def pu.f(k:Nat)(l0_0:List Int):Option (Int × Bool):=(cZ.f k l0_0).bind λt331=>(if t331=true then ((iV.f k l0_0).bind λt332=>((kR.f k t332).bind λt335=>(some (t335,true))))else (some (0,false)))
theorem pu.calls(k:Nat)(A0_0:Option Addr)(c0_0:Nat)(l0_0:List Int)(r1:Int)(r2:Bool)(w:World)(hr0_0:Kd.C (Kd.int .i64) w A0_0 l0_0.length l0_0)(hc0_0:l0_0.length<=c0_0)(h:pu.f k l0_0=some (r1,r2)) :
  Calls Tryz.prog 136 #[.agg #[.slice A0_0 l0_0.length c0_0]] w λe w'=>e=.returned (.tuple #[.int .i64 r1,.bool r2])/\Below w.heap.size w w':=by
 have hu34:=Tryz.underlying34;have HR0_0:=aa hr0_0;have HC0_0:=aa hc0_0;clear hr0_0 hc0_0;have HB:=aa (Below.refl w.heap.size w);unfold pu.f at h;have H:=h;clear h;obtain ⟨t331,A2,H⟩:=aA H;revert H;refine bA (λc3 H=>?_) λc3 H=>?_
 ·
  subst c3;obtain ⟨t332,A4,H⟩:=aA H;obtain ⟨t335,A5,H⟩:=aA H;obtain ⟨rfl,rfl⟩:=dB H;go_enter Tryz.func136,Tryz.ntmps136;go_wp2_with (first|((with_reducible refine dm 1 ?_);refine fJ #[.slice A0_0 l0_0.length c0_0] 34 ?_;intro gb330 hg w6 hbox hb;have BK330:=aa (hbox);have GW330:=aa ((by rw[hg];exact (ay af):w.heap.size<=gb330));have GE330:=aa ((by rw[hg];exact (ay af):w.heap.size<=gb330));replace HB:=aa (aj af hb);clear hb hbox hg;have hcz7_0:w6.cell? ⟨gb330,0,none⟩=some (.slice A0_0 l0_0.length c0_0):=(ah BK330.out 0).trans rfl;have hfz7_0:=au BK330.out 0)|((with_reducible refine av 72 ?_);refine ax 5 Tryz.func72 #[.agg #[.slice A0_0 l0_0.length c0_0]] ?_;(with_reducible refine (cZ.calls k _ _ l0_0 true _ ?s1 ?s2 A2.out).mono ?_);(case s1=>exact bQ HR0_0.out);(case s2=>exact HC0_0.out);rintro e w8 ⟨rfl,hb⟩;refine ⟨_,rfl,?_⟩;replace BK330:=aa (aI (g:=gb330) (o:=.cells #[.slice A0_0 l0_0.length c0_0] 34 (0,0)) (aJ BK330.out) hb);replace HB:=aa (aj (aY GE330.out) hb);clear hb;have hcz9_0:w8.cell? ⟨gb330,0,none⟩=some (.slice A0_0 l0_0.length c0_0):=(ah BK330.out 0).trans rfl;have hfz9_0:=au BK330.out 0)|((with_reducible refine av 195 ?_);refine ax 8 Tryz.func195 #[.agg #[.slice A0_0 l0_0.length c0_0]] ?_;(with_reducible refine (iV.calls k _ _ l0_0 t332 _ ?s1 ?s2 A4.out).mono ?_);(case s1=>exact bQ HR0_0.out);(case s2=>exact HC0_0.out);rintro e w10 ⟨v333,rfl,ho0,hb⟩;refine ⟨_,rfl,?_⟩;have HO334:=aa (Kd.R_lower ho0 (ay (aY GE330.out)));replace BK330:=aa (aI (g:=gb330) (o:=.cells #[.slice A0_0 l0_0.length c0_0] 34 (0,0)) (aJ BK330.out) hb);replace HB:=aa (aj (aY GE330.out) hb);clear hb ho0;obtain ⟨Ao11,co11,eo11⟩:=Kd.R_slice HO334.out;subst eo11)|((with_reducible refine av 194 ?_);refine ax 9 Tryz.func194 #[.slice Ao11 t332.length co11] ?_;(with_reducible refine (kR.calls k _ _ t332 t335 _ ?s1 ?s2 A5.out).mono ?_);(case s1=>exact eH HO334.out);(case s2=>exact (Kd.R_reads' HO334.out).2.1);rintro e w' ⟨rfl,⟨nd,rfl⟩⟩;refine ⟨_,rfl,?_⟩));go_ret2;exact ⟨aU,aY GE330.out⟩
 subst c3;obtain ⟨rfl,rfl⟩:=dB H;go_enter Tryz.func136,Tryz.ntmps136;go_wp2_with (first|((with_reducible refine dm 1 ?_);refine fJ #[.slice A0_0 l0_0.length c0_0] 34 ?_;intro gb330 hg w12 hbox hb;have BK330:=aa (hbox);have GW330:=aa ((by rw[hg];exact (ay af):w.heap.size<=gb330));have GE330:=aa ((by rw[hg];exact (ay af):w.heap.size<=gb330));replace HB:=aa (aj af hb);clear hb hbox hg;have hcz13_0:w12.cell? ⟨gb330,0,none⟩=some (.slice A0_0 l0_0.length c0_0):=(ah BK330.out 0).trans rfl;have hfz13_0:=au BK330.out 0)|((with_reducible refine av 72 ?_);refine ax 5 Tryz.func72 #[.agg #[.slice A0_0 l0_0.length c0_0]] ?_;(with_reducible refine (cZ.calls k _ _ l0_0 false _ ?s1 ?s2 A2.out).mono ?_);(case s1=>exact bQ HR0_0.out);(case s2=>exact HC0_0.out);rintro e w14 ⟨rfl,hb⟩;refine ⟨_,rfl,?_⟩;replace BK330:=aa (aI (g:=gb330) (o:=.cells #[.slice A0_0 l0_0.length c0_0] 34 (0,0)) (aJ BK330.out) hb);replace HB:=aa (aj (aY GE330.out) hb);clear hb));go_ret2;exact ⟨aU,aY GE330.out⟩
def jw.j0:Nat->Int->Bool->List Int->Option (Int × Int × Bool)
 | 0,_,_,_=>none
 | k+1,x1,x21,x337000=>if x21=true then (some (0,0,false))else ((iB.f k x337000 x1).bind λt340=>((jB.f x1 t340 (x337000.length:Int)).bind λt341=>(some (t340,t341,true))))
def jw.f(k:Nat)(l0_0:List Int)(a1:Int):Option (Int × Int × Bool):=(cZ.f k l0_0).bind λt337=>(if t337=true then ((kr.f a1).bind λt338=>(if t338=true then ((iB.f k l0_0 a1).bind λt339=>(jw.j0 k a1 (decide (t339<0)) l0_0))else (jw.j0 k a1 true l0_0)))else (jw.j0 k a1 true l0_0))
theorem jw.calls(k:Nat)(A0_0:Option Addr)(c0_0:Nat)(l0_0:List Int)(a1:Int)(r1:Int)(r2:Int)(r3:Bool)(w:World)(hr0_0:Kd.C (Kd.int .i64) w A0_0 l0_0.length l0_0)(hc0_0:l0_0.length<=c0_0)(h:jw.f k l0_0 a1=some (r1,r2,r3)) :
  Calls Tryz.prog 137 #[.agg #[.slice A0_0 l0_0.length c0_0],.int .i64 a1] w λe w'=>e=.returned (.tuple #[.int .i64 r1,.int .i64 r2,.bool r3])/\Below w.heap.size w w':=by
 have hu34:=Tryz.underlying34;have HR0_0:=aa hr0_0;have HC0_0:=aa hc0_0;clear hr0_0 hc0_0;have HB:=aa (Below.refl w.heap.size w);unfold jw.f at h;have H:=h;clear h;have HC3:=aa H;clear H;go_enter Tryz.func137,Tryz.ntmps137
 go_upto_region 1 with (first|((with_reducible refine dm 2 ?_);refine fJ #[.slice A0_0 l0_0.length c0_0] 34 ?_;intro gb336 hg w4 hbox hb;have BK336:=aa (hbox);have GW336:=aa ((by rw[hg];exact (ay af):w.heap.size<=gb336));have GE336:=aa ((by rw[hg];exact (ay af):w.heap.size<=gb336));replace HB:=aa (aj af hb);clear hb hbox hg))
 (try simp only[Act.put,List.setIfInBounds_toArray,List.set_cons_zero,List.set_cons_succ])
 go_cut [21] (λv21 wc=>∃ (kq:Nat) (x21_2:Bool),v21=.bool x21_2/\ae (jw.j0 kq a1 x21_2 l0_0=some (r1,r2,r3))/\ae (kq<=k)/\ae (wc.heap[gb336]?=some (.cells #[(.slice A0_0 l0_0.length c0_0)] 34 (0,0)))/\ae (Below w.heap.size w wc))
 case first =>
  have H:=HC3.out;clear HC3;obtain ⟨t337,A5,H⟩:=aA H;revert H;refine bA (λc6 H=>?_) λc6 H=>?_
  ·
   subst c6;obtain ⟨t338,A7,H⟩:=aA H;revert H;refine bA (λc8 H=>?_) λc8 H=>?_
   ·
    subst c8;obtain ⟨t339,A9,H⟩:=aA H;have H':=aa H;clear H;have hcz10_0:w4.cell? ⟨gb336,0,none⟩=some (.slice A0_0 l0_0.length c0_0):=(ah BK336.out 0).trans rfl;have hfz10_0:=au BK336.out 0;go_wp2_with (first|((with_reducible refine av 72 ?_);refine ax 9 Tryz.func72 #[.agg #[.slice A0_0 l0_0.length c0_0]] ?_;(with_reducible refine (cZ.calls k _ _ l0_0 true _ ?s1 ?s2 A5.out).mono ?_);(case s1=>exact bQ HR0_0.out);(case s2=>exact HC0_0.out);rintro e w11 ⟨rfl,hb⟩;refine ⟨_,rfl,?_⟩;replace BK336:=aa (aI (g:=gb336) (o:=.cells #[.slice A0_0 l0_0.length c0_0] 34 (0,0)) (aJ BK336.out) hb);replace HB:=aa (aj (aY GE336.out) hb);clear hb)|(go_at_call 183;(with_reducible refine (kr.calls a1 true _ A7.out).mono ?_);rintro e w' ⟨rfl,⟨nd,rfl⟩⟩;have hcz12_0:w11.cell? ⟨gb336,0,none⟩=some (.slice A0_0 l0_0.length c0_0):=(ah BK336.out 0).trans rfl;have hfz12_0:=au BK336.out 0)|(go_at_call 186;(with_reducible refine (iB.calls k _ _ l0_0 a1 t339 _ ?s1 ?s2 A9.out).mono ?_);(case s1=>exact kL HR0_0.out GE336.out);(case s2=>exact HC0_0.out);rintro e w13 ⟨rfl,hb⟩;replace BK336:=aa (aI (g:=gb336) (o:=.cells #[.slice A0_0 l0_0.length c0_0] 34 (0,0)) (aJ BK336.out) hb);replace HB:=aa (aj (aY GE336.out) hb);clear hb));go_meet
    case rel=>exact ⟨_,(decide (t339<0)),ag,H',⟨dF⟩,⟨aJ BK336.out⟩,⟨aY GE336.out⟩⟩
   subst c8;have H':=aa H;clear H;have hcz14_0:w4.cell? ⟨gb336,0,none⟩=some (.slice A0_0 l0_0.length c0_0):=(ah BK336.out 0).trans rfl;have hfz14_0:=au BK336.out 0;go_wp2_with (first|((with_reducible refine av 72 ?_);refine ax 9 Tryz.func72 #[.agg #[.slice A0_0 l0_0.length c0_0]] ?_;(with_reducible refine (cZ.calls k _ _ l0_0 true _ ?s1 ?s2 A5.out).mono ?_);(case s1=>exact bQ HR0_0.out);(case s2=>exact HC0_0.out);rintro e w15 ⟨rfl,hb⟩;refine ⟨_,rfl,?_⟩;replace BK336:=aa (aI (g:=gb336) (o:=.cells #[.slice A0_0 l0_0.length c0_0] 34 (0,0)) (aJ BK336.out) hb);replace HB:=aa (aj (aY GE336.out) hb);clear hb)|(go_at_call 183;(with_reducible refine (kr.calls a1 false _ A7.out).mono ?_);rintro e w' ⟨rfl,⟨nd,rfl⟩⟩));go_meet
   case rel=>exact ⟨_,(true),ag,H',⟨dF⟩,⟨aJ BK336.out⟩,⟨aY GE336.out⟩⟩
  subst c6;have H':=aa H;clear H;have hcz16_0:w4.cell? ⟨gb336,0,none⟩=some (.slice A0_0 l0_0.length c0_0):=(ah BK336.out 0).trans rfl;have hfz16_0:=au BK336.out 0;go_wp2_with (first|((with_reducible refine av 72 ?_);refine ax 9 Tryz.func72 #[.agg #[.slice A0_0 l0_0.length c0_0]] ?_;(with_reducible refine (cZ.calls k _ _ l0_0 false _ ?s1 ?s2 A5.out).mono ?_);(case s1=>exact bQ HR0_0.out);(case s2=>exact HC0_0.out);rintro e w17 ⟨rfl,hb⟩;refine ⟨_,rfl,?_⟩;replace BK336:=aa (aI (g:=gb336) (o:=.cells #[.slice A0_0 l0_0.length c0_0] 34 (0,0)) (aJ BK336.out) hb);replace HB:=aa (aj (aY GE336.out) hb);clear hb));go_meet
  case rel=>exact ⟨_,(true),ag,H',⟨dF⟩,⟨aJ BK336.out⟩,⟨aY GE336.out⟩⟩
 case rest =>
  clear HC3;obtain ⟨kq,x21_2,rfl,HA,HJ2,BK336,HB⟩:=hcut;cases kq with
  | zero=>exact ak HA.out
  | succ kj2 =>
   have H:=HA.out;clear HA;simp only[jw.j0]at H;revert H;refine bA (λc18 H=>?_) λc18 H=>?_
   ·
    subst c18;obtain ⟨rfl,rfl,rfl⟩:=eD H;go_wp2;go_ret3;exact ⟨aU,aY GE336.out⟩
   subst c18;obtain ⟨t340,A19,H⟩:=aA H;obtain ⟨t341,A20,H⟩:=aA H;obtain ⟨rfl,rfl,rfl⟩:=eD H;have hcz21_0:wc.cell? ⟨gb336,0,none⟩=some (.slice A0_0 l0_0.length c0_0):=(ah BK336.out 0).trans rfl;have hfz21_0:=au BK336.out 0;go_wp2_with (first|((with_reducible refine av 186 ?_);refine ax 24 Tryz.func186 #[.agg #[.slice A0_0 l0_0.length c0_0],.int .i64 a1] ?_;(with_reducible refine (iB.calls kj2 _ _ l0_0 a1 t340 _ ?s1 ?s2 A19.out).mono ?_);(case s1=>exact bQ HR0_0.out);(case s2=>exact HC0_0.out);rintro e w22 ⟨rfl,hb⟩;refine ⟨_,rfl,?_⟩;replace BK336:=aa (aI (g:=gb336) (o:=.cells #[.slice A0_0 l0_0.length c0_0] 34 (0,0)) (aJ BK336.out) hb);replace HB:=aa (aj (aY GE336.out) hb);clear hb;have hcz23_0:w22.cell? ⟨gb336,0,none⟩=some (.slice A0_0 l0_0.length c0_0):=(ah BK336.out 0).trans rfl;have hfz23_0:=au BK336.out 0)|((with_reducible refine av 114 ?_);refine ax 31 Tryz.func114 #[.int .i64 a1,.int .i64 t340,.int .i64 (l0_0.length:Int)] ?_;(with_reducible refine (jB.calls a1 t340 (l0_0.length:Int) t341 _ A20.out).mono ?_);rintro e w' ⟨rfl,⟨nd,rfl⟩⟩;refine ⟨_,rfl,?_⟩));go_ret3;exact ⟨aU,aY GE336.out⟩
def gB.f(a0:Int)(a1:Int)(a2:Int):Option (Bool):=if a0 >= a1 then (some (decide (a0<=a2)))else (some false)
theorem gB.calls(a0:Int)(a1:Int)(a2:Int)(r:Bool)(w:World)(h:gB.f a0 a1 a2=some r) :
  Calls Tryz.prog 101 #[.int .i64 a0,.int .i64 a1,.int .i64 a2] w λe w'=>e=.returned (.bool r)/\bg w w':=by
 unfold gB.f at h;have H:=h;clear h;revert H;refine bi (λc4b0 H=>?_) λc4b0 H=>?_
 ·
  obtain rfl:=Option.some.inj H;go_enter Tryz.func101,Tryz.ntmps101;go_wp2;go_ret;exact ⟨ag,aZ⟩
 obtain rfl:=Option.some.inj H;go_enter Tryz.func101,Tryz.ntmps101;go_wp2;go_ret;exact ⟨ag,aZ⟩
def ji.f(a0:Int):Option (Bool):=(gB.f a0 0 8).bind λt350=>(some t350)
theorem ji.calls(a0:Int)(r:Bool)(w:World)(h:ji.f a0=some r) :
  Calls Tryz.prog 100 #[.int .i64 a0] w λe w'=>e=.returned (.bool r)/\bg w w':=by
 unfold ji.f at h;have H:=h;clear h;obtain ⟨t350,A2,H⟩:=aA H;obtain rfl:=Option.some.inj H;go_enter Tryz.func100,Tryz.ntmps100;go_wp2_with (first|((with_reducible refine av 101 ?_);refine ax 4 Tryz.func101 #[.int .i64 a0,.int .i64 0,.int .i64 8] ?_;(with_reducible refine (gB.calls a0 0 8 t350 _ A2.out).mono ?_);rintro e w' ⟨rfl,⟨nd,rfl⟩⟩;refine ⟨_,rfl,?_⟩));go_ret;exact ⟨ag,aZ⟩
def gy.l0:Nat->Int->Int->Int->Int->Option (Int)
 | 0,_,_,_,_=>none
 | k+1,x0,x5,x6,x7=>if x7<x6 then (gy.l0 k x0 (wrap64 (x5 * x0)) x6 (wrap64 (x7+1)))else (some x5)
def gy.f(k:Nat)(a0:Int)(a1:Int):Option (Int):=gy.l0 k a0 1 a1 0
theorem gy.mono_l:∀k,(∀y0 y1 y2 y3,aC (gy.l0 k y0 y1 y2 y3) (gy.l0 (k+1) y0 y1 y2 y3))
 | 0=>λ_ _ _ _ r h=>by simp[gy.l0]at h
 | k+1=>by
  have ih0:=gy.mono_l k
  ·
   intro y0 y1 y2 y3;unfold gy.l0
   repeat' (with_reducible first|exact ih0 _ _ _ _|exact aC.refl _|exact aC.none _|refine aC.ite ?_ ?_|refine aC.bind ?_ (λ_=>?_))
theorem gy.mono:∀a0 a1 k,aC (gy.f k a0 a1) (gy.f (k+1) a0 a1):=by
 intro a0 a1 k;have ih0:=gy.mono_l k;unfold gy.f
 repeat' (with_reducible first|exact ih0 _ _ _ _|exact aC.refl _|exact aC.none _|refine aC.ite ?_ ?_|refine aC.bind ?_ (λ_=>?_))
theorem gy.calls(k:Nat)(a0:Int)(a1:Int)(r:Int)(w:World)(h:gy.f k a0 a1=some r) :
  Calls Tryz.prog 171 #[.int .i64 a0,.int .i64 a1] w λe w'=>e=.returned (.int .i64 r)/\bg w w':=by
 unfold gy.f at h;have H:=h;clear h;have H':=aa H;clear H;go_enter Tryz.func171,Tryz.ntmps171;go_wp2
 go_loopg [5,7] k (λkq v5 v7 w'=>∃ (x5_1:Int) (x7_1:Int),v5=.int .i64 x5_1/\v7=.int .i64 x7_1/\ae (gy.l0 kq a0 x5_1 a1 x7_1=some r)/\ae (kq<=k)/\bg w w')
 case atStart=>exact ⟨(1),(0),ag,ag,H',⟨Nat.le_refl _⟩,aZ⟩
 case round =>
  clear H';obtain ⟨x5_1,x7_1,rfl,rfl,HA,HK1,⟨m1,rfl⟩⟩:=hrel;cases gk with
  | zero=>exact ak HA.out
  | succ k1 =>
   have H:=HA.out;clear HA;simp only[gy.l0]at H;revert H;refine bi (λc3b0 H=>?_) λc3b0 H=>?_
   ·
    have H':=aa H;clear H;go_wp2;go_roundg k1
    case measure=>have:=HK1.out;omega
    case rel=>exact ⟨(wrap64 (x5_1 * a0)),(wrap64 (x7_1+1)),ag,ag,H',⟨bB HK1.out⟩,aZ⟩
   obtain rfl:=Option.some.inj H;go_wp2;go_ret;exact ⟨ag,aZ⟩
def jC.f(k:Nat)(a0:Int):Option (Int):=(gy.f k (wrap64 (a0+1)) (mx (wrap64 (a0 - 1)) 0)).bind λt351=>(some t351)
theorem jC.mono:∀a0 k,aC (jC.f k a0) (jC.f (k+1) a0):=by
 intro a0 k;unfold jC.f
 repeat' (with_reducible first|exact gy.mono _ _ _|exact aC.refl _|exact aC.none _|refine aC.ite ?_ ?_|refine aC.bind ?_ (λ_=>?_))
theorem jC.calls(k:Nat)(a0:Int)(r:Int)(w:World)(h:jC.f k a0=some r) :
  Calls Tryz.prog 102 #[.int .i64 a0] w λe w'=>e=.returned (.int .i64 r)/\Below w.heap.size w w':=by
 have HB:=aa (Below.refl w.heap.size w);unfold jC.f at h;have H:=h;clear h;obtain ⟨ji2,hji2⟩:∃j_:Int,(mx (wrap64 (a0 - 1)) 0)=j_:=⟨_,rfl⟩;replace H:((gy.f k (wrap64 (a0+1)) (ji2)).bind λt351=>(some t351))=some r:=by first|(rw[hji2]at H;exact H)|(simp only[hji2]at H ⊢;exact H)
 (try (have hji2l:0<=ji2:=by (rw[<- hji2];unfold mx;(repeat' split) <;> omega)))
 (try (have hji2m:0<=ji2:=by omega))
 have hji2_:(if (wrap64 (a0 - 1))<0 then 0 else (wrap64 (a0 - 1)))=ji2:=hji2;obtain ⟨t351,A3,H⟩:=aA H;obtain rfl:=Option.some.inj H;go_enter Tryz.func102,Tryz.ntmps102;go_wp2_with (first|((with_reducible refine av 171 ?_);refine oL (some 8) rfl rfl Tryz.func171 (by kernel_rfl) rfl #[.int .i64 (wrap64 (a0+1)),.int .i64 ji2] rfl (by (try simp only[List.map_toArray,List.map_cons,List.map_nil]);first|done|(simp only[hji2];rfl)|rfl|(simp only[List.length_drop,List.length_take];rfl)) ?_;(with_reducible refine (gy.calls k (wrap64 (a0+1)) ji2 t351 _ A3.out).mono ?_);rintro e w' ⟨rfl,⟨nd,rfl⟩⟩;refine ⟨_,rfl,?_⟩));go_ret;exact ⟨by first|rfl|(simp[ig,ic] <;> rfl)|(simp only[<- hji2];first|rfl|(simp[ig,ic] <;> rfl))|(simp[*,ig,ic] <;> rfl),af⟩
def fQ.l0:Nat->Int->Int->Int->Int->Option (Int)
 | 0,_,_,_,_=>none
 | k+1,x0,x5,x7,x8=>if x8<x7 then (if (wrap64 (x8+1))=0 then (none)else (fQ.l0 k x0 (wrap64 (Int.tdiv (wrap64 (x5 * (wrap64 (x0 - x8)))) (wrap64 (x8+1)))) x7 (wrap64 (x8+1))))else (some x5)
def fQ.f(k:Nat)(a0:Int)(a1:Int):Option (Int):=fQ.l0 k a0 1 a1 0
theorem fQ.mono_l:∀k,(∀y0 y1 y2 y3,aC (fQ.l0 k y0 y1 y2 y3) (fQ.l0 (k+1) y0 y1 y2 y3))
 | 0=>λ_ _ _ _ r h=>by simp[fQ.l0]at h
 | k+1=>by
  have ih0:=fQ.mono_l k
  ·
   intro y0 y1 y2 y3;unfold fQ.l0
   repeat' (with_reducible first|exact ih0 _ _ _ _|exact aC.refl _|exact aC.none _|refine aC.ite ?_ ?_|refine aC.bind ?_ (λ_=>?_))
theorem fQ.mono:∀a0 a1 k,aC (fQ.f k a0 a1) (fQ.f (k+1) a0 a1):=by
 intro a0 a1 k;have ih0:=fQ.mono_l k;unfold fQ.f
 repeat' (with_reducible first|exact ih0 _ _ _ _|exact aC.refl _|exact aC.none _|refine aC.ite ?_ ?_|refine aC.bind ?_ (λ_=>?_))
theorem fQ.calls(k:Nat)(a0:Int)(a1:Int)(r:Int)(w:World)(h:fQ.f k a0 a1=some r) :
  Calls Tryz.prog 174 #[.int .i64 a0,.int .i64 a1] w λe w'=>e=.returned (.int .i64 r)/\bg w w':=by
 unfold fQ.f at h;have H:=h;clear h;have H':=aa H;clear H;go_enter Tryz.func174,Tryz.ntmps174;go_wp2
 go_loopg [5,8] k (λkq v5 v8 w'=>∃ (x5_1:Int) (x8_1:Int),v5=.int .i64 x5_1/\v8=.int .i64 x8_1/\ae (fQ.l0 kq a0 x5_1 a1 x8_1=some r)/\ae (kq<=k)/\bg w w')
 case atStart=>exact ⟨(1),(0),ag,ag,H',⟨Nat.le_refl _⟩,aZ⟩
 case round =>
  clear H';obtain ⟨x5_1,x8_1,rfl,rfl,HA,HK1,⟨m1,rfl⟩⟩:=hrel;cases gk with
  | zero=>exact ak HA.out
  | succ k1 =>
   have H:=HA.out;clear HA;simp only[fQ.l0]at H;revert H;refine bi (λc3b0 H=>?_) λc3b0 H=>?_
   ·
    revert H;refine jb λc4 H=>?_;have c4b0:=beq_eq_false_iff_ne.mpr c4;have c4b1:=bne_iff_ne.mpr c4;have H':=aa H;clear H;go_wp2;go_roundg k1
    case measure=>have:=HK1.out;omega
    case rel=>exact ⟨(wrap64 (Int.tdiv (wrap64 (x5_1 * (wrap64 (a0 - x8_1)))) (wrap64 (x8_1+1)))),(wrap64 (x8_1+1)),ag,ag,H',⟨bB HK1.out⟩,aZ⟩
   obtain rfl:=Option.some.inj H;go_wp2;go_ret;exact ⟨ag,aZ⟩
end Go.Proofs.YtjdlhefjgceabaaGreatDoor.PAll

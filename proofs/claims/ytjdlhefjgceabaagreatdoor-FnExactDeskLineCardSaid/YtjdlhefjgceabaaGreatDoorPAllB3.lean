import Derived.Test.YtjdlhefjgceabaaGreatDoorPAllA3
namespace Go.Proofs.YtjdlhefjgceabaaGreatDoor.PAll
open Go.RowKit Go.Proofs.YtjdlhefjgceabaaGreatDoor.Hand Go.Proofs.YtjdlhefjgceabaaGreatDoorW.PrintWords Go.Proofs.YtjdlhefjgceabaaGreatDoorW.PrintLast Go.Proofs.YtjdlhefjgceabaaGreatDoorW.PrintMore
attribute [local go_sem] max2_int min2_int max_two min_two max_three min_three max_four min_four
set_option maxHeartbeats 8000000
set_option maxRecDepth 100000
set_option linter.unusedVariables false
set_option linter.unusedSimpArgs false
def spec_InsertKey.j0:Nat->Int->Bool->List Int->Option (List Int × Int × Bool)
 | 0,_,_,_=>none
 | k + 1,x1,x31,x241000=>if x31 = true then (some (([]:List Int),0,false)) else ((spec_l1Own.f x241000).bind fun t246=>((spec_prInsert.f k t246 x1).bind fun bt250=>(some (bt250.2,bt250.1,true))))
def spec_InsertKey.f (k:Nat) (l0_0:List Int) (a1:Int):Option (List Int × Int × Bool):=(spec_prGood.f k l0_0).bind fun t242=>(if t242 = true then ((spec_prKey.f a1).bind fun t243=>(if t243 = true then ((spec_l1Has.f k l0_0 a1).bind fun t244=>(if t244 = true then (spec_InsertKey.j0 k a1 true l0_0) else ((spec_prMany.f k l0_0).bind fun t245=>(spec_InsertKey.j0 k a1 (t245 == (wrap64 ((l0_0.length:Int) - 1))) l0_0)))) else (spec_InsertKey.j0 k a1 true l0_0))) else (spec_InsertKey.j0 k a1 true l0_0))
def spec_InsertKey.T1:Bool × List (List Nat × List Nat):=(true,[([],[]),([0],[0]),([1],[1]),([2,1],[2]),([3],[3]),([4,3,3],[3,4]),([5,3],[3,5]),([3,6],[3,6]),([7,5],[7]),([8],[8]),([9,8],[8,9]),([8],[8]),([10,11,8,8],[8,10,11]),([8,12],[8,12]),([13,12],[13]),([14],[14]),([15,14,14],[14,15]),([14],[14]),([17,14],[14,17]),([18,14],[14,18]),([19,14],[14,19]),([16,20,14],[14,16,20]),([14,21],[14,21])])
def spec_InsertKey.B1:List Nat:=[0,1,3,7,15,31,63,127,255,511,1023,511,4095,8191,16383,32767,65535,32767,163839,425983,950271,2097151,4194303]
theorem spec_InsertKey.tab1:rtab .any (opsOf Tryz.f124 1) = spec_InsertKey.T1:=by kernel_rfl
theorem spec_InsertKey.bits1:waitsOk spec_InsertKey.T1.2 spec_InsertKey.B1 = true:=by kernel_rfl
theorem spec_InsertKey.calls (k:Nat) (A0_0:Option Addr) (c0_0:Nat) (l0_0:List Int) (a1:Int) (r1:List Int) (r2:Int) (r3:Bool) (w:World) (hr0_0:Kd.C (Kd.int .i64) w A0_0 l0_0.length l0_0) (hc0_0:l0_0.length<=c0_0) (h:spec_InsertKey.f k l0_0 a1 = some (r1,r2,r3)) :
  Calls Tryz.prog 124 #[.agg #[.slice A0_0 l0_0.length c0_0],.int .i64 a1] w fun e w'=>∃ v0_:Value,e = .returned (.tuple #[.agg #[v0_],.int .i64 r2,.bool r3])/\Kd.R (Kd.int .i64) 3 w' w.heap.size (fun _=>True) v0_ r1/\Below w.heap.size w w':=by
 have hu34:=Tryz.underlying34;have HR0_0:=am_ hr0_0;have HC0_0:=am_ hc0_0;clear hr0_0 hc0_0;have HB:=am_ (Below.refl w.heap.size w);unfold spec_InsertKey.f at h;have H:=h;clear h;have HC3:=am_ H;clear H;go_enter Tryz.func124,Tryz.ntmps124
 go_upto_region 1 with (first | ((with_reducible refine gd_ 2 ?_);(try (refine gate_guard (by rfl) ?_;dsimp only));refine bx_ #[.slice A0_0 l0_0.length c0_0] 34 ?_;intro gb240 hg w4 hbox hb;have BK240:=am_ (hbox);have GW240:=am_ ((by rw [hg];exact (below_size q0c4_):w.heap.size<=gb240));have GE240:=am_ ((by rw [hg];exact (below_size q0c4_):w.heap.size<=gb240));replace HB:=am_ (below_step q0c4_ hb);clear hb hbox hg) | ((with_reducible refine gd_ 4 ?_);(try (refine gate_guard (by rfl) ?_;dsimp only));refine bx_ #[.slice none 0 0] 34 ?_;intro gb241 hg w5 hbox hb;have BK241:=am_ (hbox);have GW241:=am_ ((by rw [hg];exact (below_size (qfcd_ GE240.out)):w.heap.size<=gb241));have GE241:=am_ ((by rw [hg];exact (below_size (qfcd_ GE240.out)):w.heap.size<=gb241));have NB240_241:=am_ ((by rw [hg];exact Nat.ne_of_lt (blk_lt (g:=gb240) (o:=.cells #[.slice A0_0 l0_0.length c0_0] 34 (0,0)) (q66c_ BK240.out)):gb240 ≠ gb241));have NB241_240:=am_ ((by rw [hg];exact Nat.ne_of_gt (blk_lt (g:=gb240) (o:=.cells #[.slice A0_0 l0_0.length c0_0] 34 (0,0)) (q66c_ BK240.out)):gb241 ≠ gb240));replace BK240:=am_ (blk_below (g:=gb240) (o:=.cells #[.slice A0_0 l0_0.length c0_0] 34 (0,0)) (q66c_ BK240.out) hb);replace HB:=am_ (below_step (qfcd_ GE240.out) hb);clear hb hbox hg))
 (try simp only [Act.put,List.setIfInBounds_toArray,List.set_cons_zero,List.set_cons_succ])
 go_cut [31] (fun v31 wc=>∃ (kq:Nat) (x31_2:Bool),v31 = .bool x31_2/\Aside0 (spec_InsertKey.j0 kq a1 x31_2 l0_0 = some (r1,r2,r3))/\Aside0 (kq<=k)/\Aside0 (wc.heap[gb240]? = some (.cells #[(.slice A0_0 l0_0.length c0_0)] 34 (0,0)))/\Aside0 (wc.heap[gb241]? = some (.cells #[(.slice none 0 0)] 34 (0,0)))/\Aside0 (Below w.heap.size w wc))
 case first =>
  have H:=HC3.out;clear HC3;obtain ⟨t242,A6,H⟩:=ob_ H;revert H;refine be_ (fun c7 H=>?_) fun c7 H=>?_
  ·
   subst c7;obtain ⟨t243,A8,H⟩:=ob_ H;revert H;refine be_ (fun c9 H=>?_) fun c9 H=>?_
   ·
    subst c9;obtain ⟨t244,A10,H⟩:=ob_ H;have Hs_:=am_ H;clear H
    try go_wp2
    have n0_:=am_ (blk_drew BK240.out);have n1_:=am_ (blk_drew BK241.out);have n2_:=am_ (below_drew1 HB.out);clear BK240 BK241 HB;have BK240:=n0_;have BK241:=n1_;have HB:=n2_;clear n0_ n1_ n2_;refine start_ (n:=23) (S:=fun w'=>w'.cell? ⟨gb240,0,none⟩ = some (.slice A0_0 l0_0.length c0_0)) (ds:=[]) (mk_ 23 0) (by kernel_rfl) rfl (by kernel_rfl) ((blk_cell BK240.out 0).trans rfl) (fun hHeld=>?_);refine with_tabW spec_InsertKey.tab1 spec_InsertKey.bits1 (fun HT_ HW_=>?_)
    generalize w5.drew = w12 at BK240 BK241 HB hHeld ⊢;refine tk_ 0 9 23 1 ?_;refine on_ 1 (some 10) 23 3 fun K hK=>?_;refine goes_ Tryz.func72 (by kernel_rfl) rfl #[.agg #[.slice A0_0 l0_0.length c0_0]] (by rfl) rfl rfl qef5_ ?_
    with_reducible refine (spec_prGood.calls k _ _ l0_0 true _ ?s1 ?s2 A6.out).mono ?_
    (case s1=>exact qe02_ HR0_0.out)
    (case s2=>exact HC0_0.out)
    rintro e w13 ⟨rfl,hb⟩;refine ⟨_,rfl,?_⟩;have n0_:=am_ (blk_below (g:=gb240) (o:=.cells #[.slice A0_0 l0_0.length c0_0] 34 (0,0)) (q66c_ BK240.out) hb);have n1_:=am_ (blk_below (g:=gb241) (o:=.cells #[.slice none 0 0] 34 (0,0)) (q66c_ BK241.out) hb);have n2_:=am_ (below_step (qa3a_ GE240.out GE241.out) hb);clear BK240 BK241 HB;have BK240:=n0_;have BK241:=n1_;have HB:=n2_;clear n0_ n1_ n2_
    (try clear hb)
    (try clear hb2)
    (try clear hk)
    (try clear hi)
    refine hK.out _ _ ((blk_cell BK240.out 0).trans rfl) (fun hHeld=>?_);clear hK K;refine nm_ ?_;refine pu_ 2 11 23 7 ?_;refine pu_ 3 12 23 15 ?_;refine pu_ 4 13 23 31 ?_;refine on_ 5 (some 14) 23 63 fun K hK=>?_;refine goes_ Tryz.func183 (by kernel_rfl) rfl #[.int .i64 a1] (by rfl) rfl rfl qef5_ ?_
    with_reducible refine (spec_prKey.calls a1 true _ A8.out).mono ?_
    rintro e w' ⟨rfl,⟨nd,rfl⟩⟩;refine ⟨_,rfl,?_⟩;refine hK.out _ _ ((blk_cell BK240.out 0).trans rfl) (fun hHeld=>?_);clear hK K;refine nm_ ?_;refine pu_ 6 15 23 127 ?_;refine pu_ 7 16 23 255 ?_;refine pu_ 8 17 23 511 ?_;refine pu_ 9 18 23 1023 ?_;refine pu_ 11 20 23 3071 ?_;refine tk_ 10 19 23 4095 ?_;refine on_ 12 (some 21) 23 8191 fun K hK=>?_;refine goes_ Tryz.func113 (by kernel_rfl) rfl #[.slice A0_0 l0_0.length c0_0,.int .i64 a1] (by rfl) rfl rfl qef5_ ?_
    by_cases c11:t244 = true
    ·
     have H:=Hs_.out;clear Hs_;subst c11;rw [if_pos rfl] at H;have H':=am_ H;clear H
     with_reducible refine (spec_l1Has.calls k _ _ l0_0 a1 true _ ?s1 ?s2 A10.out).mono ?_
     (case s1=>exact q08e_ HR0_0.out GE240.out GE241.out)
     (case s2=>exact HC0_0.out)
     rintro e w' ⟨rfl,⟨nd,rfl⟩⟩;refine ⟨_,rfl,?_⟩;refine hK.out _ _ ((blk_cell BK240.out 0).trans rfl) (fun hHeld=>?_);clear hK K;refine nm_ ?_;refine pu_ 13 22 23 16383 ?_;refine pu_ 14 23 23 32767 ?_;refine pn_ 15 24 23 65535 ?_;refine pn_ 16 25 23 131071 ?_;refine pn_ 17 26 23 262143 ?_;refine pn_ 18 27 23 524287 ?_;refine pn_ 19 28 23 1048575 ?_;refine pn_ 20 29 23 2097151 ?_;refine pn_ 21 30 23 4194303 ?_;refine pu_ 22 31 23 8388607 ?_;refine done_ (done_of HT_.out (by kernel_rfl)) ?_
     try go_wp2
     go_meet
     case rel=>exact ⟨_,(true),qc8f_,H',⟨q821_⟩,⟨q66c_ BK240.out⟩,⟨q66c_ BK241.out⟩,⟨qa3a_ GE240.out GE241.out⟩⟩
    have H:=Hs_.out;clear Hs_;replace c11:=Bool.eq_false_iff.mpr c11;subst c11;rw [if_neg nf_] at H;obtain ⟨t245,A14,H⟩:=ob_ H;have H':=am_ H;clear H
    with_reducible refine (spec_l1Has.calls k _ _ l0_0 a1 false _ ?s1 ?s2 A10.out).mono ?_
    (case s1=>exact q08e_ HR0_0.out GE240.out GE241.out)
    (case s2=>exact HC0_0.out)
    rintro e w' ⟨rfl,⟨nd,rfl⟩⟩;refine ⟨_,rfl,?_⟩;refine hK.out _ _ ((blk_cell BK240.out 0).trans rfl) (fun hHeld=>?_);clear hK K;refine nm_ ?_;refine pu_ 13 22 23 16383 ?_;refine pu_ 14 23 23 32767 ?_;refine pu_ 17 26 23 163839 ?_;refine tk_ 15 24 23 196607 ?_;refine tk_ 18 27 23 458751 ?_;refine pu_ 19 28 23 983039 ?_;refine pu_ 20 29 23 2031615 ?_;refine on_ 16 (some 25) 23 2097151 fun K hK=>?_;refine goes_ Tryz.func184 (by kernel_rfl) rfl #[.agg #[.slice A0_0 l0_0.length c0_0]] (by rfl) rfl rfl qef5_ ?_
    with_reducible refine (spec_prMany.calls k _ _ l0_0 t245 _ ?s1 ?s2 A14.out).mono ?_
    (case s1=>exact q08e_ HR0_0.out GE240.out GE241.out)
    (case s2=>exact HC0_0.out)
    rintro e w17 ⟨rfl,hb⟩;refine ⟨_,rfl,?_⟩;have n0_:=am_ (blk_below (g:=gb240) (o:=.cells #[.slice A0_0 l0_0.length c0_0] 34 (0,0)) (q66c_ BK240.out) hb);have n1_:=am_ (blk_below (g:=gb241) (o:=.cells #[.slice none 0 0] 34 (0,0)) (q66c_ BK241.out) hb);have n2_:=am_ (below_step (qa3a_ GE240.out GE241.out) hb);clear BK240 BK241 HB;have BK240:=n0_;have BK241:=n1_;have HB:=n2_;clear n0_ n1_ n2_
    (try clear hb)
    (try clear hb2)
    (try clear hk)
    (try clear hi)
    refine hK.out _ _ ((blk_cell BK240.out 0).trans rfl) (fun hHeld=>?_);clear hK K;refine nm_ ?_;refine pu_ 21 30 23 4194303 ?_;refine pu_ 22 31 23 8388607 ?_;refine done_ (done_of HT_.out (by kernel_rfl)) ?_
    try go_wp2
    go_meet
    case rel=>exact ⟨_,((t245 == (wrap64 ((l0_0.length:Int) - 1)))),qc8f_,H',⟨q821_⟩,⟨q66c_ BK240.out⟩,⟨q66c_ BK241.out⟩,⟨qa3a_ GE240.out GE241.out⟩⟩
   subst c9;have H':=am_ H;clear H
   try go_wp2
   have n0_:=am_ (blk_drew BK240.out);have n1_:=am_ (blk_drew BK241.out);have n2_:=am_ (below_drew1 HB.out);clear BK240 BK241 HB;have BK240:=n0_;have BK241:=n1_;have HB:=n2_;clear n0_ n1_ n2_;refine start_ (n:=23) (S:=fun w'=>w'.cell? ⟨gb240,0,none⟩ = some (.slice A0_0 l0_0.length c0_0)) (ds:=[]) (mk_ 23 0) (by kernel_rfl) rfl (by kernel_rfl) ((blk_cell BK240.out 0).trans rfl) (fun hHeld=>?_);refine with_tabW spec_InsertKey.tab1 spec_InsertKey.bits1 (fun HT_ HW_=>?_)
   generalize w5.drew = w18 at BK240 BK241 HB hHeld ⊢;refine tk_ 0 9 23 1 ?_;refine on_ 1 (some 10) 23 3 fun K hK=>?_;refine goes_ Tryz.func72 (by kernel_rfl) rfl #[.agg #[.slice A0_0 l0_0.length c0_0]] (by rfl) rfl rfl qef5_ ?_
   with_reducible refine (spec_prGood.calls k _ _ l0_0 true _ ?s1 ?s2 A6.out).mono ?_
   (case s1=>exact qe02_ HR0_0.out)
   (case s2=>exact HC0_0.out)
   rintro e w19 ⟨rfl,hb⟩;refine ⟨_,rfl,?_⟩;have n0_:=am_ (blk_below (g:=gb240) (o:=.cells #[.slice A0_0 l0_0.length c0_0] 34 (0,0)) (q66c_ BK240.out) hb);have n1_:=am_ (blk_below (g:=gb241) (o:=.cells #[.slice none 0 0] 34 (0,0)) (q66c_ BK241.out) hb);have n2_:=am_ (below_step (qa3a_ GE240.out GE241.out) hb);clear BK240 BK241 HB;have BK240:=n0_;have BK241:=n1_;have HB:=n2_;clear n0_ n1_ n2_
   (try clear hb)
   (try clear hb2)
   (try clear hk)
   (try clear hi)
   refine hK.out _ _ ((blk_cell BK240.out 0).trans rfl) (fun hHeld=>?_);clear hK K;refine nm_ ?_;refine pu_ 2 11 23 7 ?_;refine pu_ 3 12 23 15 ?_;refine pu_ 4 13 23 31 ?_;refine on_ 5 (some 14) 23 63 fun K hK=>?_;refine goes_ Tryz.func183 (by kernel_rfl) rfl #[.int .i64 a1] (by rfl) rfl rfl qef5_ ?_
   with_reducible refine (spec_prKey.calls a1 false _ A8.out).mono ?_
   rintro e w' ⟨rfl,⟨nd,rfl⟩⟩;refine ⟨_,rfl,?_⟩;refine hK.out _ _ ((blk_cell BK240.out 0).trans rfl) (fun hHeld=>?_);clear hK K;refine nm_ ?_;refine pu_ 6 15 23 127 ?_;refine pu_ 7 16 23 255 ?_;refine pu_ 8 17 23 511 ?_;refine pn_ 9 18 23 1023 ?_;refine pn_ 10 19 23 2047 ?_;refine pn_ 11 20 23 4095 ?_;refine pn_ 12 21 23 8191 ?_;refine pu_ 13 22 23 16383 ?_;refine pu_ 14 23 23 32767 ?_;refine pn_ 15 24 23 65535 ?_;refine pn_ 16 25 23 131071 ?_;refine pn_ 17 26 23 262143 ?_;refine pn_ 18 27 23 524287 ?_;refine pn_ 19 28 23 1048575 ?_;refine pn_ 20 29 23 2097151 ?_;refine pn_ 21 30 23 4194303 ?_;refine pu_ 22 31 23 8388607 ?_;refine done_ (done_of HT_.out (by kernel_rfl)) ?_
   try go_wp2
   go_meet
   case rel=>exact ⟨_,(true),qc8f_,H',⟨q821_⟩,⟨q66c_ BK240.out⟩,⟨q66c_ BK241.out⟩,⟨qa3a_ GE240.out GE241.out⟩⟩
  subst c7;have H':=am_ H;clear H
  try go_wp2
  have n0_:=am_ (blk_drew BK240.out);have n1_:=am_ (blk_drew BK241.out);have n2_:=am_ (below_drew1 HB.out);clear BK240 BK241 HB;have BK240:=n0_;have BK241:=n1_;have HB:=n2_;clear n0_ n1_ n2_;refine start_ (n:=23) (S:=fun w'=>w'.cell? ⟨gb240,0,none⟩ = some (.slice A0_0 l0_0.length c0_0)) (ds:=[]) (mk_ 23 0) (by kernel_rfl) rfl (by kernel_rfl) ((blk_cell BK240.out 0).trans rfl) (fun hHeld=>?_);refine with_tabW spec_InsertKey.tab1 spec_InsertKey.bits1 (fun HT_ HW_=>?_)
  generalize w5.drew = w20 at BK240 BK241 HB hHeld ⊢;refine tk_ 0 9 23 1 ?_;refine on_ 1 (some 10) 23 3 fun K hK=>?_;refine goes_ Tryz.func72 (by kernel_rfl) rfl #[.agg #[.slice A0_0 l0_0.length c0_0]] (by rfl) rfl rfl qef5_ ?_
  with_reducible refine (spec_prGood.calls k _ _ l0_0 false _ ?s1 ?s2 A6.out).mono ?_
  (case s1=>exact qe02_ HR0_0.out)
  (case s2=>exact HC0_0.out)
  rintro e w21 ⟨rfl,hb⟩;refine ⟨_,rfl,?_⟩;have n0_:=am_ (blk_below (g:=gb240) (o:=.cells #[.slice A0_0 l0_0.length c0_0] 34 (0,0)) (q66c_ BK240.out) hb);have n1_:=am_ (blk_below (g:=gb241) (o:=.cells #[.slice none 0 0] 34 (0,0)) (q66c_ BK241.out) hb);have n2_:=am_ (below_step (qa3a_ GE240.out GE241.out) hb);clear BK240 BK241 HB;have BK240:=n0_;have BK241:=n1_;have HB:=n2_;clear n0_ n1_ n2_
  (try clear hb)
  (try clear hb2)
  (try clear hk)
  (try clear hi)
  refine hK.out _ _ ((blk_cell BK240.out 0).trans rfl) (fun hHeld=>?_);clear hK K;refine nm_ ?_;refine pu_ 2 11 23 7 ?_;refine pu_ 3 12 23 15 ?_;refine pn_ 4 13 23 31 ?_;refine pn_ 5 14 23 63 ?_;refine pn_ 6 15 23 127 ?_;refine pu_ 7 16 23 255 ?_;refine pu_ 8 17 23 511 ?_;refine pn_ 9 18 23 1023 ?_;refine pn_ 10 19 23 2047 ?_;refine pn_ 11 20 23 4095 ?_;refine pn_ 12 21 23 8191 ?_;refine pu_ 13 22 23 16383 ?_;refine pu_ 14 23 23 32767 ?_;refine pn_ 15 24 23 65535 ?_;refine pn_ 16 25 23 131071 ?_;refine pn_ 17 26 23 262143 ?_;refine pn_ 18 27 23 524287 ?_;refine pn_ 19 28 23 1048575 ?_;refine pn_ 20 29 23 2097151 ?_;refine pn_ 21 30 23 4194303 ?_;refine pu_ 22 31 23 8388607 ?_;refine done_ (done_of HT_.out (by kernel_rfl)) ?_
  try go_wp2
  go_meet
  case rel=>exact ⟨_,(true),qc8f_,H',⟨q821_⟩,⟨q66c_ BK240.out⟩,⟨q66c_ BK241.out⟩,⟨qa3a_ GE240.out GE241.out⟩⟩
 case rest =>
  clear HC3;obtain ⟨kq,x31_2,rfl,HA,HJ2,BK240,BK241,HB⟩:=hcut;cases kq with
  | zero=>exact n0_ HA.out
  | succ kj2 =>
   have H:=HA.out;clear HA;simp only [spec_InsertKey.j0] at H;revert H;refine be_ (fun c22 H=>?_) fun c22 H=>?_
   ·
    subst c22;obtain ⟨rfl,rfl,rfl⟩:=st_ H;have hnb23:=NB241_240.out;have hnc23:=NB240_241.out;have hcz24_0:wc.cell? ⟨gb241,0,none⟩ = some (.slice none 0 0):=(blk_cell BK241.out 0).trans rfl;have hfz24_0:=blk_frozen BK241.out 0;go_wp2;refine bodyPost_ret (results_ctt rfl _ _ gb241 34 #[.slice none 0 0] (0,0) _ rfl (q75f_ BK241.out) Tryz.underlying34 rfl (by kernel_rfl)) rfl ?_;exact ⟨_,qce7_,qf62_,qa3a_ GE240.out GE241.out⟩
   subst c22;obtain ⟨t246,A25,H⟩:=ob_ H;obtain ⟨⟨t250,t251⟩,A26,H⟩:=ob_ H;dsimp only at H;obtain ⟨rfl,rfl,rfl⟩:=st_ H;have hnb27:=NB240_241.out;have hnc27:=NB241_240.out;have hcz28_0:wc.cell? ⟨gb240,0,none⟩ = some (.slice A0_0 l0_0.length c0_0):=(blk_cell BK240.out 0).trans rfl;have hfz28_0:=blk_frozen BK240.out 0
   go_wp2_with (first | ((with_reducible refine gc_ 70 ?_);refine gl_ 35 Tryz.func70 #[.slice A0_0 l0_0.length c0_0] ?_;(with_reducible refine (spec_l1Own.calls _ _ l0_0 t246 _ ?s1 ?s2 A25.out).mono ?_);(case s1=>exact qe02_ HR0_0.out);(case s2=>exact HC0_0.out);rintro e w29 ⟨v247,rfl,ho0,hb⟩;refine ⟨_,rfl,?_⟩;have HO248:=am_ (Kd.R_lower ho0 (below_size (qa3a_ GE240.out GE241.out)));replace BK240:=am_ (blk_below (g:=gb240) (o:=.cells #[.slice A0_0 l0_0.length c0_0] 34 (0,0)) (q66c_ BK240.out) hb);replace BK241:=am_ (blk_below (g:=gb241) (o:=.cells #[.slice none 0 0] 34 (0,0)) (q66c_ BK241.out) hb);replace HB:=am_ (below_step (qa3a_ GE240.out GE241.out) hb);clear hb ho0;obtain ⟨Ao30,co30,eo30⟩:=Kd.R_slice HO248.out;subst eo30) | ((with_reducible refine gd_ 7 ?_);(try (refine gate_guard (by rfl) ?_;dsimp only));refine bx_ #[.slice none 0 0] 34 ?_;intro gb249 hg w31 hbox hb;replace HO248:=am_ (Kd.R_below (q9d5_ HO248.out) hb);have BK249:=am_ (hbox);have GW249:=am_ ((by rw [hg];exact (below_size (qa3a_ GE240.out GE241.out)):w.heap.size<=gb249));have GE249:=am_ ((by rw [hg];exact (below_size (qa3a_ GE240.out GE241.out)):w.heap.size<=gb249));have NB240_249:=am_ ((by rw [hg];exact Nat.ne_of_lt (blk_lt (g:=gb240) (o:=.cells #[.slice A0_0 l0_0.length c0_0] 34 (0,0)) (q66c_ BK240.out)):gb240 ≠ gb249));have NB249_240:=am_ ((by rw [hg];exact Nat.ne_of_gt (blk_lt (g:=gb240) (o:=.cells #[.slice A0_0 l0_0.length c0_0] 34 (0,0)) (q66c_ BK240.out)):gb249 ≠ gb240));replace BK240:=am_ (blk_below (g:=gb240) (o:=.cells #[.slice A0_0 l0_0.length c0_0] 34 (0,0)) (q66c_ BK240.out) hb);have NB241_249:=am_ ((by rw [hg];exact Nat.ne_of_lt (blk_lt (g:=gb241) (o:=.cells #[.slice none 0 0] 34 (0,0)) (q66c_ BK241.out)):gb241 ≠ gb249));have NB249_241:=am_ ((by rw [hg];exact Nat.ne_of_gt (blk_lt (g:=gb241) (o:=.cells #[.slice none 0 0] 34 (0,0)) (q66c_ BK241.out)):gb249 ≠ gb241));replace BK241:=am_ (blk_below (g:=gb241) (o:=.cells #[.slice none 0 0] 34 (0,0)) (q66c_ BK241.out) hb);replace HB:=am_ (below_step (qa3a_ GE240.out GE241.out) hb);clear hb hbox hg;have hnb32:=NB249_240.out;have hnc32:=NB240_249.out;have hnb33:=NB249_241.out;have hnc33:=NB241_249.out;have hcz34_0:w31.cell? ⟨gb249,0,none⟩ = some (.slice none 0 0):=(blk_cell BK249.out 0).trans rfl;have hfz34_0:=blk_frozen BK249.out 0) | ((with_reducible refine gate_store (t:=34) (p:=7) rfl ?_);refine store_event (t:=34) (p:=7) (v:=?vo_w35) (w1:=(w31.setCell ⟨gb249,0,none⟩ (.slice Ao30 t246.length co30))) ?hg ?ho ?hn ?hr ?_;(case ho=>rfl);(case hg=>rfl);(case hn=>rfl);(case hr=>exact qfba_);intro w35 hw;have n0_:Aside0 (Kd.R (Kd.int .i64) 3 w35 w.heap.size (fun _=>True) (.slice Ao30 t246.length co30) t246):=⟨(by rw [hw];exact (by (with_reducible repeat (first | apply Kd.R_alloc | apply Kd.R_drewN | apply Kd.R_drew));exact Kd.R_mono (Kd.R_far (p:=⟨gb249,0,none⟩) (Kd.R_types HO248.out BK249.out (by decide)) (fun _ hk=>hk.2) (.slice Ao30 t246.length co30)) (fun _ hk=>trivial)))⟩;have n1_:Aside0 (w35.heap[gb240]? = some (.cells #[.slice A0_0 l0_0.length c0_0] 34 (0,0))):=⟨(by rw [hw];exact (q6c2_ NB240_249.out BK240.out))⟩;have n2_:Aside0 (w35.heap[gb241]? = some (.cells #[.slice none 0 0] 34 (0,0))):=⟨(by rw [hw];exact (q6c2_ NB241_249.out BK241.out))⟩;have n3_:Aside0 (w35.heap[gb249]? = some (.cells #[.slice Ao30 t246.length co30] 34 (0,0))):=⟨(by rw [hw];exact (q75f_ BK249.out))⟩;have n4_:Aside0 (Below w.heap.size w w35):=⟨(by rw [hw];exact (qb88_ GE240.out GE241.out GE249.out))⟩;clear hw;clear HO248;clear BK240;clear BK241;clear BK249;clear HB;have HO248:=n0_;have BK240:=n1_;have BK241:=n2_;have BK249:=n3_;have HB:=n4_;clear n0_ n1_ n2_ n3_ n4_;have hcz36_0:w35.cell? ⟨gb249,0,none⟩ = some (.slice Ao30 t246.length co30):=(blk_cell BK249.out 0).trans rfl;have hfz36_0:=blk_frozen BK249.out 0) | ((with_reducible refine gc_ 185 ?_);refine gl_ 40 Tryz.func185 #[.slice Ao30 t246.length co30,.int .i64 a1] ?_;(with_reducible refine (spec_prInsert.calls kj2 (fun k_=>some k_ = (.slice Ao30 t246.length co30:Value).ownBlock) (.slice Ao30 t246.length co30) t246 a1 t250 t251 w _ ?s1 ?s2 A26.out).mono ?_);(case s1=>exact qb88_ GE240.out GE241.out GE249.out);(case s2=>exact Kd.R_tight rfl HO248.out);rintro e w37 ⟨rfl,hy0,hb,hkp⟩;refine ⟨_,rfl,?_⟩;replace BK240:=am_ (blk_kept (q66c_ BK240.out) hkp (fun hs_=>(fun e_=>(Kd.R_ne HO248.out BK240.out (by decide)) e_) hs_));replace BK241:=am_ (blk_kept (q66c_ BK241.out) hkp (fun hs_=>(fun e_=>(Kd.R_ne HO248.out BK241.out (by decide)) e_) hs_));replace BK249:=am_ (blk_kept (q66c_ BK249.out) hkp (fun hs_=>(fun e_=>(Kd.R_ne HO248.out BK249.out (by decide)) e_) hs_));replace HO248:=am_ (Kd.R_reok rfl hy0 (fun k_ e_=>HO248.out.1 k_ e_));replace HB:=am_ (hb);clear hb;(try clear hkp);(try clear hy0);have hcz38_0:w37.cell? ⟨gb249,0,none⟩ = some (.slice Ao30 t246.length co30):=(blk_cell BK249.out 0).trans rfl;have hfz38_0:=blk_frozen BK249.out 0;have hcz39_0:w37.cell? ⟨gb241,0,none⟩ = some (.slice none 0 0):=(blk_cell BK241.out 0).trans rfl;have hfz39_0:=blk_frozen BK241.out 0))
   refine bodyPost_ret (results_ctt rfl _ _ gb241 34 #[.slice Ao30 t246.length co30] (0,0) _ rfl (q75f_ BK241.out) Tryz.underlying34 rfl (by kernel_rfl)) rfl ?_;exact ⟨_,qce7_,by (with_reducible repeat (first | apply Kd.R_alloc | apply Kd.R_drewN | apply Kd.R_drew));exact Kd.R_mono (Kd.R_far (p:=⟨gb241,0,none⟩) (Kd.R_types HO248.out BK241.out (by decide)) (fun _ hk=>hk.2) (.slice Ao30 t246.length co30)) (fun _ hk=>trivial),qb88_ GE240.out GE241.out GE249.out⟩
def spec_prPlace.l0:Nat->Int->List Int->Int->Int->Option (Int)
 | 0,_,_,_,_=>none
 | k + 1,x1,x8,x9,x10=>if x10 < x9 then (if 0<=x10 then (if x10 < (x8.length:Int) then (if (rd x8 x10) = x1 then (some x10) else (spec_prPlace.l0 k x1 x8 x9 (wrap64 (x10 + 1)))) else (none)) else (none)) else (some (-1))
def spec_prPlace.f (k:Nat) (l0_0:List Int) (a1:Int):Option (Int):=spec_prPlace.l0 k a1 l0_0 (l0_0.length:Int) 0
theorem spec_prPlace.calls (k:Nat) (A0_0:Option Addr) (c0_0:Nat) (l0_0:List Int) (a1:Int) (r:Int) (w:World) (hr0_0:Kd.C (Kd.int .i64) w A0_0 l0_0.length l0_0) (hc0_0:l0_0.length<=c0_0) (h:spec_prPlace.f k l0_0 a1 = some r) :
  Calls Tryz.prog 186 #[.agg #[.slice A0_0 l0_0.length c0_0],.int .i64 a1] w fun e w'=>e = .returned (.int .i64 r)/\Below w.heap.size w w':=by
 have hu34:=Tryz.underlying34;have HR0_0:=am_ hr0_0;have HC0_0:=am_ hc0_0;clear hr0_0 hc0_0;have HB:=am_ (Below.refl w.heap.size w);unfold spec_prPlace.f at h;have H:=h;clear h;have H':=am_ H;clear H;go_enter Tryz.func186,Tryz.ntmps186;go_wp2_with (first | ((with_reducible refine gd_ 2 ?_);refine bx_ #[.slice A0_0 l0_0.length c0_0] 34 ?_;intro gb252 hg w3 hbox hb;have BK252:=am_ (hbox);have GW252:=am_ ((by rw [hg];exact (below_size q0c4_):w.heap.size<=gb252));have GE252:=am_ ((by rw [hg];exact (below_size q0c4_):w.heap.size<=gb252));replace HB:=am_ (below_step q0c4_ hb);clear hb hbox hg;have hcz4_0:w3.cell? ⟨gb252,0,none⟩ = some (.slice A0_0 l0_0.length c0_0):=(blk_cell BK252.out 0).trans rfl;have hfz4_0:=blk_frozen BK252.out 0))
 go_loopg [10] k (fun kq v10 w'=>∃ (x10_1:Int),v10 = .int .i64 x10_1/\Aside0 (spec_prPlace.l0 kq a1 l0_0 (l0_0.length:Int) x10_1 = some r)/\Aside0 (kq<=k)/\Aside0 (w'.heap[gb252]? = some (.cells #[(.slice A0_0 l0_0.length c0_0)] 34 (0,0)))/\Aside0 (Below w.heap.size w w'))
 case atStart=>exact ⟨(0),qc8f_,H',⟨Nat.le_refl _⟩,⟨q66c_ BK252.out⟩,⟨qfcd_ GE252.out⟩⟩
 case round =>
  clear H';obtain ⟨x10_1,rfl,HA,HK1,BK252,HB⟩:=hrel;cases gk with
  | zero=>exact n0_ HA.out
  | succ k1 =>
   have H:=HA.out;clear HA;simp only [spec_prPlace.l0] at H;revert H;refine ie_ (fun c5b0 H=>?_) fun c5b0 H=>?_
   ·
    revert H;refine id_ fun c6b0 H=>?_;revert H;refine id_ fun c7b0 H=>?_;revert H;refine ee_ (fun c8b0 c8b1 H=>?_) fun c8 c8b0 c8b1 H=>?_
    ·
     obtain rfl:=Option.some.inj H;obtain ⟨ad253,rfl,hx253_0,p253,q253⟩:=ri_ HR0_0.out x10_1
     (try (replace hx253_0:=(HB.out.cell (World.block_lt_of_cell? w _ hx253_0)).trans hx253_0))
     go_wp2;go_ret;exact ⟨qce7_,qfcd_ GE252.out⟩
    have H':=am_ H;clear H;obtain ⟨ad253,rfl,hx253_0,p253,q253⟩:=ri_ HR0_0.out x10_1
    (try (replace hx253_0:=(HB.out.cell (World.block_lt_of_cell? w _ hx253_0)).trans hx253_0))
    go_wp2;go_roundg k1
    case measure=>have:=HK1.out;omega
    case rel=>exact ⟨(wrap64 (x10_1 + 1)),qc8f_,H',⟨q1d0_ HK1.out⟩,⟨q66c_ BK252.out⟩,⟨qfcd_ GE252.out⟩⟩
   obtain rfl:=Option.some.inj H;go_wp2;go_ret;exact ⟨qce7_,qfcd_ GE252.out⟩
def spec_paDistances.l0:Nat->List Int->List Int->List Int->Int->Int->Option (List Int)
 | 0,_,_,_,_,_=>none
 | k + 1,x0,x5,x10,x11,x12=>if x12 < x11 then (if 0<=x12 then (if x12 < (x10.length:Int) then (if x12 < (x0.length:Int) then (if x5.length < 17592186044416 then (spec_paDistances.l0 k x0 (x5 ++ [wrap64 ((rd x10 x12) - (rd x0 x12))]) x10 x11 (wrap64 (x12 + 1))) else (none)) else (none)) else (none)) else (none)) else (some x5)
def spec_paDistances.f (k:Nat) (l0:List Int) (a1:Int):Option (List Int):=(spec_paDrive.f k l0 a1).bind fun t254=>(spec_paDistances.l0 k l0 ([]:List Int) t254 (t254.length:Int) 0)
theorem spec_paDistances.calls (k:Nat) (A0:Option Addr) (c0:Nat) (l0:List Int) (a1:Int) (r:List Int) (w:World) (hr0:Kd.C (Kd.int .i64) w A0 l0.length l0) (hc0:l0.length<=c0) (h:spec_paDistances.f k l0 a1 = some r) :
  Calls Tryz.prog 127 #[.slice A0 l0.length c0,.int .i64 a1] w fun e w'=>∃ v0_:Value,e = .returned (v0_)/\Kd.R (Kd.int .i64) 3 w' w.heap.size (fun _=>True) v0_ r/\Below w.heap.size w w':=by
 have HR0:=am_ hr0;have HC0:=am_ hc0;clear hr0 hc0;have HB:=am_ (Below.refl w.heap.size w);unfold spec_paDistances.f at h;have H:=h;clear h;obtain ⟨t254,A3,H⟩:=ob_ H;have H':=am_ H;clear H;go_enter Tryz.func127,Tryz.ntmps127;go_wp2_with (first | ((with_reducible refine gc_ 126 ?_);refine gl_ 10 Tryz.func126 #[.slice A0 l0.length c0,.int .i64 a1] ?_;(with_reducible refine (spec_paDrive.calls k _ _ l0 a1 t254 _ ?s1 ?s2 A3.out).mono ?_);(case s1=>exact q201_ HR0.out);(case s2=>exact HC0.out);rintro e w4 ⟨v255,rfl,ho0,hb⟩;refine ⟨_,rfl,?_⟩;have HO256:=am_ (Kd.R_lower ho0 (below_size q0c4_));replace HB:=am_ (below_step q0c4_ hb);clear hb ho0;obtain ⟨Ao5,co5,eo5⟩:=Kd.R_slice HO256.out;subst eo5))
 go_loopg [5,12] k (fun kq v5 v12 w'=>∃ (x5_1:List Int) (x12_1:Int),v12 = .int .i64 x12_1/\Aside0 (spec_paDistances.l0 kq l0 x5_1 t254 (t254.length:Int) x12_1 = some r)/\Aside0 (kq<=k)/\Aside0 (Kd.R (Kd.int .i64) 3 w' w.heap.size (fun k_=>some k_ ≠ ((.slice Ao5 t254.length co5):Value).ownBlock) v5 x5_1)/\Aside0 (Kd.R (Kd.int .i64) 3 w' w.heap.size (fun k_=>some k_ ≠ (v5:Value).ownBlock) (.slice Ao5 t254.length co5) t254)/\Aside0 (Below w.heap.size w w'))
 case atStart=>exact ⟨(([]:List Int)),(0),qc8f_,H',⟨Nat.le_refl _⟩,⟨qf62_⟩,⟨by (with_reducible repeat (first | apply Kd.R_alloc | apply Kd.R_drewN | apply Kd.R_drew));exact Kd.R_mono HO256.out (fun _ hk=>(by simp [Value.ownBlock]))⟩,⟨q0c4_⟩⟩
 case round =>
  clear H';obtain ⟨x5_1,x12_1,rfl,HA,HK1,HO_5,HO_10,HB⟩:=hrel;cases gk with
  | zero=>exact n0_ HA.out
  | succ k1 =>
   have H:=HA.out;clear HA;simp only [spec_paDistances.l0] at H;revert H;refine ie_ (fun c6b0 H=>?_) fun c6b0 H=>?_
   ·
    revert H;refine id_ fun c7b0 H=>?_;revert H;refine id_ fun c8b0 H=>?_;revert H;refine id_ fun c9b0 H=>?_;revert H;refine it_ fun c10 H=>?_;have LMc10:=am_ c10;clear c10;obtain ⟨y259,hy259⟩:=gn_ ((x5_1 ++ [wrap64 ((rd t254 x12_1) - (rd l0 x12_1))]):List Int);replace H:(spec_paDistances.l0 k1 l0 y259 t254 (t254.length:Int) (wrap64 (x12_1 + 1))) = some r:=rl_ hy259 H;have Ny259:=am_ hy259;clear hy259;have H':=am_ H;clear H;obtain ⟨ad257,rfl,hx257_0,p257,q257⟩:=ri_ (rr_ HO_10.out) x12_1;obtain ⟨ad258,rfl,hx258_0,p258,q258⟩:=ri_ HR0.out x12_1
    (try (replace hx258_0:=(HB.out.cell (World.block_lt_of_cell? w _ hx258_0)).trans hx258_0))
    go_wp2_with (first | ((with_reducible refine gate_builtin (b:=.append) (xs:=#[.tmp 17,.tmp 24]) rfl ?_);at_builtin;refine aI_ (w0:=w) (.tmp 17) (.tmp 24) u5 x5_1 (wrap64 ((rd t254 x12_1) - (rd l0 x12_1))) (fun k_=>some k_ ≠ (.slice (some ad257) t254.length co5:Value).ownBlock) (fun k_ hk=>Kd.fresh' (Kd.R_lt (q9d5_ HO_10.out)) k_ hk) (q9d5_ HO_5.out) q0c4_ (by exact q1d0_ LMc10.out) ?_;intro v260 w11 ho hb hg hat;rw [<- Ny259.out] at ho;replace HO_10:=am_ (Kd.R_after (ok:=(fun _=>True)) (q0ef_ HO_10.out) hg hat);replace HB:=am_ (hb);have HO261:=am_ (ho);clear ho hb hg hat));go_roundg k1
    case measure=>have:=HK1.out;omega
    case rel=>exact ⟨(y259),(wrap64 (x12_1 + 1)),qc8f_,H',⟨q1d0_ HK1.out⟩,⟨q9d5_ HO261.out⟩,⟨qe0f_ HO_10.out⟩,⟨q0c4_⟩⟩
   obtain rfl:=Option.some.inj H;go_wp2;go_ret;exact ⟨_,qce7_,q7d9_ HO_5.out,q0c4_⟩
def spec_paFrom.l0:Nat->Int->Int->List Int->Int->Int->Option (Int)
 | 0,_,_,_,_,_=>none
 | k + 1,x1,x5,x8,x9,x10=>if x10 < x9 then (if 0<=x10 then (if x10 < (x8.length:Int) then (if (rd x8 x10) >= x1 then (spec_paFrom.l0 k x1 (wrap64 (x5 + 1)) x8 x9 (wrap64 (x10 + 1))) else (spec_paFrom.l0 k x1 x5 x8 x9 (wrap64 (x10 + 1)))) else (none)) else (none)) else (some x5)
def spec_paFrom.f (k:Nat) (l0:List Int) (a1:Int):Option (Int):=spec_paFrom.l0 k a1 0 l0 (l0.length:Int) 0
theorem spec_paFrom.calls (k:Nat) (A0:Option Addr) (c0:Nat) (l0:List Int) (a1:Int) (r:Int) (w:World) (hr0:Kd.C (Kd.int .i64) w A0 l0.length l0) (hc0:l0.length<=c0) (h:spec_paFrom.f k l0 a1 = some r) :
  Calls Tryz.prog 187 #[.slice A0 l0.length c0,.int .i64 a1] w fun e w'=>e = .returned (.int .i64 r)/\Drawn0 w w':=by
 have HR0:=am_ hr0;have HC0:=am_ hc0;clear hr0 hc0;unfold spec_paFrom.f at h;have H:=h;clear h;have H':=am_ H;clear H;go_enter Tryz.func187,Tryz.ntmps187;go_wp2
 go_loopg [5,10] k (fun kq v5 v10 w'=>∃ (x5_1:Int) (x10_1:Int),v5 = .int .i64 x5_1/\v10 = .int .i64 x10_1/\Aside0 (spec_paFrom.l0 kq a1 x5_1 l0 (l0.length:Int) x10_1 = some r)/\Aside0 (kq<=k)/\Drawn0 w w')
 case atStart=>exact ⟨(0),(0),qc8f_,qc8f_,H',⟨Nat.le_refl _⟩,qffa_⟩
 case round =>
  clear H';obtain ⟨x5_1,x10_1,rfl,rfl,HA,HK1,⟨m1,rfl⟩⟩:=hrel;cases gk with
  | zero=>exact n0_ HA.out
  | succ k1 =>
   have H:=HA.out;clear HA;simp only [spec_paFrom.l0] at H;revert H;refine ie_ (fun c3b0 H=>?_) fun c3b0 H=>?_
   ·
    revert H;refine id_ fun c4b0 H=>?_;revert H;refine id_ fun c5b0 H=>?_;revert H;refine ie_ (fun c6b0 H=>?_) fun c6b0 H=>?_
    ·
     have H':=am_ H;clear H;obtain ⟨ad262,rfl,hx262_0,p262,q262⟩:=ri_ HR0.out x10_1;go_wp2;go_roundg k1
     case measure=>have:=HK1.out;omega
     case rel=>exact ⟨(wrap64 (x5_1 + 1)),(wrap64 (x10_1 + 1)),qc8f_,qc8f_,H',⟨q1d0_ HK1.out⟩,qffa_⟩
    have H':=am_ H;clear H;obtain ⟨ad262,rfl,hx262_0,p262,q262⟩:=ri_ HR0.out x10_1;go_wp2;go_roundg k1
    case measure=>have:=HK1.out;omega
    case rel=>exact ⟨(x5_1),(wrap64 (x10_1 + 1)),qc8f_,qc8f_,H',⟨q1d0_ HK1.out⟩,qffa_⟩
   obtain rfl:=Option.some.inj H;go_wp2;go_ret;exact ⟨qc8f_,qffa_⟩
def spec_paCuts.l0:Nat->List Int->List Int->Int->Option (List Int)
 | 0,_,_,_=>none
 | k + 1,x0,x3,x4=>if x4 < (x0.length:Int) then ((spec_paFrom.f k x0 x4).bind fun t263=>(if (wrap64 ((x0.length:Int) - t263)) = x4 then (if x3.length < 17592186044416 then (spec_paCuts.l0 k x0 (x3 ++ [x4]) (wrap64 (x4 + 1))) else (none)) else (spec_paCuts.l0 k x0 x3 (wrap64 (x4 + 1))))) else (some x3)
def spec_paCuts.f (k:Nat) (l0:List Int):Option (List Int):=spec_paCuts.l0 k l0 ([]:List Int) 1
theorem spec_paCuts.calls (k:Nat) (A0:Option Addr) (c0:Nat) (l0:List Int) (r:List Int) (w:World) (hr0:Kd.C (Kd.int .i64) w A0 l0.length l0) (hc0:l0.length<=c0) (h:spec_paCuts.f k l0 = some r) :
  Calls Tryz.prog 128 #[.slice A0 l0.length c0] w fun e w'=>∃ v0_:Value,e = .returned (v0_)/\Kd.R (Kd.int .i64) 3 w' w.heap.size (fun _=>True) v0_ r/\Below w.heap.size w w':=by
 have HR0:=am_ hr0;have HC0:=am_ hc0;clear hr0 hc0;have HB:=am_ (Below.refl w.heap.size w);unfold spec_paCuts.f at h;have H:=h;clear h;have H':=am_ H;clear H;go_enter Tryz.func128,Tryz.ntmps128;go_wp2
 go_loopg [3,4] k (fun kq v3 v4 w'=>∃ (x3_1:List Int) (x4_1:Int),v4 = .int .i64 x4_1/\Aside0 (spec_paCuts.l0 kq l0 x3_1 x4_1 = some r)/\Aside0 (kq<=k)/\Aside0 (Kd.R (Kd.int .i64) 3 w' w.heap.size (fun _=>True) v3 x3_1)/\Aside0 (Below w.heap.size w w'))
 case atStart=>exact ⟨(([]:List Int)),(1),qc8f_,H',⟨Nat.le_refl _⟩,⟨qf62_⟩,⟨q0c4_⟩⟩
 case round =>
  clear H';obtain ⟨x3_1,x4_1,rfl,HA,HK1,HO_3,HB⟩:=hrel;cases gk with
  | zero=>exact n0_ HA.out
  | succ k1 =>
   have H:=HA.out;clear HA;simp only [spec_paCuts.l0] at H;revert H;refine ie_ (fun c2b0 H=>?_) fun c2b0 H=>?_
   ·
    obtain ⟨t263,A3,H⟩:=ob_ H;revert H;refine ee_ (fun c4b0 c4b1 H=>?_) fun c4 c4b0 c4b1 H=>?_
    ·
     revert H;refine it_ fun c5 H=>?_;have LMc5:=am_ c5;clear c5;obtain ⟨y264,hy264⟩:=gn_ ((x3_1 ++ [x4_1]):List Int);replace H:(spec_paCuts.l0 k1 l0 y264 (wrap64 (x4_1 + 1))) = some r:=rl_ hy264 H;have Ny264:=am_ hy264;clear hy264;have H':=am_ H;clear H;go_wp2_with (first | ((with_reducible refine gc_ 187 ?_);refine gl_ 15 Tryz.func187 #[.slice A0 l0.length c0,.int .i64 x4_1] ?_;(with_reducible refine (spec_paFrom.calls k1 _ _ l0 x4_1 t263 _ ?s1 ?s2 A3.out).mono ?_);(case s1=>exact qe02_ HR0.out);(case s2=>exact HC0.out);rintro e w' ⟨rfl,⟨nd,rfl⟩⟩;refine ⟨_,rfl,?_⟩) | ((with_reducible refine gate_builtin (b:=.append) (xs:=#[.tmp 19,.tmp 21]) rfl ?_);at_builtin;refine aI_ (w0:=w) (.tmp 19) (.tmp 21) u3 x3_1 x4_1 (fun _=>True) (fun _ _=>trivial) (q9d5_ HO_3.out) q0c4_ (by exact q1d0_ LMc5.out) ?_;intro v265 w6 ho hb hg hat;rw [<- Ny264.out] at ho;replace HB:=am_ (hb);have HO266:=am_ (ho);clear ho hb hg hat));go_roundg k1
     case measure=>have:=HK1.out;omega
     case rel=>exact ⟨(y264),(wrap64 (x4_1 + 1)),qc8f_,H',⟨q1d0_ HK1.out⟩,⟨q9d5_ HO266.out⟩,⟨q0c4_⟩⟩
    have H':=am_ H;clear H;go_wp2_with (first | ((with_reducible refine gc_ 187 ?_);refine gl_ 15 Tryz.func187 #[.slice A0 l0.length c0,.int .i64 x4_1] ?_;(with_reducible refine (spec_paFrom.calls k1 _ _ l0 x4_1 t263 _ ?s1 ?s2 A3.out).mono ?_);(case s1=>exact qe02_ HR0.out);(case s2=>exact HC0.out);rintro e w' ⟨rfl,⟨nd,rfl⟩⟩;refine ⟨_,rfl,?_⟩));go_roundg k1
    case measure=>have:=HK1.out;omega
    case rel=>exact ⟨(x3_1),(wrap64 (x4_1 + 1)),qc8f_,H',⟨q1d0_ HK1.out⟩,⟨q9d5_ HO_3.out⟩,⟨q0c4_⟩⟩
   obtain rfl:=Option.some.inj H;go_wp2;go_ret;exact ⟨_,qce7_,q9d5_ HO_3.out,q0c4_⟩
def spec_CountParking.f (k:Nat) (a0:Int):Option (Int × Bool):=(spec_cnCars.f a0).bind fun t267=>(if t267 = true then ((spec_cnCount.f k a0).bind fun t268=>(some (t268,true))) else (some (0,false)))
theorem spec_CountParking.calls (k:Nat) (a0:Int) (r1:Int) (r2:Bool) (w:World) (h:spec_CountParking.f k a0 = some (r1,r2)) :
  Calls Tryz.prog 131 #[.int .i64 a0] w fun e w'=>e = .returned (.tuple #[.int .i64 r1,.bool r2])/\Drawn0 w w':=by
 unfold spec_CountParking.f at h;have H:=h;clear h;obtain ⟨t267,A2,H⟩:=ob_ H;revert H;refine be_ (fun c3 H=>?_) fun c3 H=>?_
 ·
  subst c3;obtain ⟨t268,A4,H⟩:=ob_ H;obtain ⟨rfl,rfl⟩:=sp_ H;go_enter Tryz.func131,Tryz.ntmps131;go_wp2_with (first | ((with_reducible refine gc_ 179 ?_);refine gl_ 5 Tryz.func179 #[.int .i64 a0] ?_;(with_reducible refine (spec_cnCars.calls a0 true _ A2.out).mono ?_);rintro e w' ⟨rfl,⟨nd,rfl⟩⟩;refine ⟨_,rfl,?_⟩) | ((with_reducible refine gc_ 180 ?_);refine gl_ 8 Tryz.func180 #[.int .i64 a0] ?_;(with_reducible refine (spec_cnCount.calls k a0 t268 _ A4.out).mono ?_);rintro e w' ⟨rfl,⟨nd,rfl⟩⟩;refine ⟨_,rfl,?_⟩));go_ret2;exact ⟨qc8f_,qffa_⟩
 subst c3;obtain ⟨rfl,rfl⟩:=sp_ H;go_enter Tryz.func131,Tryz.ntmps131;go_wp2_with (first | ((with_reducible refine gc_ 179 ?_);refine gl_ 5 Tryz.func179 #[.int .i64 a0] ?_;(with_reducible refine (spec_cnCars.calls a0 false _ A2.out).mono ?_);rintro e w' ⟨rfl,⟨nd,rfl⟩⟩;refine ⟨_,rfl,?_⟩));go_ret2;exact ⟨qc8f_,qffa_⟩
def spec_cnList.f (k:Nat) (l0:List Int):Option (Bool):=if (l0.length:Int)<=8 then ((spec_l1All.f k l0 0 (l0.length:Int)).bind fun t269=>(some t269)) else (some false)
theorem spec_cnList.calls (k:Nat) (A0:Option Addr) (c0:Nat) (l0:List Int) (r:Bool) (w:World) (hr0:Kd.C (Kd.int .i64) w A0 l0.length l0) (hc0:l0.length<=c0) (h:spec_cnList.f k l0 = some r) :
  Calls Tryz.prog 91 #[.slice A0 l0.length c0] w fun e w'=>e = .returned (.bool r)/\Drawn0 w w':=by
 have HR0:=am_ hr0;have HC0:=am_ hc0;clear hr0 hc0;unfold spec_cnList.f at h;have H:=h;clear h
 by_cases c2:(l0.length:Int)<=8
 ·
  rw [if_pos c2] at H;have c2b0:=decide_eq_true c2;have c2b1:decide (l0.length<=8) = true:=decide_eq_true (by omega);clear c2;obtain ⟨t269,A3,H⟩:=ob_ H;obtain rfl:=Option.some.inj H;go_enter Tryz.func91,Tryz.ntmps91;go_wp2_with (first | (go_at_call 110;(with_reducible refine (spec_l1All.calls k _ _ l0 0 (l0.length:Int) t269 _ ?s1 ?s2 A3.out).mono ?_);(case s1=>exact q201_ HR0.out);(case s2=>exact HC0.out);rintro e w' ⟨rfl,⟨nd,rfl⟩⟩));go_ret;exact ⟨qc8f_,qffa_⟩
 rw [if_neg c2] at H;have c2b0:=decide_eq_false c2;have c2b1:decide (l0.length<=8) = false:=decide_eq_false (by omega);clear c2;obtain rfl:=Option.some.inj H;go_enter Tryz.func91,Tryz.ntmps91;go_wp2;go_ret;exact ⟨qc8f_,qffa_⟩
def spec_cnList.Pure:Prop:=∀ (l0:List Int),l0.length<=maxLen->l0.length * 8<=140737488351232->(∀ x ∈ l0,(Lit.int .i64 x).wf = true)->∃ k,spec_cnList.f k l0 = some true
theorem spec_cnList.walk (P:spec_cnList.Pure) (a0:Option Addr) (len0 cap0:Nat) (z0:List Int) (w:World) (w0:(a0 = none/\len0 = 0/\cap0 = 0/\z0 = []) \/ ∃ x,a0 = some x/\len0<=cap0/\cap0<=maxLen/\z0.length = cap0/\(∀ i,i < z0.length->w.cell? (x.add i) = some (.int .i64 (z0.getD i 0)))/\∀ n ∈ z0,(Lit.int .i64 n).wf = true) (y0:len0 * 8<=140737488351232) :
  Calls Tryz.prog 91 #[.slice a0 len0 cap0] w fun e w'=>e = .returned (.bool true)/\Below w.heap.size w w':=by
 obtain ⟨l0,rfl,hr0,hm0,hw0,hc0⟩:=ReadsInt.ofRowC w0;obtain ⟨k,h⟩:=P l0 hm0 y0 hw0;refine (spec_cnList.calls k _ _ l0 true w (Kd.C_of_reads (d:=(0:Int)) (h1:=fun _=>rfl) hr0) hc0 h).mono ?_;rintro e w' ⟨rfl,hd⟩;exact ⟨rfl,hd.below⟩
mutual
def spec_cnCircle.l0:Nat->Int->List Int->List Int->Int->Int->Option (List Int)
 | 0,_,_,_,_,_=>none
 | k + 1,x1,x5,x8,x9,x10=>if x10 < x9 then (if 0<=x10 then (if x10 < (x8.length:Int) then (spec_cnCircle.l1 k x1 x5 (rd x8 x10) x8 x9 x10) else (none)) else (none)) else (some x5)
def spec_cnCircle.l1:Nat->Int->List Int->Int->List Int->Int->Int->Option (List Int)
 | 0,_,_,_,_,_,_=>none
 | k + 1,x1,x5,x7,x8,x9,x10=>(spec_l1Has.f k x5 x7).bind fun t271=>(if t271 = true then (if x1 = 0 then (none) else (spec_cnCircle.l1 k x1 x5 (Int.tmod (wrap64 (x7 + 1)) x1) x8 x9 x10)) else (if x5.length < 17592186044416 then (spec_cnCircle.l0 k x1 (x5 ++ [x7]) x8 x9 (wrap64 (x10 + 1))) else (none)))
end
def spec_cnCircle.f (k:Nat) (l0:List Int) (a1:Int):Option (List Int):=spec_cnCircle.l0 k a1 ([]:List Int) l0 (l0.length:Int) 0
theorem spec_cnCircle.calls (k:Nat) (A0:Option Addr) (c0:Nat) (l0:List Int) (a1:Int) (r:List Int) (w:World) (hr0:Kd.C (Kd.int .i64) w A0 l0.length l0) (hc0:l0.length<=c0) (h:spec_cnCircle.f k l0 a1 = some r) :
  Calls Tryz.prog 230 #[.slice A0 l0.length c0,.int .i64 a1] w fun e w'=>∃ v0_:Value,e = .returned (v0_)/\Kd.R (Kd.int .i64) 3 w' w.heap.size (fun _=>True) v0_ r/\Below w.heap.size w w':=by
 have HR0:=am_ hr0;have HC0:=am_ hc0;clear hr0 hc0;have HB:=am_ (Below.refl w.heap.size w);unfold spec_cnCircle.f at h;have H:=h;clear h;have H':=am_ H;clear H;go_enter Tryz.func230,Tryz.ntmps230;go_wp2
 go_loopg [5,10] k (fun kq v5 v10 w'=>∃ (x5_1:List Int) (x10_1:Int),v10 = .int .i64 x10_1/\Aside0 (spec_cnCircle.l0 kq a1 x5_1 l0 (l0.length:Int) x10_1 = some r)/\Aside0 (kq<=k)/\Aside0 (Kd.R (Kd.int .i64) 3 w' w.heap.size (fun _=>True) v5 x5_1)/\Aside0 (Below w.heap.size w w'))
 case atStart=>exact ⟨(([]:List Int)),(0),qc8f_,H',⟨Nat.le_refl _⟩,⟨qf62_⟩,⟨q0c4_⟩⟩
 case round =>
  clear H';obtain ⟨x5_1,x10_1,rfl,HA,HK1,HO_5,HB⟩:=hrel;cases gk with
  | zero=>exact n0_ HA.out
  | succ k1 =>
   have H:=HA.out;clear HA;simp only [spec_cnCircle.l0] at H;revert H;refine ie_ (fun c3b0 H=>?_) fun c3b0 H=>?_
   ·
    revert H;refine id_ fun c4b0 H=>?_;revert H;refine id_ fun c5b0 H=>?_;have H':=am_ H;clear H;obtain ⟨ad270,rfl,hx270_0,p270,q270⟩:=ri_ HR0.out x10_1
    (try (replace hx270_0:=(HB.out.cell (World.block_lt_of_cell? w _ hx270_0)).trans hx270_0))
    go_wp2
    go_loopg [7] k1 (fun kq v7 w'=>∃ (x7_2:Int),v7 = .int .i64 x7_2/\Aside0 (spec_cnCircle.l1 kq a1 x5_1 x7_2 l0 (l0.length:Int) x10_1 = some r)/\Aside0 (kq<=k1)/\Aside0 (Kd.R (Kd.int .i64) 3 w' w.heap.size (fun _=>True) u5 x5_1)/\Aside0 (Below w.heap.size w w'))
    case atStart=>exact ⟨(rd l0 x10_1),qc8f_,H',⟨Nat.le_refl _⟩,⟨q9d5_ HO_5.out⟩,⟨q0c4_⟩⟩
    case round =>
     clear H';obtain ⟨x7_2,rfl,HA,HK2,HO_5,HB⟩:=hrel;cases gk with
     | zero=>exact n0_ HA.out
     | succ k2 =>
      have H:=HA.out;clear HA;simp only [spec_cnCircle.l1] at H;obtain ⟨t271,A6,H⟩:=ob_ H;revert H;refine be_ (fun c7 H=>?_) fun c7 H=>?_
      ·
       subst c7;revert H;refine in_ fun c8 H=>?_;have c8b0:=beq_eq_false_iff_ne.mpr c8;have c8b1:=bne_iff_ne.mpr c8;have H':=am_ H;clear H;obtain ⟨Ao9,co9,eo9⟩:=Kd.R_slice HO_5.out;subst eo9;go_wp2_with (first | ((with_reducible refine gc_ 113 ?_);refine gl_ 16 Tryz.func113 #[.slice Ao9 x5_1.length co9,.int .i64 x7_2] ?_;(with_reducible refine (spec_l1Has.calls k2 _ _ x5_1 x7_2 true _ ?s1 ?s2 A6.out).mono ?_);(case s1=>exact q5a8_ HO_5.out);(case s2=>exact (Kd.R_reads' HO_5.out).2.1);rintro e w' ⟨rfl,⟨nd,rfl⟩⟩;refine ⟨_,rfl,?_⟩));go_roundg k2
       case measure=>have:=HK1.out;have:=HK2.out;omega
       case rel=>exact ⟨(Int.tmod (wrap64 (x7_2 + 1)) a1),qc8f_,H',⟨q37b_ HK1.out HK2.out⟩,⟨q9d5_ HO_5.out⟩,⟨q0c4_⟩⟩
      subst c7;revert H;refine it_ fun c10 H=>?_;have LMc10:=am_ c10;clear c10;obtain ⟨y272,hy272⟩:=gn_ ((x5_1 ++ [x7_2]):List Int);replace H:(spec_cnCircle.l0 k2 a1 y272 l0 (l0.length:Int) (wrap64 (x10_1 + 1))) = some r:=rl_ hy272 H;have Ny272:=am_ hy272;clear hy272;have H':=am_ H;clear H;obtain ⟨Ao11,co11,eo11⟩:=Kd.R_slice HO_5.out;subst eo11;go_wp2_with (first | ((with_reducible refine gc_ 113 ?_);refine gl_ 16 Tryz.func113 #[.slice Ao11 x5_1.length co11,.int .i64 x7_2] ?_;(with_reducible refine (spec_l1Has.calls k2 _ _ x5_1 x7_2 false _ ?s1 ?s2 A6.out).mono ?_);(case s1=>exact q5a8_ HO_5.out);(case s2=>exact (Kd.R_reads' HO_5.out).2.1);rintro e w' ⟨rfl,⟨nd,rfl⟩⟩;refine ⟨_,rfl,?_⟩) | ((with_reducible refine gate_builtin (b:=.append) (xs:=#[.tmp 21,.tmp 23]) rfl ?_);at_builtin;refine aI_ (w0:=w) (.tmp 21) (.tmp 23) (.slice Ao11 x5_1.length co11) x5_1 x7_2 (fun _=>True) (fun _ _=>trivial) (q9d5_ HO_5.out) q0c4_ (by exact q1d0_ LMc10.out) ?_;intro v273 w12 ho hb hg hat;rw [<- Ny272.out] at ho;replace HB:=am_ (hb);have HO274:=am_ (ho);clear ho hb hg hat));go_roundg k2
      case measure=>have:=HK1.out;have:=HK2.out;omega
      case rel=>exact ⟨(y272),(wrap64 (x10_1 + 1)),qc8f_,H',⟨q37b_ HK1.out HK2.out⟩,⟨q9d5_ HO274.out⟩,⟨q0c4_⟩⟩
   obtain rfl:=Option.some.inj H;go_wp2;go_ret;exact ⟨_,qce7_,q9d5_ HO_5.out,q0c4_⟩
def spec_cnFree.l0:Nat->List Int->Int->Option (Int)
 | 0,_,_=>none
 | k + 1,x3,x4=>(spec_l1Has.f k x3 x4).bind fun t278=>(if t278 = true then (spec_cnFree.l0 k x3 (wrap64 (x4 + 1))) else (some x4))
def spec_cnFree.f (k:Nat) (l0:List Int):Option (Int):=(spec_cnCircle.f k l0 (wrap64 ((l0.length:Int) + 1))).bind fun t275=>(spec_cnFree.l0 k t275 0)
theorem spec_cnFree.calls (k:Nat) (A0:Option Addr) (c0:Nat) (l0:List Int) (r:Int) (w:World) (hr0:Kd.C (Kd.int .i64) w A0 l0.length l0) (hc0:l0.length<=c0) (h:spec_cnFree.f k l0 = some r) :
  Calls Tryz.prog 189 #[.slice A0 l0.length c0] w fun e w'=>e = .returned (.int .i64 r)/\Below w.heap.size w w':=by
 have HR0:=am_ hr0;have HC0:=am_ hc0;clear hr0 hc0;have HB:=am_ (Below.refl w.heap.size w);unfold spec_cnFree.f at h;have H:=h;clear h;obtain ⟨t275,A2,H⟩:=ob_ H;have H':=am_ H;clear H;go_enter Tryz.func189,Tryz.ntmps189;go_wp2_with (first | ((with_reducible refine gc_ 230 ?_);refine gl_ 9 Tryz.func230 #[.slice A0 l0.length c0,.int .i64 (wrap64 ((l0.length:Int) + 1))] ?_;(with_reducible refine (spec_cnCircle.calls k _ _ l0 (wrap64 ((l0.length:Int) + 1)) t275 _ ?s1 ?s2 A2.out).mono ?_);(case s1=>exact q201_ HR0.out);(case s2=>exact HC0.out);rintro e w3 ⟨v276,rfl,ho0,hb⟩;refine ⟨_,rfl,?_⟩;have HO277:=am_ (Kd.R_lower ho0 (below_size q0c4_));replace HB:=am_ (below_step q0c4_ hb);clear hb ho0))
 go_loopg [4] k (fun kq v4 w'=>∃ (x4_1:Int),v4 = .int .i64 x4_1/\Aside0 (spec_cnFree.l0 kq t275 x4_1 = some r)/\Aside0 (kq<=k)/\Aside0 (Kd.R (Kd.int .i64) 3 w' w.heap.size (fun _=>True) v276 t275)/\Aside0 (Below w.heap.size w w'))
 case atStart=>exact ⟨(0),qc8f_,H',⟨Nat.le_refl _⟩,⟨q9d5_ HO277.out⟩,⟨q0c4_⟩⟩
 case round =>
  clear H';obtain ⟨x4_1,rfl,HA,HK1,HO_3,HB⟩:=hrel;cases gk with
  | zero=>exact n0_ HA.out
  | succ k1 =>
   have H:=HA.out;clear HA;simp only [spec_cnFree.l0] at H;obtain ⟨t278,A4,H⟩:=ob_ H;revert H;refine be_ (fun c5 H=>?_) fun c5 H=>?_
   ·
    subst c5;have H':=am_ H;clear H;obtain ⟨Ao6,co6,eo6⟩:=Kd.R_slice HO_3.out;subst eo6;go_wp2_with (first | ((with_reducible refine gc_ 113 ?_);refine gl_ 12 Tryz.func113 #[.slice Ao6 t275.length co6,.int .i64 x4_1] ?_;(with_reducible refine (spec_l1Has.calls k1 _ _ t275 x4_1 true _ ?s1 ?s2 A4.out).mono ?_);(case s1=>exact q5a8_ HO_3.out);(case s2=>exact (Kd.R_reads' HO_3.out).2.1);rintro e w' ⟨rfl,⟨nd,rfl⟩⟩;refine ⟨_,rfl,?_⟩));go_roundg k1
    case measure=>have:=HK1.out;omega
    case rel=>exact ⟨(wrap64 (x4_1 + 1)),qc8f_,H',⟨q1d0_ HK1.out⟩,⟨q9d5_ HO_3.out⟩,⟨q0c4_⟩⟩
   subst c5;obtain rfl:=Option.some.inj H;obtain ⟨Ao7,co7,eo7⟩:=Kd.R_slice HO_3.out;subst eo7;go_wp2_with (first | ((with_reducible refine gc_ 113 ?_);refine gl_ 12 Tryz.func113 #[.slice Ao7 t275.length co7,.int .i64 x4_1] ?_;(with_reducible refine (spec_l1Has.calls k1 _ _ t275 x4_1 false _ ?s1 ?s2 A4.out).mono ?_);(case s1=>exact q5a8_ HO_3.out);(case s2=>exact (Kd.R_reads' HO_3.out).2.1);rintro e w' ⟨rfl,⟨nd,rfl⟩⟩;refine ⟨_,rfl,?_⟩));go_ret;exact ⟨qce7_,q0c4_⟩
def spec_cnTurn.l0:Nat->Int->Int->List Int->List Int->Int->Int->Option (List Int)
 | 0,_,_,_,_,_,_=>none
 | k + 1,x1,x2,x7,x10,x11,x12=>if x12 < x11 then (if 0<=x12 then (if x12 < (x10.length:Int) then (if x1 = 0 then (none) else (if x7.length < 17592186044416 then (spec_cnTurn.l0 k x1 x2 (x7 ++ [Int.tmod (wrap64 ((Int.tmod (wrap64 ((rd x10 x12) + x2)) x1) + x1)) x1]) x10 x11 (wrap64 (x12 + 1))) else (none))) else (none)) else (none)) else (some x7)
def spec_cnTurn.f (k:Nat) (l0:List Int) (a1:Int) (a2:Int):Option (List Int):=spec_cnTurn.l0 k a1 a2 ([]:List Int) l0 (l0.length:Int) 0
theorem spec_cnTurn.calls (k:Nat) (A0:Option Addr) (c0:Nat) (l0:List Int) (a1:Int) (a2:Int) (r:List Int) (w:World) (hr0:Kd.C (Kd.int .i64) w A0 l0.length l0) (hc0:l0.length<=c0) (h:spec_cnTurn.f k l0 a1 a2 = some r) :
  Calls Tryz.prog 190 #[.slice A0 l0.length c0,.int .i64 a1,.int .i64 a2] w fun e w'=>∃ v0_:Value,e = .returned (v0_)/\Kd.R (Kd.int .i64) 3 w' w.heap.size (fun _=>True) v0_ r/\Below w.heap.size w w':=by
 have HR0:=am_ hr0;have HC0:=am_ hc0;clear hr0 hc0;have HB:=am_ (Below.refl w.heap.size w);unfold spec_cnTurn.f at h;have H:=h;clear h;have H':=am_ H;clear H;go_enter Tryz.func190,Tryz.ntmps190;go_wp2
 go_loopg [7,12] k (fun kq v7 v12 w'=>∃ (x7_1:List Int) (x12_1:Int),v12 = .int .i64 x12_1/\Aside0 (spec_cnTurn.l0 kq a1 a2 x7_1 l0 (l0.length:Int) x12_1 = some r)/\Aside0 (kq<=k)/\Aside0 (Kd.R (Kd.int .i64) 3 w' w.heap.size (fun _=>True) v7 x7_1)/\Aside0 (Below w.heap.size w w'))
 case atStart=>exact ⟨(([]:List Int)),(0),qc8f_,H',⟨Nat.le_refl _⟩,⟨qf62_⟩,⟨q0c4_⟩⟩
 case round =>
  clear H';obtain ⟨x7_1,x12_1,rfl,HA,HK1,HO_7,HB⟩:=hrel;cases gk with
  | zero=>exact n0_ HA.out
  | succ k1 =>
   have H:=HA.out;clear HA;simp only [spec_cnTurn.l0] at H;revert H;refine ie_ (fun c4b0 H=>?_) fun c4b0 H=>?_
   ·
    revert H;refine id_ fun c5b0 H=>?_;revert H;refine id_ fun c6b0 H=>?_;revert H;refine in_ fun c7 H=>?_;have c7b0:=beq_eq_false_iff_ne.mpr c7;have c7b1:=bne_iff_ne.mpr c7;revert H;refine it_ fun c8 H=>?_;have LMc8:=am_ c8;clear c8;obtain ⟨y280,hy280⟩:=gn_ ((x7_1 ++ [Int.tmod (wrap64 ((Int.tmod (wrap64 ((rd l0 x12_1) + a2)) a1) + a1)) a1]):List Int);replace H:(spec_cnTurn.l0 k1 a1 a2 y280 l0 (l0.length:Int) (wrap64 (x12_1 + 1))) = some r:=rl_ hy280 H;have Ny280:=am_ hy280;clear hy280;have H':=am_ H;clear H;obtain ⟨ad279,rfl,hx279_0,p279,q279⟩:=ri_ HR0.out x12_1
    (try (replace hx279_0:=(HB.out.cell (World.block_lt_of_cell? w _ hx279_0)).trans hx279_0))
    go_wp2_with (first | ((with_reducible refine gate_builtin (b:=.append) (xs:=#[.tmp 16,.tmp 26]) rfl ?_);at_builtin;refine aI_ (w0:=w) (.tmp 16) (.tmp 26) u7 x7_1 (Int.tmod (wrap64 ((Int.tmod (wrap64 ((rd l0 x12_1) + a2)) a1) + a1)) a1) (fun _=>True) (fun _ _=>trivial) (q9d5_ HO_7.out) q0c4_ (by exact q1d0_ LMc8.out) ?_;intro v281 w9 ho hb hg hat;rw [<- Ny280.out] at ho;replace HB:=am_ (hb);have HO282:=am_ (ho);clear ho hb hg hat));go_roundg k1
    case measure=>have:=HK1.out;omega
    case rel=>exact ⟨(y280),(wrap64 (x12_1 + 1)),qc8f_,H',⟨q1d0_ HK1.out⟩,⟨q9d5_ HO282.out⟩,⟨q0c4_⟩⟩
   obtain rfl:=Option.some.inj H;go_wp2;go_ret;exact ⟨_,qce7_,q9d5_ HO_7.out,q0c4_⟩
def spec_ParkingOfClass.f (k:Nat) (l0:List Int):Option (List Int × Int × Bool):=(spec_cnList.f k l0).bind fun t283=>(if t283 = true then ((spec_cnFree.f k l0).bind fun t284=>((spec_cnTurn.f k l0 (wrap64 ((l0.length:Int) + 1)) (wrap64 ((l0.length:Int) - t284))).bind fun t285=>(some (t285,wrap64 ((l0.length:Int) - t284),true)))) else (some (([]:List Int),0,false)))
theorem spec_ParkingOfClass.calls (k:Nat) (A0:Option Addr) (c0:Nat) (l0:List Int) (r1:List Int) (r2:Int) (r3:Bool) (w:World) (hr0:Kd.C (Kd.int .i64) w A0 l0.length l0) (hc0:l0.length<=c0) (h:spec_ParkingOfClass.f k l0 = some (r1,r2,r3)) :
  Calls Tryz.prog 132 #[.slice A0 l0.length c0] w fun e w'=>∃ v0_:Value,e = .returned (.tuple #[v0_,.int .i64 r2,.bool r3])/\Kd.R (Kd.int .i64) 3 w' w.heap.size (fun _=>True) v0_ r1/\Below w.heap.size w w':=by
 have HR0:=am_ hr0;have HC0:=am_ hc0;clear hr0 hc0;have HB:=am_ (Below.refl w.heap.size w);unfold spec_ParkingOfClass.f at h;have H:=h;clear h;obtain ⟨t283,A2,H⟩:=ob_ H;revert H;refine be_ (fun c3 H=>?_) fun c3 H=>?_
 ·
  subst c3;obtain ⟨t284,A4,H⟩:=ob_ H;obtain ⟨t285,A5,H⟩:=ob_ H;obtain ⟨rfl,rfl,rfl⟩:=st_ H;go_enter Tryz.func132,Tryz.ntmps132;go_wp2_with (first | ((with_reducible refine gc_ 91 ?_);refine gl_ 7 Tryz.func91 #[.slice A0 l0.length c0] ?_;(with_reducible refine (spec_cnList.calls k _ _ l0 true _ ?s1 ?s2 A2.out).mono ?_);(case s1=>exact q201_ HR0.out);(case s2=>exact HC0.out);rintro e w' ⟨rfl,⟨nd,rfl⟩⟩;refine ⟨_,rfl,?_⟩) | ((with_reducible refine gc_ 189 ?_);refine gl_ 12 Tryz.func189 #[.slice A0 l0.length c0] ?_;(with_reducible refine (spec_cnFree.calls k _ _ l0 t284 _ ?s1 ?s2 A4.out).mono ?_);(case s1=>exact q201_ HR0.out);(case s2=>exact HC0.out);rintro e w6 ⟨rfl,hb⟩;refine ⟨_,rfl,?_⟩;replace HB:=am_ (below_step q0c4_ hb);clear hb) | ((with_reducible refine gc_ 190 ?_);refine gl_ 19 Tryz.func190 #[.slice A0 l0.length c0,.int .i64 (wrap64 ((l0.length:Int) + 1)),.int .i64 (wrap64 ((l0.length:Int) - t284))] ?_;(with_reducible refine (spec_cnTurn.calls k _ _ l0 (wrap64 ((l0.length:Int) + 1)) (wrap64 ((l0.length:Int) - t284)) t285 _ ?s1 ?s2 A5.out).mono ?_);(case s1=>exact qe02_ HR0.out);(case s2=>exact HC0.out);rintro e w7 ⟨v286,rfl,ho0,hb⟩;refine ⟨_,rfl,?_⟩;have HO287:=am_ (Kd.R_lower ho0 (below_size q0c4_));replace HB:=am_ (below_step q0c4_ hb);clear hb ho0));go_ret3;exact ⟨_,qce7_,q9d5_ HO287.out,q0c4_⟩
 subst c3;obtain ⟨rfl,rfl,rfl⟩:=st_ H;go_enter Tryz.func132,Tryz.ntmps132;go_wp2_with (first | ((with_reducible refine gc_ 91 ?_);refine gl_ 7 Tryz.func91 #[.slice A0 l0.length c0] ?_;(with_reducible refine (spec_cnList.calls k _ _ l0 false _ ?s1 ?s2 A2.out).mono ?_);(case s1=>exact q201_ HR0.out);(case s2=>exact HC0.out);rintro e w' ⟨rfl,⟨nd,rfl⟩⟩;refine ⟨_,rfl,?_⟩));go_ret3;exact ⟨_,qce7_,qf62_,q0c4_⟩
def spec_loBacks.f (a0:Int):Option (Bool):=(spec_l1In.f a0 0 8).bind fun t288=>(some t288)
theorem spec_loBacks.calls (a0:Int) (r:Bool) (w:World) (h:spec_loBacks.f a0 = some r) :
  Calls Tryz.prog 191 #[.int .i64 a0] w fun e w'=>e = .returned (.bool r)/\Drawn0 w w':=by
 unfold spec_loBacks.f at h;have H:=h;clear h;obtain ⟨t288,A2,H⟩:=ob_ H;obtain rfl:=Option.some.inj H;go_enter Tryz.func191,Tryz.ntmps191;go_wp2_with (first | ((with_reducible refine gc_ 112 ?_);refine gl_ 4 Tryz.func112 #[.int .i64 a0,.int .i64 0,.int .i64 8] ?_;(with_reducible refine (spec_l1In.calls a0 0 8 t288 _ A2.out).mono ?_);rintro e w' ⟨rfl,⟨nd,rfl⟩⟩;refine ⟨_,rfl,?_⟩));go_ret;exact ⟨qc8f_,qffa_⟩
mutual
def spec_loAll.l0:Nat->List Int->Int->List (List Int)->Int->Option ((List (List Int)))
 | 0,_,_,_,_=>none
 | k + 1,x0,x1,x5,x6=>if x6 < x1 then ((spec_l1Own.f x0).bind fun t295=>(if t295.length < 17592186044416 then ((spec_loAll.f k (t295 ++ [x6]) x1).bind fun t301=>(if x5.length + t301.length < 5864062014805 then (spec_loAll.l0 k x0 x1 (x5 ++ t301) (wrap64 (x6 + 1))) else (none))) else (none))) else (some x5)
def spec_loAll.f:Nat->List Int->Int->Option ((List (List Int)))
 | 0,_,_=>none
 | k + 1,l0,a1=>if (l0.length:Int) = a1 then ((spec_l1Own.f l0).bind fun t289=>(some (([t289]:List (List Int))))) else (spec_loAll.l0 k l0 a1 ([]:List (List Int)) 0)
end
theorem spec_loAll.mono_l:∀ k,(∀ y0 y1,LeO (spec_loAll.f k y0 y1) (spec_loAll.f (k + 1) y0 y1))/\(∀ y0 y1 y2 y3,LeO (spec_loAll.l0 k y0 y1 y2 y3) (spec_loAll.l0 (k + 1) y0 y1 y2 y3))
 | 0=>⟨fun _ _ r h=>by simp [spec_loAll.f] at h,fun _ _ _ _ r h=>by simp [spec_loAll.l0] at h⟩
 | k + 1=>by
  obtain ⟨ih0,ih1⟩:=spec_loAll.mono_l k;refine ⟨?_,?_⟩
  ·
   intro y0 y1;unfold spec_loAll.f
   repeat' (with_reducible first | exact ih0 _ _ | exact ih1 _ _ _ _ | exact LeO.refl _ | exact LeO.none _ | refine LeO.ite ?_ ?_ | refine LeO.bind ?_ (fun _=>?_))
  ·
   intro y0 y1 y2 y3;unfold spec_loAll.l0
   repeat' (with_reducible first | exact ih0 _ _ | exact ih1 _ _ _ _ | exact LeO.refl _ | exact LeO.none _ | refine LeO.ite ?_ ?_ | refine LeO.bind ?_ (fun _=>?_))
theorem spec_loAll.mono:∀ a0 a1 k,LeO (spec_loAll.f k a0 a1) (spec_loAll.f (k + 1) a0 a1):=by
 intro a0 a1 k;obtain ⟨ih0,ih1⟩:=spec_loAll.mono_l k;exact ih0 a0 a1
theorem spec_loAll.calls (k:Nat):∀ (A0:Option Addr) (c0:Nat) (l0:List Int) (a1:Int) (r:List (List Int)) (w:World) (hr0:Kd.C (Kd.int .i64) w A0 l0.length l0) (hc0:l0.length<=c0) (h:spec_loAll.f k l0 a1 = some r),
  Calls Tryz.prog 192 #[.slice A0 l0.length c0,.int .i64 a1] w fun e w'=>∃ v0_:Value,e = .returned (v0_)/\Kd.N (Kd.slice 3 (Kd.int .i64)) 22 w' w.heap.size (fun k_=>(w.heap.size<=k_)) v0_ r/\Below w.heap.size w w':=by
 induction k using Nat.strongRecOn with
 | _ k ih =>
 intro A0 c0 l0 a1 r w hr0 hc0 h;cases k with
 | zero=>exact absurd h (by simp [spec_loAll.f])
 | succ k =>
 simp only [spec_loAll.f] at h;have HR0:=am_ hr0;have HC0:=am_ hc0;clear hr0 hc0;have HB:=am_ (Below.refl w.heap.size w);have H:(if (l0.length:Int) = a1 then ((spec_l1Own.f l0).bind fun t289=>(some (([t289]:List (List Int))))) else (spec_loAll.l0 k l0 a1 ([]:List (List Int)) 0)) = some r:=h;clear h;revert H;refine ee_ (fun c3b0 c3b1 H=>?_) fun c3 c3b0 c3b1 H=>?_
 ·
  obtain ⟨t289,A4,H⟩:=ob_ H;obtain ⟨y292,hy292⟩:=gn_ ((([t289]:List (List Int))):List (List Int));replace H:(some y292) = some r:=rl_ hy292 H;have Ny292:=am_ hy292;clear hy292;obtain rfl:=Option.some.inj H;go_enter Tryz.func192,Tryz.ntmps192;go_wp2_with (first | ((with_reducible refine gc_ 70 ?_);refine gl_ 12 Tryz.func70 #[.slice A0 l0.length c0] ?_;(with_reducible refine (spec_l1Own.calls _ _ l0 t289 _ ?s1 ?s2 A4.out).mono ?_);(case s1=>exact q201_ HR0.out);(case s2=>exact HC0.out);rintro e w5 ⟨v290,rfl,ho0,hb⟩;refine ⟨_,rfl,?_⟩;have HO291:=am_ (Kd.R_lower (Kd.R_newM (M:=fun k_=>(w.heap.size<=k_)) ho0 (below_size q0c4_) (fun k_ h_=>h_)) (below_size q0c4_));replace HB:=am_ (below_step q0c4_ hb);clear hb ho0;obtain ⟨Ao6,co6,eo6⟩:=Kd.R_slice HO291.out;subst eo6) | ((with_reducible refine gd_ 13 ?_);refine Kd.N_lit (Kd.slice 3 (Kd.int .i64)) _ 22 ?hg (N':=13) ?hd (xs:=([t289]:List (List Int))) (inner:=[.slice Ao6 t289.length co6]) (ok:=(fun k_=>(w.heap.size<=k_))) (okp:=(fun k_=>(w.heap.size<=k_))) ?hr ?hp (fun _ hk=>hk) ((show ∀ k_,w5.heap.size<=k_->(fun k_=>(w.heap.size<=k_)) k_ from fun k_ hk=>(Nat.le_trans (below_size q0c4_) hk)) _ (Nat.le_refl _)) (Below.refl _ _) (Nat.le_refl _) (by simp) ?_;(case hd=>rfl);(case hg=>rfl);(case hr=>exact qfba_);(case hp=>exact (Reps.one (show Kd.FK (Kd.slice 3 (Kd.int .i64)) _ _ t289 [.slice Ao6 t289.length co6] from (Kd.FK_slice_mk (Kd.R_reads' (Kd.R_mono (ok':=(fun k_=>(w.heap.size<=k_))) (HO291.out) (fun k_ hk=>hk.1))).2.1 (Kd.R_F (Kd.R_mono (ok':=(fun k_=>(w.heap.size<=k_))) (HO291.out) (fun k_ hk=>hk.1))))) (Reps.none _ _)));intro v293 w7 ho8 hb hg_ hnew_;clear hg_ hnew_;(first | rw [<- Ny292.out] at ho8 | (simp only [Int.reduceToNat] at ho8;rw [<- Ny292.out] at ho8));have HO294:=am_ (Kd.N_lower ho8 (below_size q0c4_));replace HB:=am_ (below_step q0c4_ hb);clear hb ho8));go_ret;exact ⟨_,qce7_,qba9_ HO294.out,q0c4_⟩
 have H':=am_ H;clear H;go_enter Tryz.func192,Tryz.ntmps192;go_wp2
 go_loopg [5,6] k (fun kq v5 v6 w'=>∃ (x5_1:List (List Int)) (x6_1:Int),v6 = .int .i64 x6_1/\Aside0 (spec_loAll.l0 kq l0 a1 x5_1 x6_1 = some r)/\Aside0 (kq<=k)/\Aside0 (Kd.N (Kd.slice 3 (Kd.int .i64)) 22 w' w.heap.size (fun k_=>(w.heap.size<=k_)) v5 x5_1)/\Aside0 (Below w.heap.size w w'))
 case atStart=>exact ⟨(([]:List (List Int))),(0),qc8f_,H',⟨Nat.le_refl _⟩,⟨by first | exact Kd.S_nil _ _ _ _ _ | exact Kd.N_nil _ _ _ _ _ | exact Kd.V_nil _ _ _ _ _ | exact Kd.Q_nil _ _ _ _ _ | exact Kd.R_nil _ _ _ _ _⟩,⟨q0c4_⟩⟩
 case round =>
  clear H';obtain ⟨x5_1,x6_1,rfl,HA,HK1,HO_5,HB⟩:=hrel;cases gk with
  | zero=>exact n0_ HA.out
  | succ k1 =>
   have H:=HA.out;clear HA;simp only [spec_loAll.l0] at H;revert H;refine ie_ (fun c9b0 H=>?_) fun c9b0 H=>?_
   ·
    obtain ⟨t295,A10,H⟩:=ob_ H;revert H;refine it_ fun c11 H=>?_;have LMc11:=am_ c11;clear c11;obtain ⟨y298,hy298⟩:=gn_ ((t295 ++ [x6_1]):List Int);replace H:((spec_loAll.f k1 y298 a1).bind fun t301=>(if x5_1.length + t301.length < 5864062014805 then (spec_loAll.l0 k1 l0 a1 (x5_1 ++ t301) (wrap64 (x6_1 + 1))) else (none))) = some r:=rl_ hy298 H;have Ny298:=am_ hy298;clear hy298;obtain ⟨t301,A12,H⟩:=ob_ H;revert H;refine it_ fun c13 H=>?_;have LMc13:=am_ c13;clear c13;obtain ⟨y304,hy304⟩:=gn_ ((x5_1 ++ t301):List (List Int));replace H:(spec_loAll.l0 k1 l0 a1 y304 (wrap64 (x6_1 + 1))) = some r:=rl_ hy304 H;have Ny304:=am_ hy304;clear hy304;have H':=am_ H;clear H
    go_wp2_with (first | ((with_reducible refine gc_ 70 ?_);refine gl_ 21 Tryz.func70 #[.slice A0 l0.length c0] ?_;(with_reducible refine (spec_l1Own.calls _ _ l0 t295 _ ?s1 ?s2 A10.out).mono ?_);(case s1=>exact qe02_ HR0.out);(case s2=>exact HC0.out);rintro e w14 ⟨v296,rfl,ho0,hb⟩;refine ⟨_,rfl,?_⟩;replace HO_5:=am_ (Kd.N_elder' (qba9_ HO_5.out) (Kd.R_base ho0) hb);have HO297:=am_ (Kd.R_lower (Kd.R_newM (M:=fun k_=>(w.heap.size<=k_)) ho0 (below_size q0c4_) (fun k_ h_=>h_)) (below_size q0c4_));replace HB:=am_ (below_step q0c4_ hb);clear hb ho0) | ((with_reducible refine gate_builtin (b:=.append) (xs:=#[.tmp 21,.tmp 23]) rfl ?_);at_builtin;refine aI_ (w0:=w) (.tmp 21) (.tmp 23) v296 t295 x6_1 (fun k_=>(w.heap.size<=k_)) (fun k_ hk=>(Nat.le_trans (below_size q0c4_) hk)) (q311_ HO297.out) q0c4_ (by exact q1d0_ LMc11.out) ?_;intro v299 w15 ho hb hg hat;rw [<- Ny298.out] at ho;replace HO_5:=am_ (Kd.N_afterv (ok:=(fun k_=>(w.heap.size<=k_))) (qba9_ HO_5.out) hg hat);replace HB:=am_ (hb);have HO300:=am_ (ho);clear ho hb hg hat;obtain ⟨Ao16,co16,eo16⟩:=Kd.R_slice HO300.out;subst eo16) | ((with_reducible refine gc_ 192 ?_);refine gl_ 26 Tryz.func192 #[.slice Ao16 y298.length co16,.int .i64 a1] ?_;(with_reducible refine (ih k1 (q1d0_ HK1.out) _ _ y298 a1 t301 _ ?s1 ?s2 A12.out).mono ?_);(case s1=>exact q5a8_ HO300.out);(case s2=>exact (Kd.R_reads' HO300.out).2.1);rintro e w17 ⟨v302,rfl,ho0,hb⟩;refine ⟨_,rfl,?_⟩;have HO303:=am_ (Kd.N_lower (Kd.N_mono (ok':=fun k_=>(w.heap.size<=k_)/\some k_ ≠ (u5:Value).ownBlock/\some k_ ≠ (.slice Ao16 y298.length co16:Value).ownBlock) ho0 (fun k_ hk_=>⟨(Nat.le_trans (below_size q0c4_) hk_),(Kd.fresh' (Kd.N_lt (qba9_ HO_5.out)) k_ hk_),(Kd.fresh' (Kd.R_lt (q9d5_ HO300.out)) k_ hk_)⟩)) (below_size q0c4_));replace HO_5:=am_ (Kd.N_elder' (qba9_ HO_5.out) (by first | exact Kd.N_base ho0 | exact Kd.S_base ho0) hb);replace HO300:=am_ (Kd.R_below (q9d5_ HO300.out) hb);replace HB:=am_ (below_step q0c4_ hb);clear hb ho0;obtain ⟨Ao19,co19,eo19⟩:=Kd.N_slice HO303.out;subst eo19) | ((with_reducible refine gate_builtin (b:=.append) (xs:=#[.tmp 19,.tmp 26]) rfl ?_);at_builtin;refine Kd.N_append_rows (Kd.slice 3 (Kd.int .i64)) (w0:=w) w.heap.size rfl (.tmp 19) (.tmp 26) 154 22 (.slice none 0 0) 24 rfl Tryz.underlying154 info22 rfl (by decide) (by omega) u5 x5_1 t301 _ _ _ (fun k_=>(w.heap.size<=k_)/\some k_ ≠ (.slice Ao16 y298.length co16:Value).ownBlock) (fun k_=>((fun k_=>(w.heap.size<=k_)/\some k_ ≠ (.slice Ao16 y298.length co16:Value).ownBlock)) k_/\some k_ ≠ (u5:Value).ownBlock) rfl rfl ?aO ?aR (fun _ hk=>hk) ?aF ?aB ?aS ?aL ?_;(case aR=>exact (by skip;exact Kd.N_F (Kd.N_mono (ok':=(fun k_=>((fun k_=>(w.heap.size<=k_)/\some k_ ≠ (.slice Ao16 y298.length co16:Value).ownBlock)) k_/\some k_ ≠ (u5:Value).ownBlock)) (HO303.out) (fun k_ hk=>⟨⟨hk.1,hk.2.2⟩,hk.2.1⟩))));(case aB=>exact q0c4_);(case aF=>exact (fun k_ hk=>⟨(Nat.le_trans (below_size q0c4_) hk),Kd.fresh' (Kd.R_lt (q9d5_ HO300.out)) k_ hk⟩));(case aO=>exact (by (with_reducible repeat (first | apply Kd.N_alloc | apply Kd.N_drewN | apply Kd.N_drew));exact Kd.N_mono HO_5.out (fun _ hk=>⟨hk.1.1,hk.1.2⟩)));(case aS=>exact (below_size q0c4_));(case aL=>exact q1d0_ LMc13.out);intro v305 w18 ho hb hg hat;rw [<- Ny304.out] at ho;replace HO300:=am_ (Kd.R_over' (q9d5_ HO300.out) (Kd.N_typed (qba9_ HO_5.out)) (by decide) hg);replace HO303:=am_ (Kd.N_afterv (ok:=(fun k_=>(w.heap.size<=k_)/\some k_ ≠ (.slice Ao16 y298.length co16:Value).ownBlock)) (by (with_reducible repeat (first | apply Kd.N_alloc | apply Kd.N_drewN | apply Kd.N_drew));exact Kd.N_mono HO303.out (fun _ hk=>⟨⟨hk.1,hk.2.2⟩,hk.2.1⟩)) hg hat);replace HB:=am_ (hb);have HO306:=am_ (ho);clear ho hb hg hat))
    go_roundg k1
    case measure=>have:=HK1.out;omega
    case rel=>exact ⟨(y304),(wrap64 (x6_1 + 1)),qc8f_,H',⟨q1d0_ HK1.out⟩,⟨by (with_reducible repeat (first | apply Kd.N_alloc | apply Kd.N_drewN | apply Kd.N_drew));exact Kd.N_mono HO306.out (fun _ hk=>hk.1)⟩,⟨q0c4_⟩⟩
   obtain rfl:=Option.some.inj H;go_wp2;go_ret;exact ⟨_,qce7_,qba9_ HO_5.out,q0c4_⟩
mutual
def spec_loBack.l0:Nat->Int->Int->List Int->List Int->Int->Int->Option (List Int)
 | 0,_,_,_,_,_,_=>none
 | k + 1,x1,x2,x7,x13,x14,x15=>if x15 < x14 then (if 0<=x15 then (if x15 < (x13.length:Int) then (spec_loBack.l1 k x1 x2 x7 (rd x13 x15) (-1) 0 x13 x14 x15) else (none)) else (none)) else (some x7)
def spec_loBack.l1:Nat->Int->Int->List Int->Int->Int->Int->List Int->Int->Int->Option (List Int)
 | 0,_,_,_,_,_,_,_,_,_=>none
 | k + 1,x1,x2,x7,x9,x10,x11,x13,x14,x15=>if x11<=x2 then (if (wrap64 (x9 - x11)) >= 0 then (spec_loBack.j2 k x1 x2 x7 x9 x10 x11 x13 x14 x15 (decide (x10 < 0))) else (spec_loBack.j2 k x1 x2 x7 x9 x10 x11 x13 x14 x15 false)) else (spec_loBack.j2 k x1 x2 x7 x9 x10 x11 x13 x14 x15 false)
def spec_loBack.j2:Nat->Int->Int->List Int->Int->Int->Int->List Int->Int->Int->Bool->Option (List Int)
 | 0,_,_,_,_,_,_,_,_,_,_=>none
 | k + 1,x1,x2,x7,x9,x10,x11,x13,x14,x15,x31=>if x31 = true then ((spec_l1Has.f k x7 (wrap64 (x9 - x11))).bind fun t308=>(if t308 = true then (spec_loBack.l1 k x1 x2 x7 x9 x10 (wrap64 (x11 + 1)) x13 x14 x15) else (spec_loBack.l1 k x1 x2 x7 x9 (wrap64 (x9 - x11)) (wrap64 (x11 + 1)) x13 x14 x15))) else (spec_loBack.l2 k x1 x2 x7 x10 x9 x13 x14 x15)
def spec_loBack.l2:Nat->Int->Int->List Int->Int->Int->List Int->Int->Int->Option (List Int)
 | 0,_,_,_,_,_,_,_,_=>none
 | k + 1,x1,x2,x7,x10,x12,x13,x14,x15=>if x12 < x1 then (spec_loBack.j4 k x1 x2 x7 x10 x12 x13 x14 x15 (decide (x10 < 0))) else (spec_loBack.j4 k x1 x2 x7 x10 x12 x13 x14 x15 false)
def spec_loBack.j4:Nat->Int->Int->List Int->Int->Int->List Int->Int->Int->Bool->Option (List Int)
 | 0,_,_,_,_,_,_,_,_,_=>none
 | k + 1,x1,x2,x7,x10,x12,x13,x14,x15,x50=>if x50 = true then ((spec_l1Has.f k x7 x12).bind fun t309=>(if t309 = true then (spec_loBack.l2 k x1 x2 x7 x10 (wrap64 (x12 + 1)) x13 x14 x15) else (spec_loBack.l2 k x1 x2 x7 x12 (wrap64 (x12 + 1)) x13 x14 x15))) else (if x7.length < 17592186044416 then (spec_loBack.l0 k x1 x2 (x7 ++ [x10]) x13 x14 (wrap64 (x15 + 1))) else (none))
end
def spec_loBack.f (k:Nat) (l0:List Int) (a1:Int) (a2:Int):Option (List Int):=spec_loBack.l0 k a1 a2 ([]:List Int) l0 (l0.length:Int) 0
theorem spec_loBack.mono_l:∀ k,(∀ y0 y1 y2 y3 y4 y5,LeO (spec_loBack.l0 k y0 y1 y2 y3 y4 y5) (spec_loBack.l0 (k + 1) y0 y1 y2 y3 y4 y5))/\(∀ y0 y1 y2 y3 y4 y5 y6 y7 y8,LeO (spec_loBack.l1 k y0 y1 y2 y3 y4 y5 y6 y7 y8) (spec_loBack.l1 (k + 1) y0 y1 y2 y3 y4 y5 y6 y7 y8))/\(∀ y0 y1 y2 y3 y4 y5 y6 y7 y8 y9,LeO (spec_loBack.j2 k y0 y1 y2 y3 y4 y5 y6 y7 y8 y9) (spec_loBack.j2 (k + 1) y0 y1 y2 y3 y4 y5 y6 y7 y8 y9))/\(∀ y0 y1 y2 y3 y4 y5 y6 y7,LeO (spec_loBack.l2 k y0 y1 y2 y3 y4 y5 y6 y7) (spec_loBack.l2 (k + 1) y0 y1 y2 y3 y4 y5 y6 y7))/\(∀ y0 y1 y2 y3 y4 y5 y6 y7 y8,LeO (spec_loBack.j4 k y0 y1 y2 y3 y4 y5 y6 y7 y8) (spec_loBack.j4 (k + 1) y0 y1 y2 y3 y4 y5 y6 y7 y8))
 | 0=>⟨fun _ _ _ _ _ _ r h=>by simp [spec_loBack.l0] at h,fun _ _ _ _ _ _ _ _ _ r h=>by simp [spec_loBack.l1] at h,fun _ _ _ _ _ _ _ _ _ _ r h=>by simp [spec_loBack.j2] at h,fun _ _ _ _ _ _ _ _ r h=>by simp [spec_loBack.l2] at h,fun _ _ _ _ _ _ _ _ _ r h=>by simp [spec_loBack.j4] at h⟩
 | k + 1=>by
  obtain ⟨ih0,ih1,ih2,ih3,ih4⟩:=spec_loBack.mono_l k;refine ⟨?_,?_,?_,?_,?_⟩
  ·
   intro y0 y1 y2 y3 y4 y5;unfold spec_loBack.l0
   repeat' (with_reducible first | exact ih0 _ _ _ _ _ _ | exact ih1 _ _ _ _ _ _ _ _ _ | exact ih2 _ _ _ _ _ _ _ _ _ _ | exact ih3 _ _ _ _ _ _ _ _ | exact ih4 _ _ _ _ _ _ _ _ _ | exact spec_l1Has.mono _ _ _ | exact LeO.refl _ | exact LeO.none _ | refine LeO.ite ?_ ?_ | refine LeO.bind ?_ (fun _=>?_))
  ·
   intro y0 y1 y2 y3 y4 y5 y6 y7 y8;unfold spec_loBack.l1
   repeat' (with_reducible first | exact ih0 _ _ _ _ _ _ | exact ih1 _ _ _ _ _ _ _ _ _ | exact ih2 _ _ _ _ _ _ _ _ _ _ | exact ih3 _ _ _ _ _ _ _ _ | exact ih4 _ _ _ _ _ _ _ _ _ | exact spec_l1Has.mono _ _ _ | exact LeO.refl _ | exact LeO.none _ | refine LeO.ite ?_ ?_ | refine LeO.bind ?_ (fun _=>?_))
  ·
   intro y0 y1 y2 y3 y4 y5 y6 y7 y8 y9;unfold spec_loBack.j2
   repeat' (with_reducible first | exact ih0 _ _ _ _ _ _ | exact ih1 _ _ _ _ _ _ _ _ _ | exact ih2 _ _ _ _ _ _ _ _ _ _ | exact ih3 _ _ _ _ _ _ _ _ | exact ih4 _ _ _ _ _ _ _ _ _ | exact spec_l1Has.mono _ _ _ | exact LeO.refl _ | exact LeO.none _ | refine LeO.ite ?_ ?_ | refine LeO.bind ?_ (fun _=>?_))
  ·
   intro y0 y1 y2 y3 y4 y5 y6 y7;unfold spec_loBack.l2
   repeat' (with_reducible first | exact ih0 _ _ _ _ _ _ | exact ih1 _ _ _ _ _ _ _ _ _ | exact ih2 _ _ _ _ _ _ _ _ _ _ | exact ih3 _ _ _ _ _ _ _ _ | exact ih4 _ _ _ _ _ _ _ _ _ | exact spec_l1Has.mono _ _ _ | exact LeO.refl _ | exact LeO.none _ | refine LeO.ite ?_ ?_ | refine LeO.bind ?_ (fun _=>?_))
  ·
   intro y0 y1 y2 y3 y4 y5 y6 y7 y8;unfold spec_loBack.j4
   repeat' (with_reducible first | exact ih0 _ _ _ _ _ _ | exact ih1 _ _ _ _ _ _ _ _ _ | exact ih2 _ _ _ _ _ _ _ _ _ _ | exact ih3 _ _ _ _ _ _ _ _ | exact ih4 _ _ _ _ _ _ _ _ _ | exact spec_l1Has.mono _ _ _ | exact LeO.refl _ | exact LeO.none _ | refine LeO.ite ?_ ?_ | refine LeO.bind ?_ (fun _=>?_))
theorem spec_loBack.mono:∀ a0 a1 a2 k,LeO (spec_loBack.f k a0 a1 a2) (spec_loBack.f (k + 1) a0 a1 a2):=by
 intro a0 a1 a2 k;obtain ⟨ih0,ih1,ih2,ih3,ih4⟩:=spec_loBack.mono_l k;unfold spec_loBack.f
 repeat' (with_reducible first | exact ih0 _ _ _ _ _ _ | exact ih1 _ _ _ _ _ _ _ _ _ | exact ih2 _ _ _ _ _ _ _ _ _ _ | exact ih3 _ _ _ _ _ _ _ _ | exact ih4 _ _ _ _ _ _ _ _ _ | exact spec_l1Has.mono _ _ _ | exact LeO.refl _ | exact LeO.none _ | refine LeO.ite ?_ ?_ | refine LeO.bind ?_ (fun _=>?_))
theorem spec_loBack.calls (k:Nat) (A0:Option Addr) (c0:Nat) (l0:List Int) (a1:Int) (a2:Int) (r:List Int) (w:World) (hr0:Kd.C (Kd.int .i64) w A0 l0.length l0) (hc0:l0.length<=c0) (h:spec_loBack.f k l0 a1 a2 = some r) :
  Calls Tryz.prog 193 #[.slice A0 l0.length c0,.int .i64 a1,.int .i64 a2] w fun e w'=>∃ v0_:Value,e = .returned (v0_)/\Kd.R (Kd.int .i64) 3 w' w.heap.size (fun _=>True) v0_ r/\Below w.heap.size w w':=by
 have HR0:=am_ hr0;have HC0:=am_ hc0;clear hr0 hc0;have HB:=am_ (Below.refl w.heap.size w);unfold spec_loBack.f at h;have H:=h;clear h;have H':=am_ H;clear H;go_enter Tryz.func193,Tryz.ntmps193;go_wp2
 go_loopg [7,15] k (fun kq v7 v15 w'=>∃ (x7_1:List Int) (x15_1:Int),v15 = .int .i64 x15_1/\Aside0 (spec_loBack.l0 kq a1 a2 x7_1 l0 (l0.length:Int) x15_1 = some r)/\Aside0 (kq<=k)/\Aside0 (Kd.R (Kd.int .i64) 3 w' w.heap.size (fun _=>True) v7 x7_1)/\Aside0 (Below w.heap.size w w'))
 case atStart=>exact ⟨(([]:List Int)),(0),qc8f_,H',⟨Nat.le_refl _⟩,⟨qf62_⟩,⟨q0c4_⟩⟩
 case round =>
  clear H';obtain ⟨x7_1,x15_1,rfl,HA,HK1,HO_7,HB⟩:=hrel;cases gk with
  | zero=>exact n0_ HA.out
  | succ k1 =>
   have H:=HA.out;clear HA;simp only [spec_loBack.l0] at H;revert H;refine ie_ (fun c4b0 H=>?_) fun c4b0 H=>?_
   ·
    revert H;refine id_ fun c5b0 H=>?_;revert H;refine id_ fun c6b0 H=>?_;have H':=am_ H;clear H;obtain ⟨ad307,rfl,hx307_0,p307,q307⟩:=ri_ HR0.out x15_1
    (try (replace hx307_0:=(HB.out.cell (World.block_lt_of_cell? w _ hx307_0)).trans hx307_0))
    go_wp2
    go_loopg [10,11] k1 (fun kq v10 v11 w'=>∃ (x10_2:Int) (x11_2:Int),v10 = .int .i64 x10_2/\v11 = .int .i64 x11_2/\Aside0 (spec_loBack.l1 kq a1 a2 x7_1 (rd l0 x15_1) x10_2 x11_2 l0 (l0.length:Int) x15_1 = some r)/\Aside0 (kq<=k1)/\Aside0 (Kd.R (Kd.int .i64) 3 w' w.heap.size (fun _=>True) u7 x7_1)/\Aside0 (Below w.heap.size w w'))
    case atStart=>exact ⟨((-1)),(0),qc8f_,qc8f_,H',⟨Nat.le_refl _⟩,⟨q9d5_ HO_7.out⟩,⟨q0c4_⟩⟩
    case round =>
     clear H';obtain ⟨x10_2,x11_2,rfl,rfl,HA,HK2,HO_7,HB⟩:=hrel;cases gk with
     | zero=>exact n0_ HA.out
     | succ k2 =>
      have H:=HA.out;clear HA;simp only [spec_loBack.l1] at H;have HC7:=am_ H;clear H
      go_upto_region 7 with (fail)
      go_cut [31] (fun v31 wc=>∃ (kq:Nat) (x31_6:Bool),v31 = .bool x31_6/\Aside0 (spec_loBack.j2 kq a1 a2 x7_1 (rd l0 x15_1) x10_2 x11_2 l0 (l0.length:Int) x15_1 x31_6 = some r)/\Aside0 (kq<=k2)/\Aside0 (Kd.R (Kd.int .i64) 3 wc w.heap.size (fun _=>True) u7 x7_1)/\Aside0 (Below w.heap.size w wc))
      case first =>
       have H:=HC7.out;clear HC7;revert H;refine ie_ (fun c8b0 H=>?_) fun c8b0 H=>?_
       ·
        (first | rw [c8b0] | (simp only [i64_w,i32_w];rw [c8b0]) | skip)
        revert H;refine ie_ (fun c9b0 H=>?_) fun c9b0 H=>?_
        ·
         have H':=am_ H;clear H;go_wp2;go_meet
         case rel=>exact ⟨_,(decide (x10_2 < 0)),qc8f_,H',⟨q313_ HK1.out HK2.out⟩,⟨q9d5_ HO_7.out⟩,⟨q0c4_⟩⟩
        have H':=am_ H;clear H;go_wp2;go_meet
        case rel=>exact ⟨_,(false),qc8f_,H',⟨q313_ HK1.out HK2.out⟩,⟨q9d5_ HO_7.out⟩,⟨q0c4_⟩⟩
       (first | rw [c8b0] | (simp only [i64_w,i32_w];rw [c8b0]) | skip)
       have H':=am_ H;clear H;go_wp2;go_meet
       case rel=>exact ⟨_,(false),qc8f_,H',⟨q313_ HK1.out HK2.out⟩,⟨q9d5_ HO_7.out⟩,⟨q0c4_⟩⟩
      case rest =>
       clear HC7;obtain ⟨kq,x31_6,rfl,HA,HJ6,HO_7,HB⟩:=hcut;cases kq with
       | zero=>exact n0_ HA.out
       | succ kj6 =>
        have H:=HA.out;clear HA;simp only [spec_loBack.j2] at H;revert H;refine be_ (fun c10 H=>?_) fun c10 H=>?_
        ·
         subst c10;obtain ⟨t308,A11,H⟩:=ob_ H;revert H;refine be_ (fun c12 H=>?_) fun c12 H=>?_
         ·
          subst c12;have H':=am_ H;clear H;obtain ⟨Ao13,co13,eo13⟩:=Kd.R_slice HO_7.out;subst eo13;go_wp2_with (first | ((with_reducible refine gc_ 113 ?_);refine gl_ 38 Tryz.func113 #[.slice Ao13 x7_1.length co13,.int .i64 (wrap64 ((rd l0 x15_1) - x11_2))] ?_;(with_reducible refine (spec_l1Has.calls kj6 _ _ x7_1 (wrap64 ((rd l0 x15_1) - x11_2)) true _ ?s1 ?s2 A11.out).mono ?_);(case s1=>exact q5a8_ HO_7.out);(case s2=>exact (Kd.R_reads' HO_7.out).2.1);rintro e w' ⟨rfl,⟨nd,rfl⟩⟩;refine ⟨_,rfl,?_⟩));go_roundg kj6
          case measure=>have:=HK1.out;have:=HK2.out;have:=HJ6.out;omega
          case rel=>exact ⟨(x10_2),(wrap64 (x11_2 + 1)),qc8f_,qc8f_,H',⟨q0e9_ HK1.out HK2.out HJ6.out⟩,⟨q9d5_ HO_7.out⟩,⟨q0c4_⟩⟩
         subst c12;have H':=am_ H;clear H;obtain ⟨Ao14,co14,eo14⟩:=Kd.R_slice HO_7.out;subst eo14;go_wp2_with (first | ((with_reducible refine gc_ 113 ?_);refine gl_ 38 Tryz.func113 #[.slice Ao14 x7_1.length co14,.int .i64 (wrap64 ((rd l0 x15_1) - x11_2))] ?_;(with_reducible refine (spec_l1Has.calls kj6 _ _ x7_1 (wrap64 ((rd l0 x15_1) - x11_2)) false _ ?s1 ?s2 A11.out).mono ?_);(case s1=>exact q5a8_ HO_7.out);(case s2=>exact (Kd.R_reads' HO_7.out).2.1);rintro e w' ⟨rfl,⟨nd,rfl⟩⟩;refine ⟨_,rfl,?_⟩));go_roundg kj6
         case measure=>have:=HK1.out;have:=HK2.out;have:=HJ6.out;omega
         case rel=>exact ⟨(wrap64 ((rd l0 x15_1) - x11_2)),(wrap64 (x11_2 + 1)),qc8f_,qc8f_,H',⟨q0e9_ HK1.out HK2.out HJ6.out⟩,⟨q9d5_ HO_7.out⟩,⟨q0c4_⟩⟩
        subst c10;have H':=am_ H;clear H;go_wp2
        go_loopg [10,12] kj6 (fun kq v10 v12 w'=>∃ (x10_4:Int) (x12_4:Int),v10 = .int .i64 x10_4/\v12 = .int .i64 x12_4/\Aside0 (spec_loBack.l2 kq a1 a2 x7_1 x10_4 x12_4 l0 (l0.length:Int) x15_1 = some r)/\Aside0 (kq<=kj6)/\Aside0 (Kd.R (Kd.int .i64) 3 w' w.heap.size (fun _=>True) u7 x7_1)/\Aside0 (Below w.heap.size w w'))
        case atStart=>exact ⟨(x10_2),((rd l0 x15_1)),qc8f_,qc8f_,H',⟨Nat.le_refl _⟩,⟨q9d5_ HO_7.out⟩,⟨q0c4_⟩⟩
        case round =>
         clear H';obtain ⟨x10_4,x12_4,rfl,rfl,HA,HK4,HO_7,HB⟩:=hrel;cases gk with
         | zero=>exact n0_ HA.out
         | succ k4 =>
          have H:=HA.out;clear HA;simp only [spec_loBack.l2] at H;have HC15:=am_ H;clear H
          go_upto_region 12 with (fail)
          go_cut [50] (fun v50 wc=>∃ (kq:Nat) (x50_14:Bool),v50 = .bool x50_14/\Aside0 (spec_loBack.j4 kq a1 a2 x7_1 x10_4 x12_4 l0 (l0.length:Int) x15_1 x50_14 = some r)/\Aside0 (kq<=k4)/\Aside0 (Kd.R (Kd.int .i64) 3 wc w.heap.size (fun _=>True) u7 x7_1)/\Aside0 (Below w.heap.size w wc))
          case first =>
           have H:=HC15.out;clear HC15;revert H;refine ie_ (fun c16b0 H=>?_) fun c16b0 H=>?_
           ·
            (first | rw [c16b0] | (simp only [i64_w,i32_w];rw [c16b0]) | skip)
            have H':=am_ H;clear H;go_wp2;go_meet
            case rel=>exact ⟨_,(decide (x10_4 < 0)),qc8f_,H',⟨by have:=HK1.out;have:=HK2.out;have:=HJ6.out;have:=HK4.out;first | omega | exact Nat.le_refl _⟩,⟨q9d5_ HO_7.out⟩,⟨q0c4_⟩⟩
           (first | rw [c16b0] | (simp only [i64_w,i32_w];rw [c16b0]) | skip)
           have H':=am_ H;clear H;go_wp2;go_meet
           case rel=>exact ⟨_,(false),qc8f_,H',⟨by have:=HK1.out;have:=HK2.out;have:=HJ6.out;have:=HK4.out;first | omega | exact Nat.le_refl _⟩,⟨q9d5_ HO_7.out⟩,⟨q0c4_⟩⟩
          case rest =>
           clear HC15;obtain ⟨kq,x50_14,rfl,HA,HJ14,HO_7,HB⟩:=hcut;cases kq with
           | zero=>exact n0_ HA.out
           | succ kj14 =>
            have H:=HA.out;clear HA;simp only [spec_loBack.j4] at H;revert H;refine be_ (fun c17 H=>?_) fun c17 H=>?_
            ·
             subst c17;obtain ⟨t309,A18,H⟩:=ob_ H;revert H;refine be_ (fun c19 H=>?_) fun c19 H=>?_
             ·
              subst c19;have H':=am_ H;clear H;obtain ⟨Ao20,co20,eo20⟩:=Kd.R_slice HO_7.out;subst eo20;go_wp2_with (first | ((with_reducible refine gc_ 113 ?_);refine gl_ 55 Tryz.func113 #[.slice Ao20 x7_1.length co20,.int .i64 x12_4] ?_;(with_reducible refine (spec_l1Has.calls kj14 _ _ x7_1 x12_4 true _ ?s1 ?s2 A18.out).mono ?_);(case s1=>exact q5a8_ HO_7.out);(case s2=>exact (Kd.R_reads' HO_7.out).2.1);rintro e w' ⟨rfl,⟨nd,rfl⟩⟩;refine ⟨_,rfl,?_⟩));go_roundg kj14
              case measure=>have:=HK1.out;have:=HK2.out;have:=HJ6.out;have:=HK4.out;have:=HJ14.out;omega
              case rel=>exact ⟨(x10_4),(wrap64 (x12_4 + 1)),qc8f_,qc8f_,H',⟨by have:=HK1.out;have:=HK2.out;have:=HJ6.out;have:=HK4.out;have:=HJ14.out;omega⟩,⟨q9d5_ HO_7.out⟩,⟨q0c4_⟩⟩
             subst c19;have H':=am_ H;clear H;obtain ⟨Ao21,co21,eo21⟩:=Kd.R_slice HO_7.out;subst eo21;go_wp2_with (first | ((with_reducible refine gc_ 113 ?_);refine gl_ 55 Tryz.func113 #[.slice Ao21 x7_1.length co21,.int .i64 x12_4] ?_;(with_reducible refine (spec_l1Has.calls kj14 _ _ x7_1 x12_4 false _ ?s1 ?s2 A18.out).mono ?_);(case s1=>exact q5a8_ HO_7.out);(case s2=>exact (Kd.R_reads' HO_7.out).2.1);rintro e w' ⟨rfl,⟨nd,rfl⟩⟩;refine ⟨_,rfl,?_⟩));go_roundg kj14
             case measure=>have:=HK1.out;have:=HK2.out;have:=HJ6.out;have:=HK4.out;have:=HJ14.out;omega
             case rel=>exact ⟨(x12_4),(wrap64 (x12_4 + 1)),qc8f_,qc8f_,H',⟨by have:=HK1.out;have:=HK2.out;have:=HJ6.out;have:=HK4.out;have:=HJ14.out;omega⟩,⟨q9d5_ HO_7.out⟩,⟨q0c4_⟩⟩
            subst c17;revert H;refine it_ fun c22 H=>?_;have LMc22:=am_ c22;clear c22;obtain ⟨y310,hy310⟩:=gn_ ((x7_1 ++ [x10_4]):List Int);replace H:(spec_loBack.l0 kj14 a1 a2 y310 l0 (l0.length:Int) (wrap64 (x15_1 + 1))) = some r:=rl_ hy310 H;have Ny310:=am_ hy310;clear hy310;have H':=am_ H;clear H;go_wp2_with (first | ((with_reducible refine gate_builtin (b:=.append) (xs:=#[.tmp 58,.tmp 60]) rfl ?_);at_builtin;refine aI_ (w0:=w) (.tmp 58) (.tmp 60) u7 x7_1 x10_4 (fun _=>True) (fun _ _=>trivial) (q9d5_ HO_7.out) q0c4_ (by exact q1d0_ LMc22.out) ?_;intro v311 w23 ho hb hg hat;rw [<- Ny310.out] at ho;replace HB:=am_ (hb);have HO312:=am_ (ho);clear ho hb hg hat));go_roundg kj14
            case measure=>have:=HK1.out;have:=HK2.out;have:=HJ6.out;have:=HK4.out;have:=HJ14.out;omega
            case rel=>exact ⟨(y310),(wrap64 (x15_1 + 1)),qc8f_,H',⟨by have:=HK1.out;have:=HK2.out;have:=HJ6.out;have:=HK4.out;have:=HJ14.out;omega⟩,⟨q9d5_ HO312.out⟩,⟨q0c4_⟩⟩
   obtain rfl:=Option.some.inj H;go_wp2;go_ret;exact ⟨_,qce7_,q9d5_ HO_7.out,q0c4_⟩
mutual
def spec_CountBack.j0:Nat->Int->Int->Bool->Option (Int × Bool)
 | 0,_,_,_=>none
 | k + 1,x0,x1,x16=>if x16 = true then (some (0,false)) else ((spec_loAll.f k ([]:List Int) x0).bind fun t315=>(spec_CountBack.l0 k x0 x1 0 t315 (t315.length:Int) 0))
def spec_CountBack.l0:Nat->Int->Int->Int->List (List Int)->Int->Int->Option (Int × Bool)
 | 0,_,_,_,_,_,_=>none
 | k + 1,x0,x1,x6,x18,x19,x20=>if x20 < x19 then (if 0<=x20 then (if x20 < (x18.length:Int) then ((spec_loBack.f k (rd_L3 x18 x20) x0 x1).bind fun t319=>((spec_l1Has.f k t319 (-1)).bind fun t322=>(if t322 = true then (spec_CountBack.l0 k x0 x1 x6 x18 x19 (wrap64 (x20 + 1))) else (spec_CountBack.l0 k x0 x1 (wrap64 (x6 + 1)) x18 x19 (wrap64 (x20 + 1)))))) else (none)) else (none)) else (some (x6,true))
end
def spec_CountBack.f (k:Nat) (a0:Int) (a1:Int):Option (Int × Bool):=(spec_l1In.f a0 1 5).bind fun t313=>(if t313 = true then ((spec_loBacks.f a1).bind fun t314=>(spec_CountBack.j0 k a0 a1 (!t314))) else (spec_CountBack.j0 k a0 a1 true))
theorem spec_CountBack.mono_l:∀ k,(∀ y0 y1 y2,LeO (spec_CountBack.j0 k y0 y1 y2) (spec_CountBack.j0 (k + 1) y0 y1 y2))/\(∀ y0 y1 y2 y3 y4 y5,LeO (spec_CountBack.l0 k y0 y1 y2 y3 y4 y5) (spec_CountBack.l0 (k + 1) y0 y1 y2 y3 y4 y5))
 | 0=>⟨fun _ _ _ r h=>by simp [spec_CountBack.j0] at h,fun _ _ _ _ _ _ r h=>by simp [spec_CountBack.l0] at h⟩
 | k + 1=>by
  obtain ⟨ih0,ih1⟩:=spec_CountBack.mono_l k;refine ⟨?_,?_⟩
  ·
   intro y0 y1 y2;unfold spec_CountBack.j0
   repeat' (with_reducible first | exact ih0 _ _ _ | exact ih1 _ _ _ _ _ _ | exact spec_l1Has.mono _ _ _ | exact spec_loAll.mono _ _ _ | exact spec_loBack.mono _ _ _ _ | exact LeO.refl _ | exact LeO.none _ | refine LeO.ite ?_ ?_ | refine LeO.bind ?_ (fun _=>?_))
  ·
   intro y0 y1 y2 y3 y4 y5;unfold spec_CountBack.l0
   repeat' (with_reducible first | exact ih0 _ _ _ | exact ih1 _ _ _ _ _ _ | exact spec_l1Has.mono _ _ _ | exact spec_loAll.mono _ _ _ | exact spec_loBack.mono _ _ _ _ | exact LeO.refl _ | exact LeO.none _ | refine LeO.ite ?_ ?_ | refine LeO.bind ?_ (fun _=>?_))
theorem spec_CountBack.mono:∀ a0 a1 k,LeO (spec_CountBack.f k a0 a1) (spec_CountBack.f (k + 1) a0 a1):=by
 intro a0 a1 k;obtain ⟨ih0,ih1⟩:=spec_CountBack.mono_l k;unfold spec_CountBack.f
 repeat' (with_reducible first | exact ih0 _ _ _ | exact ih1 _ _ _ _ _ _ | exact spec_l1Has.mono _ _ _ | exact spec_loAll.mono _ _ _ | exact spec_loBack.mono _ _ _ _ | exact LeO.refl _ | exact LeO.none _ | refine LeO.ite ?_ ?_ | refine LeO.bind ?_ (fun _=>?_))
theorem spec_CountBack.calls (k:Nat) (a0:Int) (a1:Int) (r1:Int) (r2:Bool) (w:World) (h:spec_CountBack.f k a0 a1 = some (r1,r2)) :
  Calls Tryz.prog 134 #[.int .i64 a0,.int .i64 a1] w fun e w'=>e = .returned (.tuple #[.int .i64 r1,.bool r2])/\Below w.heap.size w w':=by
 have HB:=am_ (Below.refl w.heap.size w);unfold spec_CountBack.f at h;have H:=h;clear h;have HC3:=am_ H;clear H;go_enter Tryz.func134,Tryz.ntmps134
 go_upto_region 1 with (fail)
 go_cut [16] (fun v16 wc=>∃ (kq:Nat) (x16_2:Bool),v16 = .bool x16_2/\Aside0 (spec_CountBack.j0 kq a0 a1 x16_2 = some (r1,r2))/\Aside0 (kq<=k)/\Aside0 (Below w.heap.size w wc))
 case first =>
  have H:=HC3.out;clear HC3;obtain ⟨t313,A4,H⟩:=ob_ H;revert H;refine be_ (fun c5 H=>?_) fun c5 H=>?_
  ·
   subst c5;obtain ⟨t314,A6,H⟩:=ob_ H;have H':=am_ H;clear H;go_wp2_with (first | ((with_reducible refine gc_ 112 ?_);refine gl_ 10 Tryz.func112 #[.int .i64 a0,.int .i64 1,.int .i64 5] ?_;(with_reducible refine (spec_l1In.calls a0 1 5 true _ A4.out).mono ?_);rintro e w' ⟨rfl,⟨nd,rfl⟩⟩;refine ⟨_,rfl,?_⟩) | (go_at_call 191;(with_reducible refine (spec_loBacks.calls a1 t314 _ A6.out).mono ?_);rintro e w' ⟨rfl,⟨nd,rfl⟩⟩));go_meet
   case rel=>exact ⟨_,(!t314),qc8f_,H',⟨q821_⟩,⟨q0c4_⟩⟩
  subst c5;have H':=am_ H;clear H;go_wp2_with (first | ((with_reducible refine gc_ 112 ?_);refine gl_ 10 Tryz.func112 #[.int .i64 a0,.int .i64 1,.int .i64 5] ?_;(with_reducible refine (spec_l1In.calls a0 1 5 false _ A4.out).mono ?_);rintro e w' ⟨rfl,⟨nd,rfl⟩⟩;refine ⟨_,rfl,?_⟩));go_meet
  case rel=>exact ⟨_,(true),qc8f_,H',⟨q821_⟩,⟨q0c4_⟩⟩
 case rest =>
  clear HC3;obtain ⟨kq,x16_2,rfl,HA,HJ2,HB⟩:=hcut;cases kq with
  | zero=>exact n0_ HA.out
  | succ kj2 =>
   have H:=HA.out;clear HA;simp only [spec_CountBack.j0] at H;revert H;refine be_ (fun c7 H=>?_) fun c7 H=>?_
   ·
    subst c7;obtain ⟨rfl,rfl⟩:=sp_ H;go_wp2;go_ret2;exact ⟨qce7_,q0c4_⟩
   subst c7;obtain ⟨t315,A8,H⟩:=ob_ H;have H':=am_ H;clear H;go_wp2_with (first | ((with_reducible refine gc_ 192 ?_);refine gl_ 18 Tryz.func192 #[.slice none 0 0,.int .i64 a0] ?_;(refine (spec_loAll.calls kj2 _ _ ([]:List Int) a0 t315 _ ?s1 ?s2 A8.out).mono ?_);(case s1=>exact Kd.C_nil _ _);(case s2=>exact Nat.le_refl _);rintro e w9 ⟨v316,rfl,ho0,hb⟩;refine ⟨_,rfl,?_⟩;have HO317:=am_ (Kd.N_lower (Kd.N_mono (ok':=fun k_=>True) ho0 (fun k_ hk_=>trivial)) (below_size q0c4_));replace HB:=am_ (below_step q0c4_ hb);clear hb ho0;obtain ⟨Ao10,co10,eo10⟩:=Kd.N_slice HO317.out;subst eo10))
   go_loopg [6,20] kj2 (fun kq v6 v20 w'=>∃ (x6_2:Int) (x20_2:Int),v6 = .int .i64 x6_2/\v20 = .int .i64 x20_2/\Aside0 (spec_CountBack.l0 kq a0 a1 x6_2 t315 (t315.length:Int) x20_2 = some (r1,r2))/\Aside0 (kq<=kj2)/\Aside0 (Kd.N (Kd.slice 3 (Kd.int .i64)) 22 w' w.heap.size (fun _=>True) (.slice Ao10 t315.length co10) t315)/\Aside0 (Below w.heap.size w w'))
   case atStart=>exact ⟨(0),(0),qc8f_,qc8f_,H',⟨Nat.le_refl _⟩,⟨qba9_ HO317.out⟩,⟨q0c4_⟩⟩
   case round =>
    clear H';obtain ⟨x6_2,x20_2,rfl,rfl,HA,HK2,HO_18,HB⟩:=hrel;cases gk with
    | zero=>exact n0_ HA.out
    | succ k2 =>
     have H:=HA.out;clear HA;simp only [spec_CountBack.l0] at H;revert H;refine ie_ (fun c11b0 H=>?_) fun c11b0 H=>?_
     ·
      revert H;refine id_ fun c12b0 H=>?_;revert H;refine id_ fun c13b0 H=>?_;obtain ⟨t319,A14,H⟩:=ob_ H;obtain ⟨t322,A15,H⟩:=ob_ H;revert H;refine be_ (fun c16 H=>?_) fun c16 H=>?_
      ·
       subst c16;have H':=am_ H;clear H;have p318:0<=(x20_2:Int):=of_decide_eq_true qe84_;have q318:x20_2 < (t315.length:Int):=of_decide_eq_true qe84_;obtain ⟨ad318,A318_0,c318_0,e318,hx318_0,hl318_0,hi318_0⟩:=at_L3 (Kd.N_reads' HO_18.out).2.2 x20_2 p318 q318;cases e318;obtain ⟨ce318,hce318,hMe318,hcc318⟩:=Kd.N_get HO_18.out [] x20_2 p318 (by first | exact q318 | exact of_decide_eq_true qe84_ | (have e_:=(Kd.N_reads' HO_18.out).1;omega));obtain ⟨ua318_0,uc318_0,rfl,ul318_0,ge318_0⟩:=Kd.FK_slice_open hMe318;have hv318_0:=hcc318 0 _ rfl;rw [Nat.add_zero,show ((Kd.slice 3 (Kd.int .i64))).sz = 1 from rfl,Nat.mul_one] at hv318_0;replace hv318_0:=Option.some.inj (hv318_0.symm.trans hx318_0)
       injection hv318_0 with hva_ hvn_ hvc_
       rw [hva_] at ge318_0;rw [hvc_] at ul318_0;have HL318_0:=am_ (show Kd.V (Kd.int .i64) 3 _ w.heap.size _ _ (rd_L3 t315 x20_2) from Kd.V_mk ul318_0 ge318_0);clear hva_ hvn_ hvc_ ge318_0 ul318_0 hcc318 hce318;have HR318_0:=am_ hi318_0;have HC318_0:=am_ hl318_0;clear hi318_0 hl318_0;replace p318:=eq_true p318;replace q318:=eq_true q318;go_wp2_with (first | ((with_reducible refine gc_ 193 ?_);refine gl_ 27 Tryz.func193 #[.slice A318_0 (rd_L3 t315 x20_2).length c318_0,.int .i64 a0,.int .i64 a1] ?_;(with_reducible refine (spec_loBack.calls k2 _ _ (rd_L3 t315 x20_2) a0 a1 t319 _ ?s1 ?s2 A14.out).mono ?_);(case s1=>exact qe8c_ HR318_0.out);(case s2=>exact HC318_0.out);rintro e w17 ⟨v320,rfl,ho0,hb⟩;refine ⟨_,rfl,?_⟩;replace HO_18:=am_ (Kd.N_elder' (qba9_ HO_18.out) (Kd.R_base ho0) hb);replace HL318_0:=am_ (Kd.V_elder' (by (with_reducible repeat (first | apply Kd.V_alloc | apply Kd.V_drewN | apply Kd.V_drew));exact HL318_0.out) (Kd.R_base ho0) hb);have HO321:=am_ (Kd.R_lower ho0 (below_size q0c4_));replace HR318_0:=am_ (Kd.C_below (q75a_ HR318_0.out) hb);replace HB:=am_ (below_step q0c4_ hb);clear hb ho0;obtain ⟨Ao18,co18,eo18⟩:=Kd.R_slice HO321.out;subst eo18) | ((with_reducible refine gc_ 113 ?_);refine gl_ 28 Tryz.func113 #[.slice Ao18 t319.length co18,.int .i64 (-1)] ?_;(with_reducible refine (spec_l1Has.calls k2 _ _ t319 (-1) true _ ?s1 ?s2 A15.out).mono ?_);(case s1=>exact q5a8_ HO321.out);(case s2=>exact (Kd.R_reads' HO321.out).2.1);rintro e w' ⟨rfl,⟨nd,rfl⟩⟩;refine ⟨_,rfl,?_⟩));go_roundg k2
       case measure=>have:=HJ2.out;have:=HK2.out;omega
       case rel=>exact ⟨(x6_2),(wrap64 (x20_2 + 1)),qc8f_,qc8f_,H',⟨q37b_ HJ2.out HK2.out⟩,⟨by (with_reducible repeat (first | apply Kd.N_alloc | apply Kd.N_drewN | apply Kd.N_drew));exact Kd.N_mono HO_18.out (fun _ hk=>trivial)⟩,⟨q0c4_⟩⟩
      subst c16;have H':=am_ H;clear H;have p318:0<=(x20_2:Int):=of_decide_eq_true qe84_;have q318:x20_2 < (t315.length:Int):=of_decide_eq_true qe84_;obtain ⟨ad318,A318_0,c318_0,e318,hx318_0,hl318_0,hi318_0⟩:=at_L3 (Kd.N_reads' HO_18.out).2.2 x20_2 p318 q318;cases e318;obtain ⟨ce318,hce318,hMe318,hcc318⟩:=Kd.N_get HO_18.out [] x20_2 p318 (by first | exact q318 | exact of_decide_eq_true qe84_ | (have e_:=(Kd.N_reads' HO_18.out).1;omega));obtain ⟨ua318_0,uc318_0,rfl,ul318_0,ge318_0⟩:=Kd.FK_slice_open hMe318;have hv318_0:=hcc318 0 _ rfl;rw [Nat.add_zero,show ((Kd.slice 3 (Kd.int .i64))).sz = 1 from rfl,Nat.mul_one] at hv318_0;replace hv318_0:=Option.some.inj (hv318_0.symm.trans hx318_0)
      injection hv318_0 with hva_ hvn_ hvc_
      rw [hva_] at ge318_0;rw [hvc_] at ul318_0;have HL318_0:=am_ (show Kd.V (Kd.int .i64) 3 _ w.heap.size _ _ (rd_L3 t315 x20_2) from Kd.V_mk ul318_0 ge318_0);clear hva_ hvn_ hvc_ ge318_0 ul318_0 hcc318 hce318;have HR318_0:=am_ hi318_0;have HC318_0:=am_ hl318_0;clear hi318_0 hl318_0;replace p318:=eq_true p318;replace q318:=eq_true q318;go_wp2_with (first | ((with_reducible refine gc_ 193 ?_);refine gl_ 27 Tryz.func193 #[.slice A318_0 (rd_L3 t315 x20_2).length c318_0,.int .i64 a0,.int .i64 a1] ?_;(with_reducible refine (spec_loBack.calls k2 _ _ (rd_L3 t315 x20_2) a0 a1 t319 _ ?s1 ?s2 A14.out).mono ?_);(case s1=>exact qe8c_ HR318_0.out);(case s2=>exact HC318_0.out);rintro e w19 ⟨v320,rfl,ho0,hb⟩;refine ⟨_,rfl,?_⟩;replace HO_18:=am_ (Kd.N_elder' (qba9_ HO_18.out) (Kd.R_base ho0) hb);replace HL318_0:=am_ (Kd.V_elder' (by (with_reducible repeat (first | apply Kd.V_alloc | apply Kd.V_drewN | apply Kd.V_drew));exact HL318_0.out) (Kd.R_base ho0) hb);have HO321:=am_ (Kd.R_lower ho0 (below_size q0c4_));replace HR318_0:=am_ (Kd.C_below (q75a_ HR318_0.out) hb);replace HB:=am_ (below_step q0c4_ hb);clear hb ho0;obtain ⟨Ao20,co20,eo20⟩:=Kd.R_slice HO321.out;subst eo20) | ((with_reducible refine gc_ 113 ?_);refine gl_ 28 Tryz.func113 #[.slice Ao20 t319.length co20,.int .i64 (-1)] ?_;(with_reducible refine (spec_l1Has.calls k2 _ _ t319 (-1) false _ ?s1 ?s2 A15.out).mono ?_);(case s1=>exact q5a8_ HO321.out);(case s2=>exact (Kd.R_reads' HO321.out).2.1);rintro e w' ⟨rfl,⟨nd,rfl⟩⟩;refine ⟨_,rfl,?_⟩));go_roundg k2
      case measure=>have:=HJ2.out;have:=HK2.out;omega
      case rel=>exact ⟨(wrap64 (x6_2 + 1)),(wrap64 (x20_2 + 1)),qc8f_,qc8f_,H',⟨q37b_ HJ2.out HK2.out⟩,⟨by (with_reducible repeat (first | apply Kd.N_alloc | apply Kd.N_drewN | apply Kd.N_drew));exact Kd.N_mono HO_18.out (fun _ hk=>trivial)⟩,⟨q0c4_⟩⟩
     obtain ⟨rfl,rfl⟩:=sp_ H;go_wp2;go_ret2;exact ⟨qce7_,q0c4_⟩
def spec_paSum.l0:Nat->Int->List Int->Int->Int->Option (Int)
 | 0,_,_,_,_=>none
 | k + 1,x3,x6,x7,x8=>if x8 < x7 then (if 0<=x8 then (if x8 < (x6.length:Int) then (spec_paSum.l0 k (wrap64 (x3 + (rd x6 x8))) x6 x7 (wrap64 (x8 + 1))) else (none)) else (none)) else (some x3)
def spec_paSum.f (k:Nat) (l0:List Int):Option (Int):=spec_paSum.l0 k 0 l0 (l0.length:Int) 0
theorem spec_paSum.calls (k:Nat) (A0:Option Addr) (c0:Nat) (l0:List Int) (r:Int) (w:World) (hr0:Kd.C (Kd.int .i64) w A0 l0.length l0) (hc0:l0.length<=c0) (h:spec_paSum.f k l0 = some r) :
  Calls Tryz.prog 194 #[.slice A0 l0.length c0] w fun e w'=>e = .returned (.int .i64 r)/\Drawn0 w w':=by
 have HR0:=am_ hr0;have HC0:=am_ hc0;clear hr0 hc0;unfold spec_paSum.f at h;have H:=h;clear h;have H':=am_ H;clear H;go_enter Tryz.func194,Tryz.ntmps194;go_wp2
 go_loopg [3,8] k (fun kq v3 v8 w'=>∃ (x3_1:Int) (x8_1:Int),v3 = .int .i64 x3_1/\v8 = .int .i64 x8_1/\Aside0 (spec_paSum.l0 kq x3_1 l0 (l0.length:Int) x8_1 = some r)/\Aside0 (kq<=k)/\Drawn0 w w')
 case atStart=>exact ⟨(0),(0),qc8f_,qc8f_,H',⟨Nat.le_refl _⟩,qffa_⟩
 case round =>
  clear H';obtain ⟨x3_1,x8_1,rfl,rfl,HA,HK1,⟨m1,rfl⟩⟩:=hrel;cases gk with
  | zero=>exact n0_ HA.out
  | succ k1 =>
   have H:=HA.out;clear HA;simp only [spec_paSum.l0] at H;revert H;refine ie_ (fun c2b0 H=>?_) fun c2b0 H=>?_
   ·
    revert H;refine id_ fun c3b0 H=>?_;revert H;refine id_ fun c4b0 H=>?_;have H':=am_ H;clear H;obtain ⟨ad323,rfl,hx323_0,p323,q323⟩:=ri_ HR0.out x8_1;go_wp2;go_roundg k1
    case measure=>have:=HK1.out;omega
    case rel=>exact ⟨(wrap64 (x3_1 + (rd l0 x8_1))),(wrap64 (x8_1 + 1)),qc8f_,qc8f_,H',⟨q1d0_ HK1.out⟩,qffa_⟩
   obtain rfl:=Option.some.inj H;go_wp2;go_ret;exact ⟨qc8f_,qffa_⟩
def spec_prCosts.l0:Nat->List Int->List Int->Int->Int->List Int->Option (List Int)
 | 0,_,_,_,_,_=>none
 | k + 1,x3,x7,x8,x9,x325000=>if x9 < x8 then (if 0<=x9 then (if x9 < (x7.length:Int) then (if (rd x7 x9) = (-1) then (spec_prCosts.l0 k x3 x7 x8 (wrap64 (x9 + 1)) x325000) else ((spec_prCost.f (rd x7 x9) x9 (x325000.length:Int)).bind fun t326=>(if x3.length < 17592186044416 then (spec_prCosts.l0 k (x3 ++ [t326]) x7 x8 (wrap64 (x9 + 1)) x325000) else (none)))) else (none)) else (none)) else (some x3)
def spec_prCosts.f (k:Nat) (l0_0:List Int):Option (List Int):=spec_prCosts.l0 k ([]:List Int) l0_0 (l0_0.length:Int) 0 l0_0
theorem spec_prCosts.calls (k:Nat) (A0_0:Option Addr) (c0_0:Nat) (l0_0:List Int) (r:List Int) (w:World) (hr0_0:Kd.C (Kd.int .i64) w A0_0 l0_0.length l0_0) (hc0_0:l0_0.length<=c0_0) (h:spec_prCosts.f k l0_0 = some r) :
  Calls Tryz.prog 195 #[.agg #[.slice A0_0 l0_0.length c0_0]] w fun e w'=>∃ v0_:Value,e = .returned (v0_)/\Kd.R (Kd.int .i64) 3 w' w.heap.size (fun _=>True) v0_ r/\Below w.heap.size w w':=by
 have hu34:=Tryz.underlying34;have HR0_0:=am_ hr0_0;have HC0_0:=am_ hc0_0;clear hr0_0 hc0_0;have HB:=am_ (Below.refl w.heap.size w);unfold spec_prCosts.f at h;have H:=h;clear h;have H':=am_ H;clear H;go_enter Tryz.func195,Tryz.ntmps195;go_wp2_with (first | ((with_reducible refine gd_ 1 ?_);refine bx_ #[.slice A0_0 l0_0.length c0_0] 34 ?_;intro gb324 hg w2 hbox hb;have BK324:=am_ (hbox);have GW324:=am_ ((by rw [hg];exact (below_size q0c4_):w.heap.size<=gb324));have GE324:=am_ ((by rw [hg];exact (below_size q0c4_):w.heap.size<=gb324));replace HB:=am_ (below_step q0c4_ hb);clear hb hbox hg;have hcz3_0:w2.cell? ⟨gb324,0,none⟩ = some (.slice A0_0 l0_0.length c0_0):=(blk_cell BK324.out 0).trans rfl;have hfz3_0:=blk_frozen BK324.out 0))
 go_loopg [3,9] k (fun kq v3 v9 w'=>∃ (x3_1:List Int) (x9_1:Int),v9 = .int .i64 x9_1/\Aside0 (spec_prCosts.l0 kq x3_1 l0_0 (l0_0.length:Int) x9_1 l0_0 = some r)/\Aside0 (kq<=k)/\Aside0 (Kd.R (Kd.int .i64) 3 w' w.heap.size (fun _=>True) v3 x3_1)/\Aside0 (w'.heap[gb324]? = some (.cells #[(.slice A0_0 l0_0.length c0_0)] 34 (0,0)))/\Aside0 (Below w.heap.size w w'))
 case atStart=>exact ⟨(([]:List Int)),(0),qc8f_,H',⟨Nat.le_refl _⟩,⟨qf62_⟩,⟨q66c_ BK324.out⟩,⟨qfcd_ GE324.out⟩⟩
 case round =>
  clear H';obtain ⟨x3_1,x9_1,rfl,HA,HK1,HO_3,BK324,HB⟩:=hrel;cases gk with
  | zero=>exact n0_ HA.out
  | succ k1 =>
   have H:=HA.out;clear HA;simp only [spec_prCosts.l0] at H;revert H;refine ie_ (fun c4b0 H=>?_) fun c4b0 H=>?_
   ·
    revert H;refine id_ fun c5b0 H=>?_;revert H;refine id_ fun c6b0 H=>?_;revert H;refine ee_ (fun c7b0 c7b1 H=>?_) fun c7 c7b0 c7b1 H=>?_
    ·
     have H':=am_ H;clear H;obtain ⟨ad325,rfl,hx325_0,p325,q325⟩:=ri_ HR0_0.out x9_1
     (try (replace hx325_0:=(HB.out.cell (World.block_lt_of_cell? w _ hx325_0)).trans hx325_0))
     go_wp2;go_roundg k1
     case measure=>have:=HK1.out;omega
     case rel=>exact ⟨(x3_1),(wrap64 (x9_1 + 1)),qc8f_,H',⟨q1d0_ HK1.out⟩,⟨q9d5_ HO_3.out⟩,⟨q66c_ BK324.out⟩,⟨qfcd_ GE324.out⟩⟩
    obtain ⟨t326,A8,H⟩:=ob_ H;revert H;refine it_ fun c9 H=>?_;have LMc9:=am_ c9;clear c9;obtain ⟨y327,hy327⟩:=gn_ ((x3_1 ++ [t326]):List Int);replace H:(spec_prCosts.l0 k1 y327 l0_0 (l0_0.length:Int) (wrap64 (x9_1 + 1)) l0_0) = some r:=rl_ hy327 H;have Ny327:=am_ hy327;clear hy327;have H':=am_ H;clear H;obtain ⟨ad325,rfl,hx325_0,p325,q325⟩:=ri_ HR0_0.out x9_1
    (try (replace hx325_0:=(HB.out.cell (World.block_lt_of_cell? w _ hx325_0)).trans hx325_0))
    have hcz10_0:wr.cell? ⟨gb324,0,none⟩ = some (.slice (some ad325) l0_0.length c0_0):=(blk_cell BK324.out 0).trans rfl;have hfz10_0:=blk_frozen BK324.out 0;go_wp2_with (first | ((with_reducible refine gc_ 114 ?_);refine gl_ 22 Tryz.func114 #[.int .i64 (rd l0_0 x9_1),.int .i64 x9_1,.int .i64 (l0_0.length:Int)] ?_;(with_reducible refine (spec_prCost.calls (rd l0_0 x9_1) x9_1 (l0_0.length:Int) t326 _ A8.out).mono ?_);rintro e w' ⟨rfl,⟨nd,rfl⟩⟩;refine ⟨_,rfl,?_⟩) | ((with_reducible refine gate_builtin (b:=.append) (xs:=#[.tmp 16,.tmp 23]) rfl ?_);at_builtin;refine aI_ (w0:=w) (.tmp 16) (.tmp 23) u3 x3_1 t326 (fun _=>True) (fun _ _=>trivial) (q9d5_ HO_3.out) (qfcd_ GE324.out) (by exact q1d0_ LMc9.out) ?_;intro v328 w11 ho hb hg hat;rw [<- Ny327.out] at ho;replace BK324:=am_ (blk_grown (g:=gb324) (o:=.cells #[.slice (some ad325) l0_0.length c0_0] 34 (0,0)) (q66c_ BK324.out) hg (Kd.R_ne HO_3.out BK324.out (by decide)));replace HB:=am_ (hb);have HO329:=am_ (ho);clear ho hb hg hat));go_roundg k1
    case measure=>have:=HK1.out;omega
    case rel=>exact ⟨(y327),(wrap64 (x9_1 + 1)),qc8f_,H',⟨q1d0_ HK1.out⟩,⟨q9d5_ HO329.out⟩,⟨q66c_ BK324.out⟩,⟨qfcd_ GE324.out⟩⟩
   obtain rfl:=Option.some.inj H;go_wp2;go_ret;exact ⟨_,qce7_,q9d5_ HO_3.out,qfcd_ GE324.out⟩
def spec_CostOf.f (k:Nat) (l0_0:List Int):Option (Int × Bool):=(spec_prGood.f k l0_0).bind fun t331=>(if t331 = true then ((spec_prCosts.f k l0_0).bind fun t332=>((spec_paSum.f k t332).bind fun t335=>(some (t335,true)))) else (some (0,false)))
theorem spec_CostOf.calls (k:Nat) (A0_0:Option Addr) (c0_0:Nat) (l0_0:List Int) (r1:Int) (r2:Bool) (w:World) (hr0_0:Kd.C (Kd.int .i64) w A0_0 l0_0.length l0_0) (hc0_0:l0_0.length<=c0_0) (h:spec_CostOf.f k l0_0 = some (r1,r2)) :
  Calls Tryz.prog 136 #[.agg #[.slice A0_0 l0_0.length c0_0]] w fun e w'=>e = .returned (.tuple #[.int .i64 r1,.bool r2])/\Below w.heap.size w w':=by
 have hu34:=Tryz.underlying34;have HR0_0:=am_ hr0_0;have HC0_0:=am_ hc0_0;clear hr0_0 hc0_0;have HB:=am_ (Below.refl w.heap.size w);unfold spec_CostOf.f at h;have H:=h;clear h;obtain ⟨t331,A2,H⟩:=ob_ H;revert H;refine be_ (fun c3 H=>?_) fun c3 H=>?_
 ·
  subst c3;obtain ⟨t332,A4,H⟩:=ob_ H;obtain ⟨t335,A5,H⟩:=ob_ H;obtain ⟨rfl,rfl⟩:=sp_ H;go_enter Tryz.func136,Tryz.ntmps136;go_wp2_with (first | ((with_reducible refine gd_ 1 ?_);refine bx_ #[.slice A0_0 l0_0.length c0_0] 34 ?_;intro gb330 hg w6 hbox hb;have BK330:=am_ (hbox);have GW330:=am_ ((by rw [hg];exact (below_size q0c4_):w.heap.size<=gb330));have GE330:=am_ ((by rw [hg];exact (below_size q0c4_):w.heap.size<=gb330));replace HB:=am_ (below_step q0c4_ hb);clear hb hbox hg;have hcz7_0:w6.cell? ⟨gb330,0,none⟩ = some (.slice A0_0 l0_0.length c0_0):=(blk_cell BK330.out 0).trans rfl;have hfz7_0:=blk_frozen BK330.out 0) | ((with_reducible refine gc_ 72 ?_);refine gl_ 5 Tryz.func72 #[.agg #[.slice A0_0 l0_0.length c0_0]] ?_;(with_reducible refine (spec_prGood.calls k _ _ l0_0 true _ ?s1 ?s2 A2.out).mono ?_);(case s1=>exact qe02_ HR0_0.out);(case s2=>exact HC0_0.out);rintro e w8 ⟨rfl,hb⟩;refine ⟨_,rfl,?_⟩;replace BK330:=am_ (blk_below (g:=gb330) (o:=.cells #[.slice A0_0 l0_0.length c0_0] 34 (0,0)) (q66c_ BK330.out) hb);replace HB:=am_ (below_step (qfcd_ GE330.out) hb);clear hb;have hcz9_0:w8.cell? ⟨gb330,0,none⟩ = some (.slice A0_0 l0_0.length c0_0):=(blk_cell BK330.out 0).trans rfl;have hfz9_0:=blk_frozen BK330.out 0) | ((with_reducible refine gc_ 195 ?_);refine gl_ 8 Tryz.func195 #[.agg #[.slice A0_0 l0_0.length c0_0]] ?_;(with_reducible refine (spec_prCosts.calls k _ _ l0_0 t332 _ ?s1 ?s2 A4.out).mono ?_);(case s1=>exact qe02_ HR0_0.out);(case s2=>exact HC0_0.out);rintro e w10 ⟨v333,rfl,ho0,hb⟩;refine ⟨_,rfl,?_⟩;have HO334:=am_ (Kd.R_lower ho0 (below_size (qfcd_ GE330.out)));replace BK330:=am_ (blk_below (g:=gb330) (o:=.cells #[.slice A0_0 l0_0.length c0_0] 34 (0,0)) (q66c_ BK330.out) hb);replace HB:=am_ (below_step (qfcd_ GE330.out) hb);clear hb ho0;obtain ⟨Ao11,co11,eo11⟩:=Kd.R_slice HO334.out;subst eo11) | ((with_reducible refine gc_ 194 ?_);refine gl_ 9 Tryz.func194 #[.slice Ao11 t332.length co11] ?_;(with_reducible refine (spec_paSum.calls k _ _ t332 t335 _ ?s1 ?s2 A5.out).mono ?_);(case s1=>exact q5a8_ HO334.out);(case s2=>exact (Kd.R_reads' HO334.out).2.1);rintro e w' ⟨rfl,⟨nd,rfl⟩⟩;refine ⟨_,rfl,?_⟩));go_ret2;exact ⟨qce7_,qfcd_ GE330.out⟩
 subst c3;obtain ⟨rfl,rfl⟩:=sp_ H;go_enter Tryz.func136,Tryz.ntmps136;go_wp2_with (first | ((with_reducible refine gd_ 1 ?_);refine bx_ #[.slice A0_0 l0_0.length c0_0] 34 ?_;intro gb330 hg w12 hbox hb;have BK330:=am_ (hbox);have GW330:=am_ ((by rw [hg];exact (below_size q0c4_):w.heap.size<=gb330));have GE330:=am_ ((by rw [hg];exact (below_size q0c4_):w.heap.size<=gb330));replace HB:=am_ (below_step q0c4_ hb);clear hb hbox hg;have hcz13_0:w12.cell? ⟨gb330,0,none⟩ = some (.slice A0_0 l0_0.length c0_0):=(blk_cell BK330.out 0).trans rfl;have hfz13_0:=blk_frozen BK330.out 0) | ((with_reducible refine gc_ 72 ?_);refine gl_ 5 Tryz.func72 #[.agg #[.slice A0_0 l0_0.length c0_0]] ?_;(with_reducible refine (spec_prGood.calls k _ _ l0_0 false _ ?s1 ?s2 A2.out).mono ?_);(case s1=>exact qe02_ HR0_0.out);(case s2=>exact HC0_0.out);rintro e w14 ⟨rfl,hb⟩;refine ⟨_,rfl,?_⟩;replace BK330:=am_ (blk_below (g:=gb330) (o:=.cells #[.slice A0_0 l0_0.length c0_0] 34 (0,0)) (q66c_ BK330.out) hb);replace HB:=am_ (below_step (qfcd_ GE330.out) hb);clear hb));go_ret2;exact ⟨qce7_,qfcd_ GE330.out⟩
def spec_FindKey.j0:Nat->Int->Bool->List Int->Option (Int × Int × Bool)
 | 0,_,_,_=>none
 | k + 1,x1,x21,x337000=>if x21 = true then (some (0,0,false)) else ((spec_prPlace.f k x337000 x1).bind fun t340=>((spec_prCost.f x1 t340 (x337000.length:Int)).bind fun t341=>(some (t340,t341,true))))
def spec_FindKey.f (k:Nat) (l0_0:List Int) (a1:Int):Option (Int × Int × Bool):=(spec_prGood.f k l0_0).bind fun t337=>(if t337 = true then ((spec_prKey.f a1).bind fun t338=>(if t338 = true then ((spec_prPlace.f k l0_0 a1).bind fun t339=>(spec_FindKey.j0 k a1 (decide (t339 < 0)) l0_0)) else (spec_FindKey.j0 k a1 true l0_0))) else (spec_FindKey.j0 k a1 true l0_0))
theorem spec_FindKey.calls (k:Nat) (A0_0:Option Addr) (c0_0:Nat) (l0_0:List Int) (a1:Int) (r1:Int) (r2:Int) (r3:Bool) (w:World) (hr0_0:Kd.C (Kd.int .i64) w A0_0 l0_0.length l0_0) (hc0_0:l0_0.length<=c0_0) (h:spec_FindKey.f k l0_0 a1 = some (r1,r2,r3)) :
  Calls Tryz.prog 137 #[.agg #[.slice A0_0 l0_0.length c0_0],.int .i64 a1] w fun e w'=>e = .returned (.tuple #[.int .i64 r1,.int .i64 r2,.bool r3])/\Below w.heap.size w w':=by
 have hu34:=Tryz.underlying34;have HR0_0:=am_ hr0_0;have HC0_0:=am_ hc0_0;clear hr0_0 hc0_0;have HB:=am_ (Below.refl w.heap.size w);unfold spec_FindKey.f at h;have H:=h;clear h;have HC3:=am_ H;clear H;go_enter Tryz.func137,Tryz.ntmps137
 go_upto_region 1 with (first | ((with_reducible refine gd_ 2 ?_);refine bx_ #[.slice A0_0 l0_0.length c0_0] 34 ?_;intro gb336 hg w4 hbox hb;have BK336:=am_ (hbox);have GW336:=am_ ((by rw [hg];exact (below_size q0c4_):w.heap.size<=gb336));have GE336:=am_ ((by rw [hg];exact (below_size q0c4_):w.heap.size<=gb336));replace HB:=am_ (below_step q0c4_ hb);clear hb hbox hg))
 (try simp only [Act.put,List.setIfInBounds_toArray,List.set_cons_zero,List.set_cons_succ])
 go_cut [21] (fun v21 wc=>∃ (kq:Nat) (x21_2:Bool),v21 = .bool x21_2/\Aside0 (spec_FindKey.j0 kq a1 x21_2 l0_0 = some (r1,r2,r3))/\Aside0 (kq<=k)/\Aside0 (wc.heap[gb336]? = some (.cells #[(.slice A0_0 l0_0.length c0_0)] 34 (0,0)))/\Aside0 (Below w.heap.size w wc))
 case first =>
  have H:=HC3.out;clear HC3;obtain ⟨t337,A5,H⟩:=ob_ H;revert H;refine be_ (fun c6 H=>?_) fun c6 H=>?_
  ·
   subst c6;obtain ⟨t338,A7,H⟩:=ob_ H;revert H;refine be_ (fun c8 H=>?_) fun c8 H=>?_
   ·
    subst c8;obtain ⟨t339,A9,H⟩:=ob_ H;have H':=am_ H;clear H;have hcz10_0:w4.cell? ⟨gb336,0,none⟩ = some (.slice A0_0 l0_0.length c0_0):=(blk_cell BK336.out 0).trans rfl;have hfz10_0:=blk_frozen BK336.out 0;go_wp2_with (first | ((with_reducible refine gc_ 72 ?_);refine gl_ 9 Tryz.func72 #[.agg #[.slice A0_0 l0_0.length c0_0]] ?_;(with_reducible refine (spec_prGood.calls k _ _ l0_0 true _ ?s1 ?s2 A5.out).mono ?_);(case s1=>exact qe02_ HR0_0.out);(case s2=>exact HC0_0.out);rintro e w11 ⟨rfl,hb⟩;refine ⟨_,rfl,?_⟩;replace BK336:=am_ (blk_below (g:=gb336) (o:=.cells #[.slice A0_0 l0_0.length c0_0] 34 (0,0)) (q66c_ BK336.out) hb);replace HB:=am_ (below_step (qfcd_ GE336.out) hb);clear hb) | (go_at_call 183;(with_reducible refine (spec_prKey.calls a1 true _ A7.out).mono ?_);rintro e w' ⟨rfl,⟨nd,rfl⟩⟩;have hcz12_0:w11.cell? ⟨gb336,0,none⟩ = some (.slice A0_0 l0_0.length c0_0):=(blk_cell BK336.out 0).trans rfl;have hfz12_0:=blk_frozen BK336.out 0) | (go_at_call 186;(with_reducible refine (spec_prPlace.calls k _ _ l0_0 a1 t339 _ ?s1 ?s2 A9.out).mono ?_);(case s1=>exact q28c_ HR0_0.out GE336.out);(case s2=>exact HC0_0.out);rintro e w13 ⟨rfl,hb⟩;replace BK336:=am_ (blk_below (g:=gb336) (o:=.cells #[.slice A0_0 l0_0.length c0_0] 34 (0,0)) (q66c_ BK336.out) hb);replace HB:=am_ (below_step (qfcd_ GE336.out) hb);clear hb));go_meet
    case rel=>exact ⟨_,(decide (t339 < 0)),qc8f_,H',⟨q821_⟩,⟨q66c_ BK336.out⟩,⟨qfcd_ GE336.out⟩⟩
   subst c8;have H':=am_ H;clear H;have hcz14_0:w4.cell? ⟨gb336,0,none⟩ = some (.slice A0_0 l0_0.length c0_0):=(blk_cell BK336.out 0).trans rfl;have hfz14_0:=blk_frozen BK336.out 0;go_wp2_with (first | ((with_reducible refine gc_ 72 ?_);refine gl_ 9 Tryz.func72 #[.agg #[.slice A0_0 l0_0.length c0_0]] ?_;(with_reducible refine (spec_prGood.calls k _ _ l0_0 true _ ?s1 ?s2 A5.out).mono ?_);(case s1=>exact qe02_ HR0_0.out);(case s2=>exact HC0_0.out);rintro e w15 ⟨rfl,hb⟩;refine ⟨_,rfl,?_⟩;replace BK336:=am_ (blk_below (g:=gb336) (o:=.cells #[.slice A0_0 l0_0.length c0_0] 34 (0,0)) (q66c_ BK336.out) hb);replace HB:=am_ (below_step (qfcd_ GE336.out) hb);clear hb) | (go_at_call 183;(with_reducible refine (spec_prKey.calls a1 false _ A7.out).mono ?_);rintro e w' ⟨rfl,⟨nd,rfl⟩⟩));go_meet
   case rel=>exact ⟨_,(true),qc8f_,H',⟨q821_⟩,⟨q66c_ BK336.out⟩,⟨qfcd_ GE336.out⟩⟩
  subst c6;have H':=am_ H;clear H;have hcz16_0:w4.cell? ⟨gb336,0,none⟩ = some (.slice A0_0 l0_0.length c0_0):=(blk_cell BK336.out 0).trans rfl;have hfz16_0:=blk_frozen BK336.out 0;go_wp2_with (first | ((with_reducible refine gc_ 72 ?_);refine gl_ 9 Tryz.func72 #[.agg #[.slice A0_0 l0_0.length c0_0]] ?_;(with_reducible refine (spec_prGood.calls k _ _ l0_0 false _ ?s1 ?s2 A5.out).mono ?_);(case s1=>exact qe02_ HR0_0.out);(case s2=>exact HC0_0.out);rintro e w17 ⟨rfl,hb⟩;refine ⟨_,rfl,?_⟩;replace BK336:=am_ (blk_below (g:=gb336) (o:=.cells #[.slice A0_0 l0_0.length c0_0] 34 (0,0)) (q66c_ BK336.out) hb);replace HB:=am_ (below_step (qfcd_ GE336.out) hb);clear hb));go_meet
  case rel=>exact ⟨_,(true),qc8f_,H',⟨q821_⟩,⟨q66c_ BK336.out⟩,⟨qfcd_ GE336.out⟩⟩
 case rest =>
  clear HC3;obtain ⟨kq,x21_2,rfl,HA,HJ2,BK336,HB⟩:=hcut;cases kq with
  | zero=>exact n0_ HA.out
  | succ kj2 =>
   have H:=HA.out;clear HA;simp only [spec_FindKey.j0] at H;revert H;refine be_ (fun c18 H=>?_) fun c18 H=>?_
   ·
    subst c18;obtain ⟨rfl,rfl,rfl⟩:=st_ H;go_wp2;go_ret3;exact ⟨qce7_,qfcd_ GE336.out⟩
   subst c18;obtain ⟨t340,A19,H⟩:=ob_ H;obtain ⟨t341,A20,H⟩:=ob_ H;obtain ⟨rfl,rfl,rfl⟩:=st_ H;have hcz21_0:wc.cell? ⟨gb336,0,none⟩ = some (.slice A0_0 l0_0.length c0_0):=(blk_cell BK336.out 0).trans rfl;have hfz21_0:=blk_frozen BK336.out 0;go_wp2_with (first | ((with_reducible refine gc_ 186 ?_);refine gl_ 24 Tryz.func186 #[.agg #[.slice A0_0 l0_0.length c0_0],.int .i64 a1] ?_;(with_reducible refine (spec_prPlace.calls kj2 _ _ l0_0 a1 t340 _ ?s1 ?s2 A19.out).mono ?_);(case s1=>exact qe02_ HR0_0.out);(case s2=>exact HC0_0.out);rintro e w22 ⟨rfl,hb⟩;refine ⟨_,rfl,?_⟩;replace BK336:=am_ (blk_below (g:=gb336) (o:=.cells #[.slice A0_0 l0_0.length c0_0] 34 (0,0)) (q66c_ BK336.out) hb);replace HB:=am_ (below_step (qfcd_ GE336.out) hb);clear hb;have hcz23_0:w22.cell? ⟨gb336,0,none⟩ = some (.slice A0_0 l0_0.length c0_0):=(blk_cell BK336.out 0).trans rfl;have hfz23_0:=blk_frozen BK336.out 0) | ((with_reducible refine gc_ 114 ?_);refine gl_ 31 Tryz.func114 #[.int .i64 a1,.int .i64 t340,.int .i64 (l0_0.length:Int)] ?_;(with_reducible refine (spec_prCost.calls a1 t340 (l0_0.length:Int) t341 _ A20.out).mono ?_);rintro e w' ⟨rfl,⟨nd,rfl⟩⟩;refine ⟨_,rfl,?_⟩));go_ret3;exact ⟨qce7_,qfcd_ GE336.out⟩
def impl_between.f (a0:Int) (a1:Int) (a2:Int):Option (Bool):=if a0 >= a1 then (some (decide (a0<=a2))) else (some false)
theorem impl_between.calls (a0:Int) (a1:Int) (a2:Int) (r:Bool) (w:World) (h:impl_between.f a0 a1 a2 = some r) :
  Calls Tryz.prog 101 #[.int .i64 a0,.int .i64 a1,.int .i64 a2] w fun e w'=>e = .returned (.bool r)/\Drawn0 w w':=by
 unfold impl_between.f at h;have H:=h;clear h;revert H;refine ie_ (fun c4b0 H=>?_) fun c4b0 H=>?_
 ·
  obtain rfl:=Option.some.inj H;go_enter Tryz.func101,Tryz.ntmps101;go_wp2;go_ret;exact ⟨qc8f_,qffa_⟩
 obtain rfl:=Option.some.inj H;go_enter Tryz.func101,Tryz.ntmps101;go_wp2;go_ret;exact ⟨qc8f_,qffa_⟩
def impl_isCars.f (a0:Int):Option (Bool):=(impl_between.f a0 0 8).bind fun t350=>(some t350)
theorem impl_isCars.calls (a0:Int) (r:Bool) (w:World) (h:impl_isCars.f a0 = some r) :
  Calls Tryz.prog 100 #[.int .i64 a0] w fun e w'=>e = .returned (.bool r)/\Drawn0 w w':=by
 unfold impl_isCars.f at h;have H:=h;clear h;obtain ⟨t350,A2,H⟩:=ob_ H;obtain rfl:=Option.some.inj H;go_enter Tryz.func100,Tryz.ntmps100;go_wp2_with (first | ((with_reducible refine gc_ 101 ?_);refine gl_ 4 Tryz.func101 #[.int .i64 a0,.int .i64 0,.int .i64 8] ?_;(with_reducible refine (impl_between.calls a0 0 8 t350 _ A2.out).mono ?_);rintro e w' ⟨rfl,⟨nd,rfl⟩⟩;refine ⟨_,rfl,?_⟩));go_ret;exact ⟨qc8f_,qffa_⟩
def impl_power.l0:Nat->Int->Int->Int->Int->Option (Int)
 | 0,_,_,_,_=>none
 | k + 1,x0,x5,x6,x7=>if x7 < x6 then (impl_power.l0 k x0 (wrap64 (x5 * x0)) x6 (wrap64 (x7 + 1))) else (some x5)
def impl_power.f (k:Nat) (a0:Int) (a1:Int):Option (Int):=impl_power.l0 k a0 1 a1 0
theorem impl_power.mono_l:∀ k,(∀ y0 y1 y2 y3,LeO (impl_power.l0 k y0 y1 y2 y3) (impl_power.l0 (k + 1) y0 y1 y2 y3))
 | 0=>fun _ _ _ _ r h=>by simp [impl_power.l0] at h
 | k + 1=>by
  have ih0:=impl_power.mono_l k
  ·
   intro y0 y1 y2 y3;unfold impl_power.l0
   repeat' (with_reducible first | exact ih0 _ _ _ _ | exact LeO.refl _ | exact LeO.none _ | refine LeO.ite ?_ ?_ | refine LeO.bind ?_ (fun _=>?_))
theorem impl_power.mono:∀ a0 a1 k,LeO (impl_power.f k a0 a1) (impl_power.f (k + 1) a0 a1):=by
 intro a0 a1 k;have ih0:=impl_power.mono_l k;unfold impl_power.f
 repeat' (with_reducible first | exact ih0 _ _ _ _ | exact LeO.refl _ | exact LeO.none _ | refine LeO.ite ?_ ?_ | refine LeO.bind ?_ (fun _=>?_))
theorem impl_power.calls (k:Nat) (a0:Int) (a1:Int) (r:Int) (w:World) (h:impl_power.f k a0 a1 = some r) :
  Calls Tryz.prog 171 #[.int .i64 a0,.int .i64 a1] w fun e w'=>e = .returned (.int .i64 r)/\Drawn0 w w':=by
 unfold impl_power.f at h;have H:=h;clear h;have H':=am_ H;clear H;go_enter Tryz.func171,Tryz.ntmps171;go_wp2
 go_loopg [5,7] k (fun kq v5 v7 w'=>∃ (x5_1:Int) (x7_1:Int),v5 = .int .i64 x5_1/\v7 = .int .i64 x7_1/\Aside0 (impl_power.l0 kq a0 x5_1 a1 x7_1 = some r)/\Aside0 (kq<=k)/\Drawn0 w w')
 case atStart=>exact ⟨(1),(0),qc8f_,qc8f_,H',⟨Nat.le_refl _⟩,qffa_⟩
 case round =>
  clear H';obtain ⟨x5_1,x7_1,rfl,rfl,HA,HK1,⟨m1,rfl⟩⟩:=hrel;cases gk with
  | zero=>exact n0_ HA.out
  | succ k1 =>
   have H:=HA.out;clear HA;simp only [impl_power.l0] at H;revert H;refine ie_ (fun c3b0 H=>?_) fun c3b0 H=>?_
   ·
    have H':=am_ H;clear H;go_wp2;go_roundg k1
    case measure=>have:=HK1.out;omega
    case rel=>exact ⟨(wrap64 (x5_1 * a0)),(wrap64 (x7_1 + 1)),qc8f_,qc8f_,H',⟨q1d0_ HK1.out⟩,qffa_⟩
   obtain rfl:=Option.some.inj H;go_wp2;go_ret;exact ⟨qc8f_,qffa_⟩
def impl_countParking.f (k:Nat) (a0:Int):Option (Int):=(impl_power.f k (wrap64 (a0 + 1)) (mx (wrap64 (a0 - 1)) 0)).bind fun t351=>(some t351)
theorem impl_countParking.mono:∀ a0 k,LeO (impl_countParking.f k a0) (impl_countParking.f (k + 1) a0):=by
 intro a0 k;unfold impl_countParking.f
 repeat' (with_reducible first | exact impl_power.mono _ _ _ | exact LeO.refl _ | exact LeO.none _ | refine LeO.ite ?_ ?_ | refine LeO.bind ?_ (fun _=>?_))
theorem impl_countParking.calls (k:Nat) (a0:Int) (r:Int) (w:World) (h:impl_countParking.f k a0 = some r) :
  Calls Tryz.prog 102 #[.int .i64 a0] w fun e w'=>e = .returned (.int .i64 r)/\Below w.heap.size w w':=by
 have HB:=am_ (Below.refl w.heap.size w);unfold impl_countParking.f at h;have H:=h;clear h;obtain ⟨ji2,hji2⟩:∃ j_:Int,(mx (wrap64 (a0 - 1)) 0) = j_:=⟨_,rfl⟩;replace H:((impl_power.f k (wrap64 (a0 + 1)) (ji2)).bind fun t351=>(some t351)) = some r:=by first | (rw [hji2] at H;exact H) | (simp only [hji2] at H ⊢;exact H)
 (try (have hji2l:0<=ji2:=by (rw [<- hji2];unfold mx;(repeat' split) <;> omega)))
 (try (have hji2m:0<=ji2:=by omega))
 have hji2_:(if (wrap64 (a0 - 1)) < 0 then 0 else (wrap64 (a0 - 1))) = ji2:=hji2;obtain ⟨t351,A3,H⟩:=ob_ H;obtain rfl:=Option.some.inj H;go_enter Tryz.func102,Tryz.ntmps102;go_wp2_with (first | ((with_reducible refine gc_ 171 ?_);refine goesL_ (some 8) rfl rfl Tryz.func171 (by kernel_rfl) rfl #[.int .i64 (wrap64 (a0 + 1)),.int .i64 ji2] rfl (by (try simp only [List.map_toArray,List.map_cons,List.map_nil]);first | done | (simp only [hji2];rfl) | rfl | (simp only [List.length_drop,List.length_take];rfl)) ?_;(with_reducible refine (impl_power.calls k (wrap64 (a0 + 1)) ji2 t351 _ A3.out).mono ?_);rintro e w' ⟨rfl,⟨nd,rfl⟩⟩;refine ⟨_,rfl,?_⟩));go_ret;exact ⟨by first | rfl | (simp [errW_none,errW_some] <;> rfl) | (simp only [<- hji2];first | rfl | (simp [errW_none,errW_some] <;> rfl)) | (simp [*,errW_none,errW_some] <;> rfl),q0c4_⟩
def impl_choose.l0:Nat->Int->Int->Int->Int->Option (Int)
 | 0,_,_,_,_=>none
 | k + 1,x0,x5,x7,x8=>if x8 < x7 then (if (wrap64 (x8 + 1)) = 0 then (none) else (impl_choose.l0 k x0 (wrap64 (Int.tdiv (wrap64 (x5 * (wrap64 (x0 - x8)))) (wrap64 (x8 + 1)))) x7 (wrap64 (x8 + 1)))) else (some x5)
def impl_choose.f (k:Nat) (a0:Int) (a1:Int):Option (Int):=impl_choose.l0 k a0 1 a1 0
theorem impl_choose.mono_l:∀ k,(∀ y0 y1 y2 y3,LeO (impl_choose.l0 k y0 y1 y2 y3) (impl_choose.l0 (k + 1) y0 y1 y2 y3))
 | 0=>fun _ _ _ _ r h=>by simp [impl_choose.l0] at h
 | k + 1=>by
  have ih0:=impl_choose.mono_l k
  ·
   intro y0 y1 y2 y3;unfold impl_choose.l0
   repeat' (with_reducible first | exact ih0 _ _ _ _ | exact LeO.refl _ | exact LeO.none _ | refine LeO.ite ?_ ?_ | refine LeO.bind ?_ (fun _=>?_))
theorem impl_choose.mono:∀ a0 a1 k,LeO (impl_choose.f k a0 a1) (impl_choose.f (k + 1) a0 a1):=by
 intro a0 a1 k;have ih0:=impl_choose.mono_l k;unfold impl_choose.f
 repeat' (with_reducible first | exact ih0 _ _ _ _ | exact LeO.refl _ | exact LeO.none _ | refine LeO.ite ?_ ?_ | refine LeO.bind ?_ (fun _=>?_))
theorem impl_choose.calls (k:Nat) (a0:Int) (a1:Int) (r:Int) (w:World) (h:impl_choose.f k a0 a1 = some r) :
  Calls Tryz.prog 174 #[.int .i64 a0,.int .i64 a1] w fun e w'=>e = .returned (.int .i64 r)/\Drawn0 w w':=by
 unfold impl_choose.f at h;have H:=h;clear h;have H':=am_ H;clear H;go_enter Tryz.func174,Tryz.ntmps174;go_wp2
 go_loopg [5,8] k (fun kq v5 v8 w'=>∃ (x5_1:Int) (x8_1:Int),v5 = .int .i64 x5_1/\v8 = .int .i64 x8_1/\Aside0 (impl_choose.l0 kq a0 x5_1 a1 x8_1 = some r)/\Aside0 (kq<=k)/\Drawn0 w w')
 case atStart=>exact ⟨(1),(0),qc8f_,qc8f_,H',⟨Nat.le_refl _⟩,qffa_⟩
 case round =>
  clear H';obtain ⟨x5_1,x8_1,rfl,rfl,HA,HK1,⟨m1,rfl⟩⟩:=hrel;cases gk with
  | zero=>exact n0_ HA.out
  | succ k1 =>
   have H:=HA.out;clear HA;simp only [impl_choose.l0] at H;revert H;refine ie_ (fun c3b0 H=>?_) fun c3b0 H=>?_
   ·
    revert H;refine in_ fun c4 H=>?_;have c4b0:=beq_eq_false_iff_ne.mpr c4;have c4b1:=bne_iff_ne.mpr c4;have H':=am_ H;clear H;go_wp2;go_roundg k1
    case measure=>have:=HK1.out;omega
    case rel=>exact ⟨(wrap64 (Int.tdiv (wrap64 (x5_1 * (wrap64 (a0 - x8_1)))) (wrap64 (x8_1 + 1)))),(wrap64 (x8_1 + 1)),qc8f_,qc8f_,H',⟨q1d0_ HK1.out⟩,qffa_⟩
   obtain rfl:=Option.some.inj H;go_wp2;go_ret;exact ⟨qc8f_,qffa_⟩
end Go.Proofs.YtjdlhefjgceabaaGreatDoor.PAll

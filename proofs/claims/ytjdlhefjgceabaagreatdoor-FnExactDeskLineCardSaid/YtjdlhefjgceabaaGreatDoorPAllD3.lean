import Derived.Test.YtjdlhefjgceabaaGreatDoorPAllA3
import Derived.Test.YtjdlhefjgceabaaGreatDoorPAllC3
namespace Go.Proofs.YtjdlhefjgceabaaGreatDoor.PAll
open Go.RowKit Go.Proofs.YtjdlhefjgceabaaGreatDoor.Hand Go.Proofs.YtjdlhefjgceabaaGreatDoorW.PrintWords Go.Proofs.YtjdlhefjgceabaaGreatDoorW.PrintLast Go.Proofs.YtjdlhefjgceabaaGreatDoorW.PrintMore
attribute [local go_sem] max2_int min2_int max_two min_two max_three min_three max_four min_four
set_option maxHeartbeats 8000000
set_option maxRecDepth 100000
set_option linter.unusedVariables false
set_option linter.unusedSimpArgs false
def impl_InsertKey.j0:Nat->Int->Bool->List Int->Option (List Int × Int × Bool)
 | 0,_,_,_=>none
 | k + 1,x1,x32,x525000=>if x32 = true then (some (([]:List Int),0,false)) else ((impl_Table_copied.f x525000).bind fun t532=>((impl_Table_insert.f k t532 x1).bind fun bt536=>(some (bt536.2,bt536.1,true))))
def impl_InsertKey.f (k:Nat) (l0_0:List Int) (a1:Int):Option (List Int × Int × Bool):=(impl_isTable.f k l0_0).bind fun t526=>(if t526 = true then ((impl_isKey.f a1).bind fun t527=>(if t527 = true then ((slices_Contains_int_int.f k l0_0 a1).bind fun t528=>(if t528 = true then (impl_InsertKey.j0 k a1 true l0_0) else ((impl_Table_keys.f l0_0).bind fun t529=>(impl_InsertKey.j0 k a1 ((wrap64 ((t529.length:Int) + 1)) == (l0_0.length:Int)) l0_0)))) else (impl_InsertKey.j0 k a1 true l0_0))) else (impl_InsertKey.j0 k a1 true l0_0))
def impl_InsertKey.T1:Bool × List (List Nat × List Nat):=(true,[([],[]),([0],[0]),([1],[1]),([2,1],[2]),([3],[3]),([4,3,3],[3,4]),([5,3],[3,5]),([3,6],[3,6]),([7,5],[7]),([8],[8]),([9,8],[8,9]),([8],[8]),([10,11,8,8],[8,10,11]),([8,12],[8,12]),([13,12],[13]),([14],[14]),([15,14,14],[14,15]),([16,14],[14,16]),([17,14],[14,17]),([14],[14]),([19,14],[14,19]),([20,14],[14,20]),([18,21,14],[14,18,21]),([14,22],[14,22])])
def impl_InsertKey.B1:List Nat:=[0,1,3,7,15,31,63,127,255,511,1023,511,4095,8191,16383,32767,65535,131071,262143,32767,557055,1605631,4194303,8388607]
theorem impl_InsertKey.tab1:rtab .any (opsOf Tryz.f155 1) = impl_InsertKey.T1:=by kernel_rfl
theorem impl_InsertKey.bits1:waitsOk impl_InsertKey.T1.2 impl_InsertKey.B1 = true:=by kernel_rfl
theorem impl_InsertKey.calls (k:Nat) (A0_0:Option Addr) (c0_0:Nat) (l0_0:List Int) (a1:Int) (r1:List Int) (r2:Int) (r3:Bool) (w:World) (hr0_0:Kd.C (Kd.int .i64) w A0_0 l0_0.length l0_0) (hc0_0:l0_0.length<=c0_0) (h:impl_InsertKey.f k l0_0 a1 = some (r1,r2,r3)) :
  Calls Tryz.prog 155 #[.agg #[.slice A0_0 l0_0.length c0_0],.int .i64 a1] w fun e w'=>∃ v0_:Value,e = .returned (.tuple #[.agg #[v0_],.int .i64 r2,.bool r3])/\Kd.R (Kd.int .i64) 3 w' w.heap.size (fun _=>True) v0_ r1/\Below w.heap.size w w':=by
 have hu34:=Tryz.underlying34;have HR0_0:=am_ hr0_0;have HC0_0:=am_ hc0_0;clear hr0_0 hc0_0;have HB:=am_ (Below.refl w.heap.size w);unfold impl_InsertKey.f at h;have H:=h;clear h;have HC3:=am_ H;clear H;go_enter Tryz.func155,Tryz.ntmps155
 go_upto_region 1 with (first | ((with_reducible refine gd_ 2 ?_);(try (refine gate_guard (by rfl) ?_;dsimp only));refine bx_ #[.slice A0_0 l0_0.length c0_0] 34 ?_;intro gb524 hg w4 hbox hb;have BK524:=am_ (hbox);have GW524:=am_ ((by rw [hg];exact (below_size q0c4_):w.heap.size<=gb524));have GE524:=am_ ((by rw [hg];exact (below_size q0c4_):w.heap.size<=gb524));replace HB:=am_ (below_step q0c4_ hb);clear hb hbox hg) | ((with_reducible refine gd_ 4 ?_);(try (refine gate_guard (by rfl) ?_;dsimp only));refine bx_ #[.slice none 0 0] 34 ?_;intro gb525 hg w5 hbox hb;have BK525:=am_ (hbox);have GW525:=am_ ((by rw [hg];exact (below_size (qfcd_ GE524.out)):w.heap.size<=gb525));have GE525:=am_ ((by rw [hg];exact (below_size (qfcd_ GE524.out)):w.heap.size<=gb525));have NB524_525:=am_ ((by rw [hg];exact Nat.ne_of_lt (blk_lt (g:=gb524) (o:=.cells #[.slice A0_0 l0_0.length c0_0] 34 (0,0)) (q66c_ BK524.out)):gb524 ≠ gb525));have NB525_524:=am_ ((by rw [hg];exact Nat.ne_of_gt (blk_lt (g:=gb524) (o:=.cells #[.slice A0_0 l0_0.length c0_0] 34 (0,0)) (q66c_ BK524.out)):gb525 ≠ gb524));replace BK524:=am_ (blk_below (g:=gb524) (o:=.cells #[.slice A0_0 l0_0.length c0_0] 34 (0,0)) (q66c_ BK524.out) hb);replace HB:=am_ (below_step (qfcd_ GE524.out) hb);clear hb hbox hg))
 (try simp only [Act.put,List.setIfInBounds_toArray,List.set_cons_zero,List.set_cons_succ])
 go_cut [32] (fun v32 wc=>∃ (kq:Nat) (x32_2:Bool),v32 = .bool x32_2/\Aside0 (impl_InsertKey.j0 kq a1 x32_2 l0_0 = some (r1,r2,r3))/\Aside0 (kq<=k)/\Aside0 (wc.heap[gb524]? = some (.cells #[(.slice A0_0 l0_0.length c0_0)] 34 (0,0)))/\Aside0 (wc.heap[gb525]? = some (.cells #[(.slice none 0 0)] 34 (0,0)))/\Aside0 (Below w.heap.size w wc))
 case first =>
  have H:=HC3.out;clear HC3;obtain ⟨t526,A6,H⟩:=ob_ H;revert H;refine be_ (fun c7 H=>?_) fun c7 H=>?_
  ·
   subst c7;obtain ⟨t527,A8,H⟩:=ob_ H;revert H;refine be_ (fun c9 H=>?_) fun c9 H=>?_
   ·
    subst c9;obtain ⟨t528,A10,H⟩:=ob_ H;have Hs_:=am_ H;clear H
    try go_wp2
    have n0_:=am_ (blk_drew BK524.out);have n1_:=am_ (blk_drew BK525.out);have n2_:=am_ (below_drew1 HB.out);clear BK524 BK525 HB;have BK524:=n0_;have BK525:=n1_;have HB:=n2_;clear n0_ n1_ n2_;refine start_ (n:=24) (S:=fun w'=>w'.cell? ⟨gb524,0,none⟩ = some (.slice A0_0 l0_0.length c0_0)) (ds:=[]) (mk_ 24 0) (by kernel_rfl) rfl (by kernel_rfl) ((blk_cell BK524.out 0).trans rfl) (fun hHeld=>?_);refine with_tabW impl_InsertKey.tab1 impl_InsertKey.bits1 (fun HT_ HW_=>?_)
    generalize w5.drew = w12 at BK524 BK525 HB hHeld ⊢;refine tk_ 0 9 24 1 ?_;refine on_ 1 (some 10) 24 3 fun K hK=>?_;refine goes_ Tryz.func61 (by kernel_rfl) rfl #[.agg #[.slice A0_0 l0_0.length c0_0]] (by rfl) rfl rfl qef5_ ?_
    with_reducible refine (impl_isTable.calls k _ _ l0_0 true _ ?s1 ?s2 A6.out).mono ?_
    (case s1=>exact qe02_ HR0_0.out)
    (case s2=>exact HC0_0.out)
    rintro e w13 ⟨rfl,hb⟩;refine ⟨_,rfl,?_⟩;have n0_:=am_ (blk_below (g:=gb524) (o:=.cells #[.slice A0_0 l0_0.length c0_0] 34 (0,0)) (q66c_ BK524.out) hb);have n1_:=am_ (blk_below (g:=gb525) (o:=.cells #[.slice none 0 0] 34 (0,0)) (q66c_ BK525.out) hb);have n2_:=am_ (below_step (qa3a_ GE524.out GE525.out) hb);clear BK524 BK525 HB;have BK524:=n0_;have BK525:=n1_;have HB:=n2_;clear n0_ n1_ n2_
    (try clear hb)
    (try clear hb2)
    (try clear hk)
    (try clear hi)
    refine hK.out _ _ ((blk_cell BK524.out 0).trans rfl) (fun hHeld=>?_);clear hK K;refine nm_ ?_;refine pu_ 2 11 24 7 ?_;refine pu_ 3 12 24 15 ?_;refine pu_ 4 13 24 31 ?_;refine on_ 5 (some 14) 24 63 fun K hK=>?_;refine goes_ Tryz.func216 (by kernel_rfl) rfl #[.int .i64 a1] (by rfl) rfl rfl qef5_ ?_
    with_reducible refine (impl_isKey.calls a1 true _ A8.out).mono ?_
    rintro e w' ⟨rfl,⟨nd,rfl⟩⟩;refine ⟨_,rfl,?_⟩;refine hK.out _ _ ((blk_cell BK524.out 0).trans rfl) (fun hHeld=>?_);clear hK K;refine nm_ ?_;refine pu_ 6 15 24 127 ?_;refine pu_ 7 16 24 255 ?_;refine pu_ 8 17 24 511 ?_;refine pu_ 9 18 24 1023 ?_;refine pu_ 11 20 24 3071 ?_;refine tk_ 10 19 24 4095 ?_;refine on_ 12 (some 21) 24 8191 fun K hK=>?_;refine goes_ Tryz.func96 (by kernel_rfl) rfl #[.slice A0_0 l0_0.length c0_0,.int .i64 a1] (by rfl) rfl rfl qef5_ ?_
    by_cases c11:t528 = true
    ·
     have H:=Hs_.out;clear Hs_;subst c11;rw [if_pos rfl] at H;have H':=am_ H;clear H
     with_reducible refine (slices_Contains_int_int.calls k _ _ l0_0 a1 true _ ?s1 ?s2 A10.out).mono ?_
     (case s1=>exact q08e_ HR0_0.out GE524.out GE525.out)
     (case s2=>exact HC0_0.out)
     rintro e w' ⟨rfl,⟨nd,rfl⟩⟩;refine ⟨_,rfl,?_⟩;refine hK.out _ _ ((blk_cell BK524.out 0).trans rfl) (fun hHeld=>?_);clear hK K;refine nm_ ?_;refine pu_ 13 22 24 16383 ?_;refine pu_ 14 23 24 32767 ?_;refine pn_ 15 24 24 65535 ?_;refine pn_ 16 25 24 131071 ?_;refine pn_ 17 26 24 262143 ?_;refine pn_ 18 27 24 524287 ?_;refine pn_ 19 28 24 1048575 ?_;refine pn_ 20 29 24 2097151 ?_;refine pn_ 21 30 24 4194303 ?_;refine pn_ 22 31 24 8388607 ?_;refine pu_ 23 32 24 16777215 ?_;refine done_ (done_of HT_.out (by kernel_rfl)) ?_
     try go_wp2
     go_meet
     case rel=>exact ⟨_,(true),qc8f_,H',⟨q821_⟩,⟨q66c_ BK524.out⟩,⟨q66c_ BK525.out⟩,⟨qa3a_ GE524.out GE525.out⟩⟩
    have H:=Hs_.out;clear Hs_;replace c11:=Bool.eq_false_iff.mpr c11;subst c11;rw [if_neg nf_] at H;obtain ⟨t529,A14,H⟩:=ob_ H;have H':=am_ H;clear H
    with_reducible refine (slices_Contains_int_int.calls k _ _ l0_0 a1 false _ ?s1 ?s2 A10.out).mono ?_
    (case s1=>exact q08e_ HR0_0.out GE524.out GE525.out)
    (case s2=>exact HC0_0.out)
    rintro e w' ⟨rfl,⟨nd,rfl⟩⟩;refine ⟨_,rfl,?_⟩;refine hK.out _ _ ((blk_cell BK524.out 0).trans rfl) (fun hHeld=>?_);clear hK K;refine nm_ ?_;refine pu_ 13 22 24 16383 ?_;refine pu_ 14 23 24 32767 ?_;refine pu_ 19 28 24 557055 ?_;refine tk_ 15 24 24 589823 ?_;refine tk_ 20 29 24 1638399 ?_;refine pu_ 21 30 24 3735551 ?_;refine on_ 16 (some 25) 24 3801087 fun K hK=>?_;refine goes_ Tryz.func217 (by kernel_rfl) rfl #[.agg #[.slice A0_0 l0_0.length c0_0]] (by rfl) rfl rfl qef5_ ?_
    with_reducible refine (impl_Table_keys.calls _ _ l0_0 t529 _ ?s1 ?s2 A14.out).mono ?_
    (case s1=>exact q08e_ HR0_0.out GE524.out GE525.out)
    (case s2=>exact HC0_0.out)
    rintro e w17 ⟨v530,rfl,ho0,hb⟩;refine ⟨_,rfl,?_⟩;have n0_:=am_ (Kd.R_lower ho0 (below_size (qa3a_ GE524.out GE525.out)));have n1_:=am_ (blk_below (g:=gb524) (o:=.cells #[.slice A0_0 l0_0.length c0_0] 34 (0,0)) (q66c_ BK524.out) hb);have n2_:=am_ (blk_below (g:=gb525) (o:=.cells #[.slice none 0 0] 34 (0,0)) (q66c_ BK525.out) hb);have n3_:=am_ (below_step (qa3a_ GE524.out GE525.out) hb);clear BK524 BK525 HB;have HO531:=n0_;have BK524:=n1_;have BK525:=n2_;have HB:=n3_;clear n0_ n1_ n2_ n3_
    (try clear hb)
    (try clear hb2)
    (try clear hk)
    (try clear hi)
    (try clear ho0)
    obtain ⟨Ao18,co18,eo18⟩:=Kd.R_slice HO531.out
    (first | subst eo18 | (injection eo18 with f1_ f2_ f3_;have f4_:=f1_.symm;have f5_:=f3_.symm;clear f1_ f2_ f3_;subst f4_;subst f5_))
    refine hK.out _ _ ((blk_cell BK524.out 0).trans rfl) (fun hHeld=>?_);clear hK K;refine nm_ ?_;refine pu_ 17 26 24 3932159 ?_;refine pu_ 18 27 24 4194303 ?_;refine pu_ 22 31 24 8388607 ?_;refine pu_ 23 32 24 16777215 ?_;refine done_ (done_of HT_.out (by kernel_rfl)) ?_
    try go_wp2
    go_meet
    case rel=>exact ⟨_,(((wrap64 ((t529.length:Int) + 1)) == (l0_0.length:Int))),qc8f_,H',⟨q821_⟩,⟨q66c_ BK524.out⟩,⟨q66c_ BK525.out⟩,⟨qa3a_ GE524.out GE525.out⟩⟩
   subst c9;have H':=am_ H;clear H
   try go_wp2
   have n0_:=am_ (blk_drew BK524.out);have n1_:=am_ (blk_drew BK525.out);have n2_:=am_ (below_drew1 HB.out);clear BK524 BK525 HB;have BK524:=n0_;have BK525:=n1_;have HB:=n2_;clear n0_ n1_ n2_;refine start_ (n:=24) (S:=fun w'=>w'.cell? ⟨gb524,0,none⟩ = some (.slice A0_0 l0_0.length c0_0)) (ds:=[]) (mk_ 24 0) (by kernel_rfl) rfl (by kernel_rfl) ((blk_cell BK524.out 0).trans rfl) (fun hHeld=>?_);refine with_tabW impl_InsertKey.tab1 impl_InsertKey.bits1 (fun HT_ HW_=>?_)
   generalize w5.drew = w19 at BK524 BK525 HB hHeld ⊢;refine tk_ 0 9 24 1 ?_;refine on_ 1 (some 10) 24 3 fun K hK=>?_;refine goes_ Tryz.func61 (by kernel_rfl) rfl #[.agg #[.slice A0_0 l0_0.length c0_0]] (by rfl) rfl rfl qef5_ ?_
   with_reducible refine (impl_isTable.calls k _ _ l0_0 true _ ?s1 ?s2 A6.out).mono ?_
   (case s1=>exact qe02_ HR0_0.out)
   (case s2=>exact HC0_0.out)
   rintro e w20 ⟨rfl,hb⟩;refine ⟨_,rfl,?_⟩;have n0_:=am_ (blk_below (g:=gb524) (o:=.cells #[.slice A0_0 l0_0.length c0_0] 34 (0,0)) (q66c_ BK524.out) hb);have n1_:=am_ (blk_below (g:=gb525) (o:=.cells #[.slice none 0 0] 34 (0,0)) (q66c_ BK525.out) hb);have n2_:=am_ (below_step (qa3a_ GE524.out GE525.out) hb);clear BK524 BK525 HB;have BK524:=n0_;have BK525:=n1_;have HB:=n2_;clear n0_ n1_ n2_
   (try clear hb)
   (try clear hb2)
   (try clear hk)
   (try clear hi)
   refine hK.out _ _ ((blk_cell BK524.out 0).trans rfl) (fun hHeld=>?_);clear hK K;refine nm_ ?_;refine pu_ 2 11 24 7 ?_;refine pu_ 3 12 24 15 ?_;refine pu_ 4 13 24 31 ?_;refine on_ 5 (some 14) 24 63 fun K hK=>?_;refine goes_ Tryz.func216 (by kernel_rfl) rfl #[.int .i64 a1] (by rfl) rfl rfl qef5_ ?_
   with_reducible refine (impl_isKey.calls a1 false _ A8.out).mono ?_
   rintro e w' ⟨rfl,⟨nd,rfl⟩⟩;refine ⟨_,rfl,?_⟩;refine hK.out _ _ ((blk_cell BK524.out 0).trans rfl) (fun hHeld=>?_);clear hK K;refine nm_ ?_;refine pu_ 6 15 24 127 ?_;refine pu_ 7 16 24 255 ?_;refine pu_ 8 17 24 511 ?_;refine pn_ 9 18 24 1023 ?_;refine pn_ 10 19 24 2047 ?_;refine pn_ 11 20 24 4095 ?_;refine pn_ 12 21 24 8191 ?_;refine pu_ 13 22 24 16383 ?_;refine pu_ 14 23 24 32767 ?_;refine pn_ 15 24 24 65535 ?_;refine pn_ 16 25 24 131071 ?_;refine pn_ 17 26 24 262143 ?_;refine pn_ 18 27 24 524287 ?_;refine pn_ 19 28 24 1048575 ?_;refine pn_ 20 29 24 2097151 ?_;refine pn_ 21 30 24 4194303 ?_;refine pn_ 22 31 24 8388607 ?_;refine pu_ 23 32 24 16777215 ?_;refine done_ (done_of HT_.out (by kernel_rfl)) ?_
   try go_wp2
   go_meet
   case rel=>exact ⟨_,(true),qc8f_,H',⟨q821_⟩,⟨q66c_ BK524.out⟩,⟨q66c_ BK525.out⟩,⟨qa3a_ GE524.out GE525.out⟩⟩
  subst c7;have H':=am_ H;clear H
  try go_wp2
  have n0_:=am_ (blk_drew BK524.out);have n1_:=am_ (blk_drew BK525.out);have n2_:=am_ (below_drew1 HB.out);clear BK524 BK525 HB;have BK524:=n0_;have BK525:=n1_;have HB:=n2_;clear n0_ n1_ n2_;refine start_ (n:=24) (S:=fun w'=>w'.cell? ⟨gb524,0,none⟩ = some (.slice A0_0 l0_0.length c0_0)) (ds:=[]) (mk_ 24 0) (by kernel_rfl) rfl (by kernel_rfl) ((blk_cell BK524.out 0).trans rfl) (fun hHeld=>?_);refine with_tabW impl_InsertKey.tab1 impl_InsertKey.bits1 (fun HT_ HW_=>?_)
  generalize w5.drew = w21 at BK524 BK525 HB hHeld ⊢;refine tk_ 0 9 24 1 ?_;refine on_ 1 (some 10) 24 3 fun K hK=>?_;refine goes_ Tryz.func61 (by kernel_rfl) rfl #[.agg #[.slice A0_0 l0_0.length c0_0]] (by rfl) rfl rfl qef5_ ?_
  with_reducible refine (impl_isTable.calls k _ _ l0_0 false _ ?s1 ?s2 A6.out).mono ?_
  (case s1=>exact qe02_ HR0_0.out)
  (case s2=>exact HC0_0.out)
  rintro e w22 ⟨rfl,hb⟩;refine ⟨_,rfl,?_⟩;have n0_:=am_ (blk_below (g:=gb524) (o:=.cells #[.slice A0_0 l0_0.length c0_0] 34 (0,0)) (q66c_ BK524.out) hb);have n1_:=am_ (blk_below (g:=gb525) (o:=.cells #[.slice none 0 0] 34 (0,0)) (q66c_ BK525.out) hb);have n2_:=am_ (below_step (qa3a_ GE524.out GE525.out) hb);clear BK524 BK525 HB;have BK524:=n0_;have BK525:=n1_;have HB:=n2_;clear n0_ n1_ n2_
  (try clear hb)
  (try clear hb2)
  (try clear hk)
  (try clear hi)
  refine hK.out _ _ ((blk_cell BK524.out 0).trans rfl) (fun hHeld=>?_);clear hK K;refine nm_ ?_;refine pu_ 2 11 24 7 ?_;refine pu_ 3 12 24 15 ?_;refine pn_ 4 13 24 31 ?_;refine pn_ 5 14 24 63 ?_;refine pn_ 6 15 24 127 ?_;refine pu_ 7 16 24 255 ?_;refine pu_ 8 17 24 511 ?_;refine pn_ 9 18 24 1023 ?_;refine pn_ 10 19 24 2047 ?_;refine pn_ 11 20 24 4095 ?_;refine pn_ 12 21 24 8191 ?_;refine pu_ 13 22 24 16383 ?_;refine pu_ 14 23 24 32767 ?_;refine pn_ 15 24 24 65535 ?_;refine pn_ 16 25 24 131071 ?_;refine pn_ 17 26 24 262143 ?_;refine pn_ 18 27 24 524287 ?_;refine pn_ 19 28 24 1048575 ?_;refine pn_ 20 29 24 2097151 ?_;refine pn_ 21 30 24 4194303 ?_;refine pn_ 22 31 24 8388607 ?_;refine pu_ 23 32 24 16777215 ?_;refine done_ (done_of HT_.out (by kernel_rfl)) ?_
  try go_wp2
  go_meet
  case rel=>exact ⟨_,(true),qc8f_,H',⟨q821_⟩,⟨q66c_ BK524.out⟩,⟨q66c_ BK525.out⟩,⟨qa3a_ GE524.out GE525.out⟩⟩
 case rest =>
  clear HC3;obtain ⟨kq,x32_2,rfl,HA,HJ2,BK524,BK525,HB⟩:=hcut;cases kq with
  | zero=>exact n0_ HA.out
  | succ kj2 =>
   have H:=HA.out;clear HA;simp only [impl_InsertKey.j0] at H;revert H;refine be_ (fun c23 H=>?_) fun c23 H=>?_
   ·
    subst c23;obtain ⟨rfl,rfl,rfl⟩:=st_ H;have hnb24:=NB525_524.out;have hnc24:=NB524_525.out;have hcz25_0:wc.cell? ⟨gb525,0,none⟩ = some (.slice none 0 0):=(blk_cell BK525.out 0).trans rfl;have hfz25_0:=blk_frozen BK525.out 0;go_wp2;refine bodyPost_ret (results_ctt rfl _ _ gb525 34 #[.slice none 0 0] (0,0) _ rfl (q75f_ BK525.out) Tryz.underlying34 rfl (by kernel_rfl)) rfl ?_;exact ⟨_,qce7_,qf62_,qa3a_ GE524.out GE525.out⟩
   subst c23;obtain ⟨t532,A26,H⟩:=ob_ H;obtain ⟨⟨t536,t537⟩,A27,H⟩:=ob_ H;dsimp only at H;obtain ⟨rfl,rfl,rfl⟩:=st_ H;have hnb28:=NB524_525.out;have hnc28:=NB525_524.out;have hcz29_0:wc.cell? ⟨gb524,0,none⟩ = some (.slice A0_0 l0_0.length c0_0):=(blk_cell BK524.out 0).trans rfl;have hfz29_0:=blk_frozen BK524.out 0
   go_wp2_with (first | ((with_reducible refine gc_ 54 ?_);refine gl_ 35 Tryz.func54 #[.agg #[.slice A0_0 l0_0.length c0_0]] ?_;(with_reducible refine (impl_Table_copied.calls _ _ l0_0 t532 _ ?s1 ?s2 A26.out).mono ?_);(case s1=>exact qe02_ HR0_0.out);(case s2=>exact HC0_0.out);rintro e w30 ⟨v533,rfl,ho0,hb⟩;refine ⟨_,rfl,?_⟩;have HO534:=am_ (Kd.R_lower ho0 (below_size (qa3a_ GE524.out GE525.out)));replace BK524:=am_ (blk_below (g:=gb524) (o:=.cells #[.slice A0_0 l0_0.length c0_0] 34 (0,0)) (q66c_ BK524.out) hb);replace BK525:=am_ (blk_below (g:=gb525) (o:=.cells #[.slice none 0 0] 34 (0,0)) (q66c_ BK525.out) hb);replace HB:=am_ (below_step (qa3a_ GE524.out GE525.out) hb);clear hb ho0) | ((with_reducible refine gd_ 7 ?_);(try (refine gate_guard (by rfl) ?_;dsimp only));refine bx_ #[.slice none 0 0] 34 ?_;intro gb535 hg w31 hbox hb;replace HO534:=am_ (Kd.R_below (q9d5_ HO534.out) hb);have BK535:=am_ (hbox);have GW535:=am_ ((by rw [hg];exact (below_size (qa3a_ GE524.out GE525.out)):w.heap.size<=gb535));have GE535:=am_ ((by rw [hg];exact (below_size (qa3a_ GE524.out GE525.out)):w.heap.size<=gb535));have NB524_535:=am_ ((by rw [hg];exact Nat.ne_of_lt (blk_lt (g:=gb524) (o:=.cells #[.slice A0_0 l0_0.length c0_0] 34 (0,0)) (q66c_ BK524.out)):gb524 ≠ gb535));have NB535_524:=am_ ((by rw [hg];exact Nat.ne_of_gt (blk_lt (g:=gb524) (o:=.cells #[.slice A0_0 l0_0.length c0_0] 34 (0,0)) (q66c_ BK524.out)):gb535 ≠ gb524));replace BK524:=am_ (blk_below (g:=gb524) (o:=.cells #[.slice A0_0 l0_0.length c0_0] 34 (0,0)) (q66c_ BK524.out) hb);have NB525_535:=am_ ((by rw [hg];exact Nat.ne_of_lt (blk_lt (g:=gb525) (o:=.cells #[.slice none 0 0] 34 (0,0)) (q66c_ BK525.out)):gb525 ≠ gb535));have NB535_525:=am_ ((by rw [hg];exact Nat.ne_of_gt (blk_lt (g:=gb525) (o:=.cells #[.slice none 0 0] 34 (0,0)) (q66c_ BK525.out)):gb535 ≠ gb525));replace BK525:=am_ (blk_below (g:=gb525) (o:=.cells #[.slice none 0 0] 34 (0,0)) (q66c_ BK525.out) hb);replace HB:=am_ (below_step (qa3a_ GE524.out GE525.out) hb);clear hb hbox hg;obtain ⟨Ao32,co32,eo32⟩:=Kd.R_slice HO534.out;subst eo32;have hnb33:=NB535_524.out;have hnc33:=NB524_535.out;have hnb34:=NB535_525.out;have hnc34:=NB525_535.out;have hcz35_0:w31.cell? ⟨gb535,0,none⟩ = some (.slice none 0 0):=(blk_cell BK535.out 0).trans rfl;have hfz35_0:=blk_frozen BK535.out 0) | ((with_reducible refine gate_store (t:=34) (p:=7) rfl ?_);refine store_event (t:=34) (p:=7) (v:=?vo_w36) (w1:=(w31.setCell ⟨gb535,0,none⟩ (.slice Ao32 t532.length co32))) ?hg ?ho ?hn ?hr ?_;(case ho=>rfl);(case hg=>rfl);(case hn=>rfl);(case hr=>exact qfba_);intro w36 hw;have n0_:Aside0 (Kd.R (Kd.int .i64) 3 w36 w.heap.size (fun _=>True) (.slice Ao32 t532.length co32) t532):=⟨(by rw [hw];exact (by (with_reducible repeat (first | apply Kd.R_alloc | apply Kd.R_drewN | apply Kd.R_drew));exact Kd.R_mono (Kd.R_far (p:=⟨gb535,0,none⟩) (Kd.R_types HO534.out BK535.out (by decide)) (fun _ hk=>hk.2) (.slice Ao32 t532.length co32)) (fun _ hk=>trivial)))⟩;have n1_:Aside0 (w36.heap[gb524]? = some (.cells #[.slice A0_0 l0_0.length c0_0] 34 (0,0))):=⟨(by rw [hw];exact (q6c2_ NB524_535.out BK524.out))⟩;have n2_:Aside0 (w36.heap[gb525]? = some (.cells #[.slice none 0 0] 34 (0,0))):=⟨(by rw [hw];exact (q6c2_ NB525_535.out BK525.out))⟩;have n3_:Aside0 (w36.heap[gb535]? = some (.cells #[.slice Ao32 t532.length co32] 34 (0,0))):=⟨(by rw [hw];exact (q75f_ BK535.out))⟩;have n4_:Aside0 (Below w.heap.size w w36):=⟨(by rw [hw];exact (qb88_ GE524.out GE525.out GE535.out))⟩;clear hw;clear HO534;clear BK524;clear BK525;clear BK535;clear HB;have HO534:=n0_;have BK524:=n1_;have BK525:=n2_;have BK535:=n3_;have HB:=n4_;clear n0_ n1_ n2_ n3_ n4_;have hcz37_0:w36.cell? ⟨gb535,0,none⟩ = some (.slice Ao32 t532.length co32):=(blk_cell BK535.out 0).trans rfl;have hfz37_0:=blk_frozen BK535.out 0) | ((with_reducible refine gc_ 218 ?_);refine gl_ 38 Tryz.func218 #[.agg #[.slice Ao32 t532.length co32],.int .i64 a1] ?_;(with_reducible refine (impl_Table_insert.calls kj2 (fun k_=>some k_ = (.slice Ao32 t532.length co32:Value).ownBlock) (.slice Ao32 t532.length co32) t532 a1 t536 t537 w _ ?s1 ?s2 A27.out).mono ?_);(case s1=>exact qb88_ GE524.out GE525.out GE535.out);(case s2=>exact Kd.R_tight rfl HO534.out);rintro e w38 ⟨rfl,hy0,hb,hkp⟩;refine ⟨_,rfl,?_⟩;replace BK524:=am_ (blk_kept (q66c_ BK524.out) hkp (fun hs_=>(fun e_=>(Kd.R_ne HO534.out BK524.out (by decide)) e_) hs_));replace BK525:=am_ (blk_kept (q66c_ BK525.out) hkp (fun hs_=>(fun e_=>(Kd.R_ne HO534.out BK525.out (by decide)) e_) hs_));replace BK535:=am_ (blk_kept (q66c_ BK535.out) hkp (fun hs_=>(fun e_=>(Kd.R_ne HO534.out BK535.out (by decide)) e_) hs_));replace HO534:=am_ (Kd.R_reok rfl hy0 (fun k_ e_=>HO534.out.1 k_ e_));replace HB:=am_ (hb);clear hb;(try clear hkp);(try clear hy0);have hcz39_0:w38.cell? ⟨gb535,0,none⟩ = some (.slice Ao32 t532.length co32):=(blk_cell BK535.out 0).trans rfl;have hfz39_0:=blk_frozen BK535.out 0;have hcz40_0:w38.cell? ⟨gb525,0,none⟩ = some (.slice none 0 0):=(blk_cell BK525.out 0).trans rfl;have hfz40_0:=blk_frozen BK525.out 0))
   refine bodyPost_ret (results_ctt rfl _ _ gb525 34 #[.slice Ao32 t532.length co32] (0,0) _ rfl (q75f_ BK525.out) Tryz.underlying34 rfl (by kernel_rfl)) rfl ?_;exact ⟨_,qce7_,by (with_reducible repeat (first | apply Kd.R_alloc | apply Kd.R_drewN | apply Kd.R_drew));exact Kd.R_mono (Kd.R_far (p:=⟨gb525,0,none⟩) (Kd.R_types HO534.out BK525.out (by decide)) (fun _ hk=>hk.2) (.slice Ao32 t532.length co32)) (fun _ hk=>trivial),qb88_ GE524.out GE525.out GE535.out⟩
def impl_FindKey.j0:Nat->Int->Bool->List Int->Option (Int × Int × Bool)
 | 0,_,_,_=>none
 | k + 1,x1,x22,x539000=>if x22 = true then (some (0,0,false)) else ((slices_Index_int_int.f k x539000 x1).bind fun t542=>((impl_Table_cost.f x539000 t542).bind fun t543=>(some (t542,t543,true))))
def impl_FindKey.f (k:Nat) (l0_0:List Int) (a1:Int):Option (Int × Int × Bool):=(impl_isTable.f k l0_0).bind fun t539=>(if t539 = true then ((impl_isKey.f a1).bind fun t540=>(if t540 = true then ((slices_Contains_int_int.f k l0_0 a1).bind fun t541=>(impl_FindKey.j0 k a1 (!t541) l0_0)) else (impl_FindKey.j0 k a1 true l0_0))) else (impl_FindKey.j0 k a1 true l0_0))
theorem impl_FindKey.calls (k:Nat) (A0_0:Option Addr) (c0_0:Nat) (l0_0:List Int) (a1:Int) (r1:Int) (r2:Int) (r3:Bool) (w:World) (hr0_0:Kd.C (Kd.int .i64) w A0_0 l0_0.length l0_0) (hc0_0:l0_0.length<=c0_0) (h:impl_FindKey.f k l0_0 a1 = some (r1,r2,r3)) :
  Calls Tryz.prog 157 #[.agg #[.slice A0_0 l0_0.length c0_0],.int .i64 a1] w fun e w'=>e = .returned (.tuple #[.int .i64 r1,.int .i64 r2,.bool r3])/\Below w.heap.size w w':=by
 have hu34:=Tryz.underlying34;have HR0_0:=am_ hr0_0;have HC0_0:=am_ hc0_0;clear hr0_0 hc0_0;have HB:=am_ (Below.refl w.heap.size w);unfold impl_FindKey.f at h;have H:=h;clear h;have HC3:=am_ H;clear H;go_enter Tryz.func157,Tryz.ntmps157
 go_upto_region 1 with (first | ((with_reducible refine gd_ 2 ?_);refine bx_ #[.slice A0_0 l0_0.length c0_0] 34 ?_;intro gb538 hg w4 hbox hb;have BK538:=am_ (hbox);have GW538:=am_ ((by rw [hg];exact (below_size q0c4_):w.heap.size<=gb538));have GE538:=am_ ((by rw [hg];exact (below_size q0c4_):w.heap.size<=gb538));replace HB:=am_ (below_step q0c4_ hb);clear hb hbox hg))
 (try simp only [Act.put,List.setIfInBounds_toArray,List.set_cons_zero,List.set_cons_succ])
 go_cut [22] (fun v22 wc=>∃ (kq:Nat) (x22_2:Bool),v22 = .bool x22_2/\Aside0 (impl_FindKey.j0 kq a1 x22_2 l0_0 = some (r1,r2,r3))/\Aside0 (kq<=k)/\Aside0 (wc.heap[gb538]? = some (.cells #[(.slice A0_0 l0_0.length c0_0)] 34 (0,0)))/\Aside0 (Below w.heap.size w wc))
 case first =>
  have H:=HC3.out;clear HC3;obtain ⟨t539,A5,H⟩:=ob_ H;revert H;refine be_ (fun c6 H=>?_) fun c6 H=>?_
  ·
   subst c6;obtain ⟨t540,A7,H⟩:=ob_ H;revert H;refine be_ (fun c8 H=>?_) fun c8 H=>?_
   ·
    subst c8;obtain ⟨t541,A9,H⟩:=ob_ H;have H':=am_ H;clear H;have hcz10_0:w4.cell? ⟨gb538,0,none⟩ = some (.slice A0_0 l0_0.length c0_0):=(blk_cell BK538.out 0).trans rfl;have hfz10_0:=blk_frozen BK538.out 0;go_wp2_with (first | ((with_reducible refine gc_ 61 ?_);refine gl_ 9 Tryz.func61 #[.agg #[.slice A0_0 l0_0.length c0_0]] ?_;(with_reducible refine (impl_isTable.calls k _ _ l0_0 true _ ?s1 ?s2 A5.out).mono ?_);(case s1=>exact qe02_ HR0_0.out);(case s2=>exact HC0_0.out);rintro e w11 ⟨rfl,hb⟩;refine ⟨_,rfl,?_⟩;replace BK538:=am_ (blk_below (g:=gb538) (o:=.cells #[.slice A0_0 l0_0.length c0_0] 34 (0,0)) (q66c_ BK538.out) hb);replace HB:=am_ (below_step (qfcd_ GE538.out) hb);clear hb) | (go_at_call 216;(with_reducible refine (impl_isKey.calls a1 true _ A7.out).mono ?_);rintro e w' ⟨rfl,⟨nd,rfl⟩⟩;have hcz12_0:w11.cell? ⟨gb538,0,none⟩ = some (.slice A0_0 l0_0.length c0_0):=(blk_cell BK538.out 0).trans rfl;have hfz12_0:=blk_frozen BK538.out 0) | (go_at_call 96;(with_reducible refine (slices_Contains_int_int.calls k _ _ l0_0 a1 t541 _ ?s1 ?s2 A9.out).mono ?_);(case s1=>exact q28c_ HR0_0.out GE538.out);(case s2=>exact HC0_0.out);rintro e w' ⟨rfl,⟨nd,rfl⟩⟩));go_meet
    case rel=>exact ⟨_,(!t541),qc8f_,H',⟨q821_⟩,⟨q66c_ BK538.out⟩,⟨qfcd_ GE538.out⟩⟩
   subst c8;have H':=am_ H;clear H;have hcz13_0:w4.cell? ⟨gb538,0,none⟩ = some (.slice A0_0 l0_0.length c0_0):=(blk_cell BK538.out 0).trans rfl;have hfz13_0:=blk_frozen BK538.out 0;go_wp2_with (first | ((with_reducible refine gc_ 61 ?_);refine gl_ 9 Tryz.func61 #[.agg #[.slice A0_0 l0_0.length c0_0]] ?_;(with_reducible refine (impl_isTable.calls k _ _ l0_0 true _ ?s1 ?s2 A5.out).mono ?_);(case s1=>exact qe02_ HR0_0.out);(case s2=>exact HC0_0.out);rintro e w14 ⟨rfl,hb⟩;refine ⟨_,rfl,?_⟩;replace BK538:=am_ (blk_below (g:=gb538) (o:=.cells #[.slice A0_0 l0_0.length c0_0] 34 (0,0)) (q66c_ BK538.out) hb);replace HB:=am_ (below_step (qfcd_ GE538.out) hb);clear hb) | (go_at_call 216;(with_reducible refine (impl_isKey.calls a1 false _ A7.out).mono ?_);rintro e w' ⟨rfl,⟨nd,rfl⟩⟩));go_meet
   case rel=>exact ⟨_,(true),qc8f_,H',⟨q821_⟩,⟨q66c_ BK538.out⟩,⟨qfcd_ GE538.out⟩⟩
  subst c6;have H':=am_ H;clear H;have hcz15_0:w4.cell? ⟨gb538,0,none⟩ = some (.slice A0_0 l0_0.length c0_0):=(blk_cell BK538.out 0).trans rfl;have hfz15_0:=blk_frozen BK538.out 0;go_wp2_with (first | ((with_reducible refine gc_ 61 ?_);refine gl_ 9 Tryz.func61 #[.agg #[.slice A0_0 l0_0.length c0_0]] ?_;(with_reducible refine (impl_isTable.calls k _ _ l0_0 false _ ?s1 ?s2 A5.out).mono ?_);(case s1=>exact qe02_ HR0_0.out);(case s2=>exact HC0_0.out);rintro e w16 ⟨rfl,hb⟩;refine ⟨_,rfl,?_⟩;replace BK538:=am_ (blk_below (g:=gb538) (o:=.cells #[.slice A0_0 l0_0.length c0_0] 34 (0,0)) (q66c_ BK538.out) hb);replace HB:=am_ (below_step (qfcd_ GE538.out) hb);clear hb));go_meet
  case rel=>exact ⟨_,(true),qc8f_,H',⟨q821_⟩,⟨q66c_ BK538.out⟩,⟨qfcd_ GE538.out⟩⟩
 case rest =>
  clear HC3;obtain ⟨kq,x22_2,rfl,HA,HJ2,BK538,HB⟩:=hcut;cases kq with
  | zero=>exact n0_ HA.out
  | succ kj2 =>
   have H:=HA.out;clear HA;simp only [impl_FindKey.j0] at H;revert H;refine be_ (fun c17 H=>?_) fun c17 H=>?_
   ·
    subst c17;obtain ⟨rfl,rfl,rfl⟩:=st_ H;go_wp2;go_ret3;exact ⟨qce7_,qfcd_ GE538.out⟩
   subst c17;obtain ⟨t542,A18,H⟩:=ob_ H;obtain ⟨t543,A19,H⟩:=ob_ H;obtain ⟨rfl,rfl,rfl⟩:=st_ H;have hcz20_0:wc.cell? ⟨gb538,0,none⟩ = some (.slice A0_0 l0_0.length c0_0):=(blk_cell BK538.out 0).trans rfl;have hfz20_0:=blk_frozen BK538.out 0;go_wp2_with (first | ((with_reducible refine gc_ 166 ?_);refine gl_ 26 Tryz.func166 #[.slice A0_0 l0_0.length c0_0,.int .i64 a1] ?_;(with_reducible refine (slices_Index_int_int.calls kj2 _ _ l0_0 a1 t542 _ ?s1 ?s2 A18.out).mono ?_);(case s1=>exact qe02_ HR0_0.out);(case s2=>exact HC0_0.out);rintro e w' ⟨rfl,⟨nd,rfl⟩⟩;refine ⟨_,rfl,?_⟩) | ((with_reducible refine gc_ 97 ?_);refine gl_ 30 Tryz.func97 #[.agg #[.slice A0_0 l0_0.length c0_0],.int .i64 t542] ?_;(with_reducible refine (impl_Table_cost.calls _ _ l0_0 t542 t543 _ ?s1 ?s2 A19.out).mono ?_);(case s1=>exact q28c_ HR0_0.out GE538.out);(case s2=>exact HC0_0.out);rintro e w21 ⟨rfl,hb⟩;refine ⟨_,rfl,?_⟩;replace BK538:=am_ (blk_below (g:=gb538) (o:=.cells #[.slice A0_0 l0_0.length c0_0] 34 (0,0)) (q66c_ BK538.out) hb);replace HB:=am_ (below_step (qfcd_ GE538.out) hb);clear hb));go_ret3;exact ⟨qce7_,qfcd_ GE538.out⟩
def laws_eqIntS.l0:Nat->List Int->List Int->Int->Option (Bool)
 | 0,_,_,_=>none
 | k + 1,x0,x1,x5=>if x5 < (x0.length:Int) then (if 0<=x5 then (if x5 < (x1.length:Int) then (if (rd x0 x5) = (rd x1 x5) then (laws_eqIntS.l0 k x0 x1 (wrap64 (x5 + 1))) else (some false)) else (none)) else (none)) else (some true)
def laws_eqIntS.f (k:Nat) (l0:List Int) (l1:List Int):Option (Bool):=if (l0.length:Int) = (l1.length:Int) then (laws_eqIntS.l0 k l0 l1 0) else (some false)
theorem laws_eqIntS.calls (k:Nat) (A0:Option Addr) (c0:Nat) (l0:List Int) (A1:Option Addr) (c1:Nat) (l1:List Int) (r:Bool) (w:World) (hr0:Kd.C (Kd.int .i64) w A0 l0.length l0) (hc0:l0.length<=c0) (hr1:Kd.C (Kd.int .i64) w A1 l1.length l1) (hc1:l1.length<=c1) (h:laws_eqIntS.f k l0 l1 = some r) :
  Calls Tryz.prog 11 #[.slice A0 l0.length c0,.slice A1 l1.length c1] w fun e w'=>e = .returned (.bool r)/\Drawn0 w w':=by
 have HR0:=am_ hr0;have HC0:=am_ hc0;clear hr0 hc0;have HR1:=am_ hr1;have HC1:=am_ hc1;clear hr1 hc1;unfold laws_eqIntS.f at h;have H:=h;clear h
 by_cases c3:(l0.length:Int) = (l1.length:Int)
 ·
  rw [if_pos c3] at H;have c3b0:=beq_iff_eq.mpr c3;have c3b1:=bne_eq_false_iff_eq.mpr c3;have c3b2:(l0.length == l1.length) = true:=q002_;clear c3;have H':=am_ H;clear H;go_enter Tryz.func11,Tryz.ntmps11;go_wp2
  repeat (go_quiet (fail);try go_wp2)
  go_loopg [5] k (fun kq v5 w'=>∃ (x5_1:Int),v5 = .int .i64 x5_1/\Aside0 (laws_eqIntS.l0 kq l0 l1 x5_1 = some r)/\Aside0 (kq<=k)/\Drawn0 w w')
  case atStart=>exact ⟨(0),qc8f_,H',⟨Nat.le_refl _⟩,qffa_⟩
  case round =>
   clear H';obtain ⟨x5_1,rfl,HA,HK1,⟨m1,rfl⟩⟩:=hrel;cases gk with
   | zero=>exact n0_ HA.out
   | succ k1 =>
    have H:=HA.out;clear HA;simp only [laws_eqIntS.l0] at H;revert H;refine ie_ (fun c4b0 H=>?_) fun c4b0 H=>?_
    ·
     revert H;refine id_ fun c5b0 H=>?_;revert H;refine id_ fun c6b0 H=>?_;revert H;refine ee_ (fun c7b0 c7b1 H=>?_) fun c7 c7b0 c7b1 H=>?_
     ·
      have H':=am_ H;clear H;obtain ⟨ad559,rfl,hx559_0,p559,q559⟩:=ri_ HR0.out x5_1;obtain ⟨ad560,rfl,hx560_0,p560,q560⟩:=ri_ HR1.out x5_1;go_wp2
      repeat (go_quiet (fail);try go_wp2)
      go_roundg k1
      case measure=>have:=HK1.out;omega
      case rel=>exact ⟨(wrap64 (x5_1 + 1)),qc8f_,H',⟨q1d0_ HK1.out⟩,qffa_⟩
     obtain rfl:=Option.some.inj H;obtain ⟨ad559,rfl,hx559_0,p559,q559⟩:=ri_ HR0.out x5_1;obtain ⟨ad560,rfl,hx560_0,p560,q560⟩:=ri_ HR1.out x5_1;go_wp2
     repeat (go_quiet (fail);try go_wp2)
     go_ret;exact ⟨qc8f_,qffa_⟩
    obtain rfl:=Option.some.inj H;go_wp2
    repeat (go_quiet (fail);try go_wp2)
    go_ret;exact ⟨qc8f_,qffa_⟩
 rw [if_neg c3] at H;have c3b0:=beq_eq_false_iff_ne.mpr c3;have c3b1:=bne_iff_ne.mpr c3;have c3b2:(l0.length == l1.length) = false:=q002_;obtain rfl:=Option.some.inj H;go_enter Tryz.func11,Tryz.ntmps11;go_wp2
 repeat (go_quiet (fail);try go_wp2)
 go_ret;exact ⟨qc8f_,qffa_⟩
def laws_markIntS.l0:Nat->List Int->Int->Int->Option (Int × List Int)
 | 0,_,_,_=>none
 | k + 1,x0,x1,x5=>if x5 < (x0.length:Int) then (if 0<=x5 then (laws_markIntS.l0 k (x0.set (x5:Int).toNat x1) (wrap64 (x1 + 1)) (wrap64 (x5 + 1))) else (none)) else (some (x1,x0))
def laws_markIntS.f (k:Nat) (l0:List Int) (a1:Int):Option (Int × List Int):=laws_markIntS.l0 k l0 a1 0
theorem laws_markIntS.calls (k:Nat) (P0_:Nat->Prop) (u9000_:Value) (l0:List Int) (a1:Int) (r1:Int) (r2:List Int) (w0 w:World) (hB:Below w0.heap.size w0 w) (ho0:Kd.R (Kd.int .i64) 3 w w0.heap.size P0_ u9000_ l0) (h:laws_markIntS.f k l0 a1 = some (r1,r2)) :
  Calls Tryz.prog 12 #[u9000_,.int .i64 a1] w fun e w'=>e = .returned (.int .i64 r1)/\Kd.R (Kd.int .i64) 3 w' w0.heap.size (fun k_=>(P0_ k_ \/ w.heap.size<=k_)) u9000_ r2/\Below w0.heap.size w0 w'/\Kept w w' (fun k_=>P0_ k_):=by
 have HO0:=am_ (show Kd.R (Kd.int .i64) 3 w w0.heap.size (fun k_=>(P0_ k_ \/ w.heap.size<=k_)) u9000_ l0 from Kd.R_mono ho0 (fun k_ hk=>(.inl hk)));have HK:=am_ (Kept.refl w (fun k_=>P0_ k_));have HW0:=am_ hB.size;have HB:=am_ hB;clear hB;unfold laws_markIntS.f at h;have H:=h;clear h;have H':=am_ H;clear H;go_enter Tryz.func12,Tryz.ntmps12;go_wp2
 go_loopg [1,5] k (fun kq v1 v5 w'=>∃ (x0_1:List Int) (x1_1:Int) (x5_1:Int),v1 = .int .i64 x1_1/\v5 = .int .i64 x5_1/\Aside0 (laws_markIntS.l0 kq x0_1 x1_1 x5_1 = some (r1,r2))/\Aside0 (kq<=k)/\Aside0 (Kd.R (Kd.int .i64) 3 w' w0.heap.size (fun k_=>(P0_ k_ \/ w.heap.size<=k_)) u9000_ x0_1)/\Aside0 (Kept w w' (fun k_=>P0_ k_))/\Aside0 (Below w0.heap.size w0 w'))
 case atStart=>exact ⟨(l0),(a1),(0),qc8f_,qc8f_,H',⟨Nat.le_refl _⟩,⟨q9d5_ HO0.out⟩,⟨qf72_⟩,⟨q0c4_⟩⟩
 case round =>
  clear H';obtain ⟨x0_1,x1_1,x5_1,rfl,rfl,HA,HK1,HO_0,HK,HB⟩:=hrel;cases gk with
  | zero=>exact n0_ HA.out
  | succ k1 =>
   have H:=HA.out;clear HA;simp only [laws_markIntS.l0] at H;revert H;refine ie_ (fun c3b0 H=>?_) fun c3b0 H=>?_
   ·
    revert H;refine id_ fun c4b0 H=>?_;obtain ⟨y561,hy561⟩:=gn_ ((x0_1.set (x5_1:Int).toNat x1_1):List Int);replace H:(laws_markIntS.l0 k1 y561 (wrap64 (x1_1 + 1)) (wrap64 (x5_1 + 1))) = some (r1,r2):=rl_ hy561 H;have Ny561:=am_ hy561;clear hy561;have H':=am_ H;clear H;obtain ⟨Ao6,co6,eo6⟩:=Kd.R_slice HO_0.out;subst eo6;have p5:0<=(x5_1:Int):=of_decide_eq_true qe84_;have q5:(x5_1:Int) < ((x0_1.length:Int):Int):=of_decide_eq_true qe84_;obtain ⟨go5,co5,eo5,gb5,gl5,cl5,HG5⟩:=Kd.R_form HO_0.out (by omega)
    (first | cases eo5 | (injection eo5 with ea_ en_ ec_;(first | subst ea_ | (injection ea_ with ea_;subst ea_));subst ec_;clear en_))
    have GB5:=am_ gb5;have GG5:=am_ HG5;clear gb5 gl5 HG5;have HMgo5:=am_ (show (P0_ go5 \/ w.heap.size<=go5) from (HO_0.out.1 _ rfl));obtain ⟨hx5_0,hf5_0⟩:=Kd.R_celln 0 HO_0.out (x5_1:Int) p5 q5;replace p5:=eq_true p5;replace q5:=eq_true q5;have HP7:=Kd.R_putg HO_0.out (x5_1:Int) x1_1;go_wp2_with (first | ((with_reducible refine gate_store (t:=3) (p:=15) rfl ?_);refine store_event (t:=3) (p:=15) (v:=?vo_w8) (w1:=(wr.setCell ⟨go5,(x5_1:Int).toNat,none⟩ (.int .i64 x1_1))) ?hg ?ho ?hn ?hr ?_;(case ho=>rfl);(case hg=>rfl);(case hn=>rfl);(case hr=>exact qfba_);intro w8 hw;have hg:wr.grownBy w8 (some go5):=(by rw [hw];exact HP7.2);have hp_:Kd.R (Kd.int .i64) 3 w8 w0.heap.size (fun k_=>(P0_ k_ \/ w.heap.size<=k_)) (.slice (some ⟨go5,0,none⟩) x0_1.length co6) y561:=(by rw [hw,Ny561.out];exact HP7.1);clear HP7;replace HK:=am_ (Kept.of_grown (S:=(fun k_=>P0_ k_)) hg qf72_ (fun k_ e_=>(HO_0.out.1 k_ e_)));replace HO_0:=am_ (hp_);replace HB:=am_ ((by rw [hw];exact below_set (HB.out) GB5.out:Below w0.heap.size w0 w8));clear hg hw hp_));go_roundg k1
    case measure=>have:=HK1.out;omega
    case rel=>exact ⟨(y561),(wrap64 (x1_1 + 1)),(wrap64 (x5_1 + 1)),qc8f_,qc8f_,H',⟨q1d0_ HK1.out⟩,⟨q9d5_ HO_0.out⟩,⟨qf72_⟩,⟨q0c4_⟩⟩
   obtain ⟨rfl,rfl⟩:=sp_ H;obtain ⟨Ao9,co9,eo9⟩:=Kd.R_slice HO_0.out;subst eo9;go_wp2;go_ret;exact ⟨qce7_,q9d5_ HO_0.out,q0c4_,qf72_⟩
def laws_heldIntS.l0:Nat->List Int->Int->Int->Option (Int)
 | 0,_,_,_=>none
 | k + 1,x0,x1,x5=>if x5 < (x0.length:Int) then (if 0<=x5 then (if (rd x0 x5) = x1 then (laws_heldIntS.l0 k x0 (wrap64 (x1 + 1)) (wrap64 (x5 + 1))) else (some (-1))) else (none)) else (some x1)
def laws_heldIntS.f (k:Nat) (l0:List Int) (a1:Int):Option (Int):=laws_heldIntS.l0 k l0 a1 0
theorem laws_heldIntS.calls (k:Nat) (A0:Option Addr) (c0:Nat) (l0:List Int) (a1:Int) (r:Int) (w:World) (hr0:Kd.C (Kd.int .i64) w A0 l0.length l0) (hc0:l0.length<=c0) (h:laws_heldIntS.f k l0 a1 = some r) :
  Calls Tryz.prog 13 #[.slice A0 l0.length c0,.int .i64 a1] w fun e w'=>e = .returned (.int .i64 r)/\Drawn0 w w':=by
 have HR0:=am_ hr0;have HC0:=am_ hc0;clear hr0 hc0;have H:(laws_heldIntS.l0 k l0 a1 0) = some r:=h;clear h;have H':=am_ H;clear H;go_enter Tryz.func13,Tryz.ntmps13;go_wp2
 go_loopg [1,5] k (fun kq v1 v5 w'=>∃ (x1_1:Int) (x5_1:Int),v1 = .int .i64 x1_1/\v5 = .int .i64 x5_1/\Aside0 (laws_heldIntS.l0 kq l0 x1_1 x5_1 = some r)/\Aside0 (kq<=k)/\Drawn0 w w')
 case atStart=>exact ⟨(a1),(0),qc8f_,qc8f_,H',⟨Nat.le_refl _⟩,qffa_⟩
 case round =>
  clear H';obtain ⟨x1_1,x5_1,rfl,rfl,HA,HK1,⟨m1,rfl⟩⟩:=hrel;cases gk with
  | zero=>exact n0_ HA.out
  | succ k1 =>
   have H:=HA.out;clear HA;simp only [laws_heldIntS.l0] at H;revert H;refine ie_ (fun c3b0 H=>?_) fun c3b0 H=>?_
   ·
    revert H;refine id_ fun c4b0 H=>?_;revert H;refine ee_ (fun c5b0 c5b1 H=>?_) fun c5 c5b0 c5b1 H=>?_
    ·
     have H':=am_ H;clear H;obtain ⟨ad562,rfl,hx562_0,p562,q562⟩:=ri_ HR0.out x5_1;go_wp2;go_roundg k1
     case measure=>have:=HK1.out;omega
     case rel=>exact ⟨(wrap64 (x1_1 + 1)),(wrap64 (x5_1 + 1)),qc8f_,qc8f_,H',⟨q1d0_ HK1.out⟩,qffa_⟩
    obtain rfl:=Option.some.inj H;obtain ⟨ad562,rfl,hx562_0,p562,q562⟩:=ri_ HR0.out x5_1;go_wp2;go_ret;exact ⟨qc8f_,qffa_⟩
   obtain rfl:=Option.some.inj H;go_wp2;go_ret;exact ⟨qc8f_,qffa_⟩
def laws_eqStringS.l0:Nat->List ByteArray->List ByteArray->Int->Option (Bool)
 | 0,_,_,_=>none
 | k + 1,x0,x1,x5=>if x5 < (x0.length:Int) then (if 0<=x5 then (if x5 < (x1.length:Int) then (if (rdOf ByteArray.empty x0 x5).toList = (rdOf ByteArray.empty x1 x5).toList then (laws_eqStringS.l0 k x0 x1 (wrap64 (x5 + 1))) else (some false)) else (none)) else (none)) else (some true)
def laws_eqStringS.f (k:Nat) (l0:List ByteArray) (l1:List ByteArray):Option (Bool):=if (l0.length:Int) = (l1.length:Int) then (laws_eqStringS.l0 k l0 l1 0) else (some false)
def laws_markText.l0:Nat->Int->ByteArray->Option (ByteArray)
 | 0,_,_=>none
 | k + 1,x0,x3=>if x0 > 0 then ((some (([(wrap64 (48 + (Int.tmod x0 10))) % 256]:List Int):List Int)).bind fun y565=>(if (strOfNums y565).size + x3.size<=9223372036854775807 then (laws_markText.l0 k (wrap64 (Int.tdiv x0 10)) ((strOfNums y565) ++ x3)) else (none))) else (if 1 + x3.size<=9223372036854775807 then (some ((⟨#[109]⟩:ByteArray) ++ x3)) else (none))
def laws_markText.f (k:Nat) (a0:Int):Option (ByteArray):=if a0<=0 then (some (⟨#[109,48]⟩:ByteArray)) else (laws_markText.l0 k a0 (⟨#[]⟩:ByteArray))
def laws_markStringS.l0:Nat->List ByteArray->Int->Int->Option (Int × List ByteArray)
 | 0,_,_,_=>none
 | k + 1,x0,x1,x5=>if x5 < (x0.length:Int) then ((laws_markText.f k x1).bind fun t568=>(if 0<=x5 then (laws_markStringS.l0 k (x0.set (x5:Int).toNat t568) (wrap64 (x1 + 1)) (wrap64 (x5 + 1))) else (none))) else (some (x1,x0))
def laws_markStringS.f (k:Nat) (l0:List ByteArray) (a1:Int):Option (Int × List ByteArray):=laws_markStringS.l0 k l0 a1 0
def laws_heldStringS.l0:Nat->List ByteArray->Int->Int->Option (Int)
 | 0,_,_,_=>none
 | k + 1,x0,x1,x5=>if x5 < (x0.length:Int) then (if 0<=x5 then ((laws_markText.f k x1).bind fun t571=>(if (rdOf ByteArray.empty x0 x5).toList = t571.toList then (laws_heldStringS.l0 k x0 (wrap64 (x1 + 1)) (wrap64 (x5 + 1))) else (some (-1)))) else (none)) else (some x1)
def laws_heldStringS.f (k:Nat) (l0:List ByteArray) (a1:Int):Option (Int):=laws_heldStringS.l0 k l0 a1 0
def spec_coOwn.f (l0_0:List Int) (l0_1:List Int):Option (List Int × List Int):=(spec_l1Own.f l0_0).bind fun t574=>((spec_l1Own.f l0_1).bind fun t577=>(some (t574,t577)))
def spec_coOwn.T1:Bool × List (List Nat × List Nat):=(true,[([],[]),([0],[0]),([1],[1]),([],[]),([3],[3]),([4],[4]),([5,2],[5]),([6],[6]),([2,7],[2,7]),([8,6,0,1,2,3,4,5,6,7,8],[8])])
def spec_coOwn.B1:List Nat:=[0,1,3,0,8,24,63,127,255,511]
theorem spec_coOwn.tab1:rtab .any (opsOf Tryz.f41 1) = spec_coOwn.T1:=by kernel_rfl
theorem spec_coOwn.bits1:waitsOk spec_coOwn.T1.2 spec_coOwn.B1 = true:=by kernel_rfl
def laws_eqTable.f (k:Nat) (l0_0:List Int) (l1_0:List Int):Option (Bool):=(laws_eqIntS.f k l0_0 l1_0).bind fun t582=>(if t582 = true then (some true) else (some false))
def laws_eqDesk.f (k:Nat) (l0_0:List Int) (l0_1:List Int) (l1_0:List Int) (l1_1:List Int):Option (Bool):=(laws_eqIntS.f k l0_0 l1_0).bind fun t585=>(if t585 = true then ((laws_eqTable.f k l0_1 l1_1).bind fun t586=>(if t586 = true then (some true) else (some false))) else (some false))
def laws_markTable.f (k:Nat) (l0_0:List Int) (a1:Int):Option (Int × List Int):=(laws_markIntS.f k l0_0 a1).bind fun bt588=>(some (bt588.1,bt588.2))
def laws_markDesk.f (k:Nat) (l0_0:List Int) (l0_1:List Int) (a1:Int):Option (Int × List Int × List Int):=(laws_markIntS.f k l0_0 a1).bind fun bt591=>((laws_markTable.f k l0_1 bt591.1).bind fun bt593=>(some (bt593.1,bt591.2,bt593.2)))
def laws_heldTable.f (k:Nat) (l0_0:List Int) (a1:Int):Option (Int):=(laws_heldIntS.f k l0_0 a1).bind fun t596=>(if t596 < 0 then (some (-1)) else (some t596))
def laws_heldDesk.f (k:Nat) (l0_0:List Int) (l0_1:List Int) (a1:Int):Option (Int):=(laws_heldIntS.f k l0_0 a1).bind fun t598=>(if t598 < 0 then (some (-1)) else ((laws_heldTable.f k l0_1 t598).bind fun t599=>(if t599 < 0 then (some (-1)) else (some t599))))
def laws_szIntS.f (l0:List Int) (a1:Int):Option (Int):=if (wrap64 (a1 - (l0.length:Int))) < 0 then (some (-1)) else (some (wrap64 (a1 - (l0.length:Int))))
theorem laws_szIntS.calls (A0:Option Addr) (c0:Nat) (l0:List Int) (a1:Int) (r:Int) (w:World) (hr0:Kd.C (Kd.int .i64) w A0 l0.length l0) (hc0:l0.length<=c0) (h:laws_szIntS.f l0 a1 = some r) :
  Calls Tryz.prog 45 #[.slice A0 l0.length c0,.int .i64 a1] w fun e w'=>e = .returned (.int .i64 r)/\Drawn0 w w':=by
 have HR0:=am_ hr0;have HC0:=am_ hc0;clear hr0 hc0;unfold laws_szIntS.f at h;have H:=h;clear h;revert H;refine ie_ (fun c3b0 H=>?_) fun c3b0 H=>?_
 ·
  obtain rfl:=Option.some.inj H;go_enter Tryz.func45,Tryz.ntmps45;go_wp2;go_ret;exact ⟨qc8f_,qffa_⟩
 obtain rfl:=Option.some.inj H;go_enter Tryz.func45,Tryz.ntmps45;go_wp2;go_ret;exact ⟨qc8f_,qffa_⟩
def laws_szTable.f (l0_0:List Int) (a1:Int):Option (Int):=(laws_szIntS.f l0_0 a1).bind fun t601=>(if t601 < 0 then (some (-1)) else (some t601))
theorem laws_szTable.calls (A0_0:Option Addr) (c0_0:Nat) (l0_0:List Int) (a1:Int) (r:Int) (w:World) (hr0_0:Kd.C (Kd.int .i64) w A0_0 l0_0.length l0_0) (hc0_0:l0_0.length<=c0_0) (h:laws_szTable.f l0_0 a1 = some r) :
  Calls Tryz.prog 46 #[.agg #[.slice A0_0 l0_0.length c0_0],.int .i64 a1] w fun e w'=>e = .returned (.int .i64 r)/\Below w.heap.size w w':=by
 have hu41:=Tryz.underlying41;have HR0_0:=am_ hr0_0;have HC0_0:=am_ hc0_0;clear hr0_0 hc0_0;have HB:=am_ (Below.refl w.heap.size w);unfold laws_szTable.f at h;have H:=h;clear h;obtain ⟨t601,A3,H⟩:=ob_ H;revert H;refine ie_ (fun c4b0 H=>?_) fun c4b0 H=>?_
 ·
  obtain rfl:=Option.some.inj H;go_enter Tryz.func46,Tryz.ntmps46;go_wp2_with (first | ((with_reducible refine gd_ 2 ?_);refine bx_ #[.slice A0_0 l0_0.length c0_0] 41 ?_;intro gb600 hg w5 hbox hb;have BK600:=am_ (hbox);have GW600:=am_ ((by rw [hg];exact (below_size q0c4_):w.heap.size<=gb600));have GE600:=am_ ((by rw [hg];exact (below_size q0c4_):w.heap.size<=gb600));replace HB:=am_ (below_step q0c4_ hb);clear hb hbox hg;have hcz6_0:w5.cell? ⟨gb600,0,none⟩ = some (.slice A0_0 l0_0.length c0_0):=(blk_cell BK600.out 0).trans rfl;have hfz6_0:=blk_frozen BK600.out 0) | ((with_reducible refine gc_ 45 ?_);refine gl_ 8 Tryz.func45 #[.slice A0_0 l0_0.length c0_0,.int .i64 a1] ?_;(with_reducible refine (laws_szIntS.calls _ _ l0_0 a1 t601 _ ?s1 ?s2 A3.out).mono ?_);(case s1=>exact qe02_ HR0_0.out);(case s2=>exact HC0_0.out);rintro e w' ⟨rfl,⟨nd,rfl⟩⟩;refine ⟨_,rfl,?_⟩));go_ret;exact ⟨qce7_,qfcd_ GE600.out⟩
 obtain rfl:=Option.some.inj H;go_enter Tryz.func46,Tryz.ntmps46;go_wp2_with (first | ((with_reducible refine gd_ 2 ?_);refine bx_ #[.slice A0_0 l0_0.length c0_0] 41 ?_;intro gb600 hg w7 hbox hb;have BK600:=am_ (hbox);have GW600:=am_ ((by rw [hg];exact (below_size q0c4_):w.heap.size<=gb600));have GE600:=am_ ((by rw [hg];exact (below_size q0c4_):w.heap.size<=gb600));replace HB:=am_ (below_step q0c4_ hb);clear hb hbox hg;have hcz8_0:w7.cell? ⟨gb600,0,none⟩ = some (.slice A0_0 l0_0.length c0_0):=(blk_cell BK600.out 0).trans rfl;have hfz8_0:=blk_frozen BK600.out 0) | ((with_reducible refine gc_ 45 ?_);refine gl_ 8 Tryz.func45 #[.slice A0_0 l0_0.length c0_0,.int .i64 a1] ?_;(with_reducible refine (laws_szIntS.calls _ _ l0_0 a1 t601 _ ?s1 ?s2 A3.out).mono ?_);(case s1=>exact qe02_ HR0_0.out);(case s2=>exact HC0_0.out);rintro e w' ⟨rfl,⟨nd,rfl⟩⟩;refine ⟨_,rfl,?_⟩));go_ret;exact ⟨qce7_,qfcd_ GE600.out⟩
def laws_szDesk.f (l0_0:List Int) (l0_1:List Int) (a1:Int):Option (Int):=(laws_szIntS.f l0_0 a1).bind fun t603=>(if t603 < 0 then (some (-1)) else ((laws_szTable.f l0_1 t603).bind fun t604=>(if t604 < 0 then (some (-1)) else (some t604))))
theorem laws_szDesk.calls (A0_0:Option Addr) (c0_0:Nat) (l0_0:List Int) (A0_1:Option Addr) (c0_1:Nat) (l0_1:List Int) (a1:Int) (r:Int) (w:World) (hr0_0:Kd.C (Kd.int .i64) w A0_0 l0_0.length l0_0) (hc0_0:l0_0.length<=c0_0) (hr0_1:Kd.C (Kd.int .i64) w A0_1 l0_1.length l0_1) (hc0_1:l0_1.length<=c0_1) (h:laws_szDesk.f l0_0 l0_1 a1 = some r) :
  Calls Tryz.prog 24 #[.agg #[.slice A0_0 l0_0.length c0_0,.slice A0_1 l0_1.length c0_1],.int .i64 a1] w fun e w'=>e = .returned (.int .i64 r)/\Below w.heap.size w w':=by
 have hu43:=Tryz.underlying43;have hu41:=Tryz.underlying41;have HR0_0:=am_ hr0_0;have HC0_0:=am_ hc0_0;clear hr0_0 hc0_0;have HR0_1:=am_ hr0_1;have HC0_1:=am_ hc0_1;clear hr0_1 hc0_1;have HB:=am_ (Below.refl w.heap.size w);unfold laws_szDesk.f at h;have H:=h;clear h;obtain ⟨t603,A3,H⟩:=ob_ H;revert H;refine ie_ (fun c4b0 H=>?_) fun c4b0 H=>?_
 ·
  obtain rfl:=Option.some.inj H;go_enter Tryz.func24,Tryz.ntmps24;go_wp2_with (first | ((with_reducible refine gd_ 2 ?_);refine bx_ #[.slice A0_0 l0_0.length c0_0,.slice A0_1 l0_1.length c0_1] 43 ?_;intro gb602 hg w5 hbox hb;have BK602:=am_ (hbox);have GW602:=am_ ((by rw [hg];exact (below_size q0c4_):w.heap.size<=gb602));have GE602:=am_ ((by rw [hg];exact (below_size q0c4_):w.heap.size<=gb602));replace HB:=am_ (below_step q0c4_ hb);clear hb hbox hg;have hcz6_0:w5.cell? ⟨gb602,0,none⟩ = some (.slice A0_0 l0_0.length c0_0):=(blk_cell BK602.out 0).trans rfl;have hcz6_1:w5.cell? ⟨gb602,1,none⟩ = some (.slice A0_1 l0_1.length c0_1):=(blk_cell BK602.out 1).trans rfl;have hfz6_0:=blk_frozen BK602.out 0;have hfz6_1:=blk_frozen BK602.out 1) | ((with_reducible refine gc_ 45 ?_);refine gl_ 8 Tryz.func45 #[.slice A0_0 l0_0.length c0_0,.int .i64 a1] ?_;(with_reducible refine (laws_szIntS.calls _ _ l0_0 a1 t603 _ ?s1 ?s2 A3.out).mono ?_);(case s1=>exact qe02_ HR0_0.out);(case s2=>exact HC0_0.out);rintro e w' ⟨rfl,⟨nd,rfl⟩⟩;refine ⟨_,rfl,?_⟩));go_ret;exact ⟨qce7_,qfcd_ GE602.out⟩
 obtain ⟨t604,A7,H⟩:=ob_ H;revert H;refine ie_ (fun c8b0 H=>?_) fun c8b0 H=>?_
 ·
  obtain rfl:=Option.some.inj H;go_enter Tryz.func24,Tryz.ntmps24;go_wp2_with (first | ((with_reducible refine gd_ 2 ?_);refine bx_ #[.slice A0_0 l0_0.length c0_0,.slice A0_1 l0_1.length c0_1] 43 ?_;intro gb602 hg w9 hbox hb;have BK602:=am_ (hbox);have GW602:=am_ ((by rw [hg];exact (below_size q0c4_):w.heap.size<=gb602));have GE602:=am_ ((by rw [hg];exact (below_size q0c4_):w.heap.size<=gb602));replace HB:=am_ (below_step q0c4_ hb);clear hb hbox hg;have hcz10_0:w9.cell? ⟨gb602,0,none⟩ = some (.slice A0_0 l0_0.length c0_0):=(blk_cell BK602.out 0).trans rfl;have hcz10_1:w9.cell? ⟨gb602,1,none⟩ = some (.slice A0_1 l0_1.length c0_1):=(blk_cell BK602.out 1).trans rfl;have hfz10_0:=blk_frozen BK602.out 0;have hfz10_1:=blk_frozen BK602.out 1) | ((with_reducible refine gc_ 45 ?_);refine gl_ 8 Tryz.func45 #[.slice A0_0 l0_0.length c0_0,.int .i64 a1] ?_;(with_reducible refine (laws_szIntS.calls _ _ l0_0 a1 t603 _ ?s1 ?s2 A3.out).mono ?_);(case s1=>exact qe02_ HR0_0.out);(case s2=>exact HC0_0.out);rintro e w' ⟨rfl,⟨nd,rfl⟩⟩;refine ⟨_,rfl,?_⟩) | ((with_reducible refine gc_ 46 ?_);refine gl_ 14 Tryz.func46 #[.agg #[.slice A0_1 l0_1.length c0_1],.int .i64 t603] ?_;(with_reducible refine (laws_szTable.calls _ _ l0_1 t603 t604 _ ?s1 ?s2 A7.out).mono ?_);(case s1=>exact q28c_ HR0_1.out GE602.out);(case s2=>exact HC0_1.out);rintro e w11 ⟨rfl,hb⟩;refine ⟨_,rfl,?_⟩;replace BK602:=am_ (blk_below (g:=gb602) (o:=.cells #[.slice A0_0 l0_0.length c0_0,.slice A0_1 l0_1.length c0_1] 43 (0,0)) (q66c_ BK602.out) hb);replace HB:=am_ (below_step (qfcd_ GE602.out) hb);clear hb));go_ret;exact ⟨qce7_,qfcd_ GE602.out⟩
 obtain rfl:=Option.some.inj H;go_enter Tryz.func24,Tryz.ntmps24;go_wp2_with (first | ((with_reducible refine gd_ 2 ?_);refine bx_ #[.slice A0_0 l0_0.length c0_0,.slice A0_1 l0_1.length c0_1] 43 ?_;intro gb602 hg w12 hbox hb;have BK602:=am_ (hbox);have GW602:=am_ ((by rw [hg];exact (below_size q0c4_):w.heap.size<=gb602));have GE602:=am_ ((by rw [hg];exact (below_size q0c4_):w.heap.size<=gb602));replace HB:=am_ (below_step q0c4_ hb);clear hb hbox hg;have hcz13_0:w12.cell? ⟨gb602,0,none⟩ = some (.slice A0_0 l0_0.length c0_0):=(blk_cell BK602.out 0).trans rfl;have hcz13_1:w12.cell? ⟨gb602,1,none⟩ = some (.slice A0_1 l0_1.length c0_1):=(blk_cell BK602.out 1).trans rfl;have hfz13_0:=blk_frozen BK602.out 0;have hfz13_1:=blk_frozen BK602.out 1) | ((with_reducible refine gc_ 45 ?_);refine gl_ 8 Tryz.func45 #[.slice A0_0 l0_0.length c0_0,.int .i64 a1] ?_;(with_reducible refine (laws_szIntS.calls _ _ l0_0 a1 t603 _ ?s1 ?s2 A3.out).mono ?_);(case s1=>exact qe02_ HR0_0.out);(case s2=>exact HC0_0.out);rintro e w' ⟨rfl,⟨nd,rfl⟩⟩;refine ⟨_,rfl,?_⟩) | ((with_reducible refine gc_ 46 ?_);refine gl_ 14 Tryz.func46 #[.agg #[.slice A0_1 l0_1.length c0_1],.int .i64 t603] ?_;(with_reducible refine (laws_szTable.calls _ _ l0_1 t603 t604 _ ?s1 ?s2 A7.out).mono ?_);(case s1=>exact q28c_ HR0_1.out GE602.out);(case s2=>exact HC0_1.out);rintro e w14 ⟨rfl,hb⟩;refine ⟨_,rfl,?_⟩;replace BK602:=am_ (blk_below (g:=gb602) (o:=.cells #[.slice A0_0 l0_0.length c0_0,.slice A0_1 l0_1.length c0_1] 43 (0,0)) (q66c_ BK602.out) hb);replace HB:=am_ (below_step (qfcd_ GE602.out) hb);clear hb));go_ret;exact ⟨qce7_,qfcd_ GE602.out⟩
def spec_coGood.f (k:Nat) (l0_0:List Int) (l0_1:List Int):Option (Bool):=(spec_paParking.f k l0_0).bind fun t606=>(if t606 = true then ((spec_prGood.f k l0_1).bind fun t607=>(some t607)) else (some false))
theorem spec_coGood.calls (k:Nat) (A0_0:Option Addr) (c0_0:Nat) (l0_0:List Int) (A0_1:Option Addr) (c0_1:Nat) (l0_1:List Int) (r:Bool) (w:World) (hr0_0:Kd.C (Kd.int .i64) w A0_0 l0_0.length l0_0) (hc0_0:l0_0.length<=c0_0) (hr0_1:Kd.C (Kd.int .i64) w A0_1 l0_1.length l0_1) (hc0_1:l0_1.length<=c0_1) (h:spec_coGood.f k l0_0 l0_1 = some r) :
  Calls Tryz.prog 47 #[.agg #[.slice A0_0 l0_0.length c0_0,.slice A0_1 l0_1.length c0_1]] w fun e w'=>e = .returned (.bool r)/\Below w.heap.size w w':=by
 have hu36:=Tryz.underlying36;have hu34:=Tryz.underlying34;have HR0_0:=am_ hr0_0;have HC0_0:=am_ hc0_0;clear hr0_0 hc0_0;have HR0_1:=am_ hr0_1;have HC0_1:=am_ hc0_1;clear hr0_1 hc0_1;have HB:=am_ (Below.refl w.heap.size w);unfold spec_coGood.f at h;have H:=h;clear h;obtain ⟨t606,A2,H⟩:=ob_ H;revert H;refine be_ (fun c3 H=>?_) fun c3 H=>?_
 ·
  subst c3;obtain ⟨t607,A4,H⟩:=ob_ H;obtain rfl:=Option.some.inj H;go_enter Tryz.func47,Tryz.ntmps47;go_wp2_with (first | ((with_reducible refine gd_ 1 ?_);refine bx_ #[.slice A0_0 l0_0.length c0_0,.slice A0_1 l0_1.length c0_1] 36 ?_;intro gb605 hg w5 hbox hb;have BK605:=am_ (hbox);have GW605:=am_ ((by rw [hg];exact (below_size q0c4_):w.heap.size<=gb605));have GE605:=am_ ((by rw [hg];exact (below_size q0c4_):w.heap.size<=gb605));replace HB:=am_ (below_step q0c4_ hb);clear hb hbox hg;have hcz6_0:w5.cell? ⟨gb605,0,none⟩ = some (.slice A0_0 l0_0.length c0_0):=(blk_cell BK605.out 0).trans rfl;have hcz6_1:w5.cell? ⟨gb605,1,none⟩ = some (.slice A0_1 l0_1.length c0_1):=(blk_cell BK605.out 1).trans rfl;have hfz6_0:=blk_frozen BK605.out 0;have hfz6_1:=blk_frozen BK605.out 1) | ((with_reducible refine gc_ 71 ?_);refine gl_ 5 Tryz.func71 #[.slice A0_0 l0_0.length c0_0] ?_;(with_reducible refine (spec_paParking.calls k _ _ l0_0 true _ ?s1 ?s2 A2.out).mono ?_);(case s1=>exact qe02_ HR0_0.out);(case s2=>exact HC0_0.out);rintro e w7 ⟨rfl,hb⟩;refine ⟨_,rfl,?_⟩;replace BK605:=am_ (blk_below (g:=gb605) (o:=.cells #[.slice A0_0 l0_0.length c0_0,.slice A0_1 l0_1.length c0_1] 36 (0,0)) (q66c_ BK605.out) hb);replace HB:=am_ (below_step (qfcd_ GE605.out) hb);clear hb;have hcz8_0:w7.cell? ⟨gb605,0,none⟩ = some (.slice A0_0 l0_0.length c0_0):=(blk_cell BK605.out 0).trans rfl;have hcz8_1:w7.cell? ⟨gb605,1,none⟩ = some (.slice A0_1 l0_1.length c0_1):=(blk_cell BK605.out 1).trans rfl;have hfz8_0:=blk_frozen BK605.out 0;have hfz8_1:=blk_frozen BK605.out 1) | (go_at_call 72;(with_reducible refine (spec_prGood.calls k _ _ l0_1 t607 _ ?s1 ?s2 A4.out).mono ?_);(case s1=>exact qe02_ HR0_1.out);(case s2=>exact HC0_1.out);rintro e w9 ⟨rfl,hb⟩;replace BK605:=am_ (blk_below (g:=gb605) (o:=.cells #[.slice A0_0 l0_0.length c0_0,.slice A0_1 l0_1.length c0_1] 36 (0,0)) (q66c_ BK605.out) hb);replace HB:=am_ (below_step (qfcd_ GE605.out) hb);clear hb));go_ret;exact ⟨qce7_,qfcd_ GE605.out⟩
 subst c3;obtain rfl:=Option.some.inj H;go_enter Tryz.func47,Tryz.ntmps47;go_wp2_with (first | ((with_reducible refine gd_ 1 ?_);refine bx_ #[.slice A0_0 l0_0.length c0_0,.slice A0_1 l0_1.length c0_1] 36 ?_;intro gb605 hg w10 hbox hb;have BK605:=am_ (hbox);have GW605:=am_ ((by rw [hg];exact (below_size q0c4_):w.heap.size<=gb605));have GE605:=am_ ((by rw [hg];exact (below_size q0c4_):w.heap.size<=gb605));replace HB:=am_ (below_step q0c4_ hb);clear hb hbox hg;have hcz11_0:w10.cell? ⟨gb605,0,none⟩ = some (.slice A0_0 l0_0.length c0_0):=(blk_cell BK605.out 0).trans rfl;have hcz11_1:w10.cell? ⟨gb605,1,none⟩ = some (.slice A0_1 l0_1.length c0_1):=(blk_cell BK605.out 1).trans rfl;have hfz11_0:=blk_frozen BK605.out 0;have hfz11_1:=blk_frozen BK605.out 1) | ((with_reducible refine gc_ 71 ?_);refine gl_ 5 Tryz.func71 #[.slice A0_0 l0_0.length c0_0] ?_;(with_reducible refine (spec_paParking.calls k _ _ l0_0 false _ ?s1 ?s2 A2.out).mono ?_);(case s1=>exact qe02_ HR0_0.out);(case s2=>exact HC0_0.out);rintro e w12 ⟨rfl,hb⟩;refine ⟨_,rfl,?_⟩;replace BK605:=am_ (blk_below (g:=gb605) (o:=.cells #[.slice A0_0 l0_0.length c0_0,.slice A0_1 l0_1.length c0_1] 36 (0,0)) (q66c_ BK605.out) hb);replace HB:=am_ (below_step (qfcd_ GE605.out) hb);clear hb));go_ret;exact ⟨qce7_,qfcd_ GE605.out⟩
mutual
def spec_cnWith.l0:Nat->List Int->Int->Int->List Int->Int->Int->Option (Int)
 | 0,_,_,_,_,_,_=>none
 | k + 1,x0,x1,x5,x6,x7,x8=>if x8 < x1 then (spec_cnWith.l1 k x0 x1 x5 x6 x7 x8 x0 (x0.length:Int) 0) else (if 0<=x5 then (if x5 < (x6.length:Int) then (some (rd x6 x5)) else (none)) else (none))
def spec_cnWith.l1:Nat->List Int->Int->Int->List Int->Int->Int->List Int->Int->Int->Option (Int)
 | 0,_,_,_,_,_,_,_,_,_=>none
 | k + 1,x0,x1,x5,x6,x7,x8,x29,x30,x31=>if x31 < x30 then (if 0<=x31 then (if x31 < (x29.length:Int) then (if (rd x29 x31) = x8 then (spec_cnWith.l1 k x0 x1 x5 x6 (wrap64 (x7 + 1)) x8 x29 x30 (wrap64 (x31 + 1))) else (spec_cnWith.l1 k x0 x1 x5 x6 x7 x8 x29 x30 (wrap64 (x31 + 1)))) else (none)) else (none)) else (if 0<=(wrap64 (x5 + 1)) then (if (wrap64 (x5 + 1):Int).toNat<=35184372088832 then (spec_cnWith.l2 k x0 x1 x5 x7 x8 (List.replicate (wrap64 (x5 + 1):Int).toNat 0) x6 (x6.length:Int) 0) else (none)) else (none))
def spec_cnWith.l2:Nat->List Int->Int->Int->Int->Int->List Int->List Int->Int->Int->Option (Int)
 | 0,_,_,_,_,_,_,_,_,_=>none
 | k + 1,x0,x1,x5,x7,x8,x11,x44,x45,x46=>if x46 < x45 then (if 0<=x46 then (if x46 < (x44.length:Int) then (spec_cnWith.l3 k x0 x1 x5 x7 x8 x11 x46 (rd x44 x46) 0 x44 x45 x46) else (none)) else (none)) else (spec_cnWith.l0 k x0 x1 x5 x11 x7 (wrap64 (x8 + 1)))
def spec_cnWith.l3:Nat->List Int->Int->Int->Int->Int->List Int->Int->Int->Int->List Int->Int->Int->Option (Int)
 | 0,_,_,_,_,_,_,_,_,_,_,_,_=>none
 | k + 1,x0,x1,x5,x7,x8,x11,x12,x13,x14,x44,x45,x46=>if (wrap64 (x12 + x14))<=x5 then (if (wrap64 ((wrap64 (x7 + x12)) + x14)) > x8 then (if 0<=(wrap64 (x12 + x14)) then (if (wrap64 (x12 + x14)) < (x11.length:Int) then ((spec_cnChoose.f k (wrap64 (x5 - x12)) x14).bind fun t165=>(spec_cnWith.l3 k x0 x1 x5 x7 x8 (x11.set ((wrap64 (x12 + x14)):Int).toNat (wrap64 ((rd x11 (wrap64 (x12 + x14))) + (wrap64 (x13 * t165))))) x12 x13 (wrap64 (x14 + 1)) x44 x45 x46)) else (none)) else (none)) else (spec_cnWith.l3 k x0 x1 x5 x7 x8 x11 x12 x13 (wrap64 (x14 + 1)) x44 x45 x46)) else (spec_cnWith.l2 k x0 x1 x5 x7 x8 x11 x44 x45 (wrap64 (x46 + 1)))
end
def spec_cnWith.f (k:Nat) (l0:List Int) (a1:Int):Option (Int):=if 0<=(wrap64 ((wrap64 (a1 - (l0.length:Int))) + 1)) then (if (wrap64 ((wrap64 (a1 - (l0.length:Int))) + 1):Int).toNat<=35184372088832 then ((some (List.replicate (wrap64 ((wrap64 (a1 - (l0.length:Int))) + 1):Int).toNat 0:List Int)).bind fun y154=>(if 0 < (y154.length:Int) then (spec_cnWith.l0 k l0 a1 (wrap64 (a1 - (l0.length:Int))) (y154.set (0:Int).toNat 1) 0 0) else (none))) else (none)) else (none)
def spec_cnWith.T22:Bool × List (List Nat × List Nat):=(true,[([],[]),([],[]),([],[]),([1,2],[1,2]),([0,3],[0,3]),([4],[4]),([],[]),([],[]),([],[]),([7,8],[7,8]),([],[]),([9,10],[9,10]),([6,11],[6,11]),([5,12],[5,12]),([0,3,0,1,2,3,4,5,6,7,8,9,10,11,12,13],[0,3]),([14,13,11,0,1,2,3,4,5,6,7,8,9,10,11,12,13],[13,14])])
def spec_cnWith.B22:List Nat:=[0,0,0,6,15,31,0,0,0,384,0,1920,4032,8191,16383,32767]
theorem spec_cnWith.tab22:rtab .any (opsOf Tryz.f188 22) = spec_cnWith.T22:=by kernel_rfl
theorem spec_cnWith.bits22:waitsOk spec_cnWith.T22.2 spec_cnWith.B22 = true:=by kernel_rfl
theorem spec_cnWith.calls (k:Nat) (A0:Option Addr) (c0:Nat) (l0:List Int) (a1:Int) (r:Int) (w:World) (hr0:Kd.C (Kd.int .i64) w A0 l0.length l0) (hc0:l0.length<=c0) (h:spec_cnWith.f k l0 a1 = some r) :
  Calls Tryz.prog 188 #[.slice A0 l0.length c0,.int .i64 a1] w fun e w'=>e = .returned (.int .i64 r)/\Below w.heap.size w w':=by
 have HR0:=am_ hr0;have HC0:=am_ hc0;clear hr0 hc0;have HB:=am_ (Below.refl w.heap.size w);unfold spec_cnWith.f at h;have H:=h;clear h;obtain ⟨ji3,hji3⟩:∃ j_:Int,(wrap64 ((wrap64 (a1 - (l0.length:Int))) + 1)) = j_:=⟨_,rfl⟩;replace H:(if 0<=(ji3) then (if (ji3:Int).toNat<=35184372088832 then ((some (List.replicate (ji3:Int).toNat 0:List Int)).bind fun y154=>(if 0 < (y154.length:Int) then (spec_cnWith.l0 k l0 a1 (wrap64 (a1 - (l0.length:Int))) (y154.set (0:Int).toNat 1) 0 0) else (none))) else (none)) else (none)) = some r:=q680_;have hji3w:(IntKind.i64.wrap ((wrap64 (a1 - (l0.length:Int))) + 1)) = ji3:=(i64_w _).trans hji3;revert H;refine i2_ fun c4b0 c4b1 H=>?_;revert H;refine i2_ fun c5b0 c5b1 H=>?_;obtain ⟨y154,hy154⟩:=gn_ ((List.replicate (ji3:Int).toNat 0):List Int);replace H:(if 0 < (y154.length:Int) then (spec_cnWith.l0 k l0 a1 (wrap64 (a1 - (l0.length:Int))) (y154.set (0:Int).toNat 1) 0 0) else (none)) = some r:=rl_ hy154 H;have Ny154:=am_ hy154;clear hy154;revert H;refine it_ fun c6 H=>?_;have c6b0:=decide_eq_true c6;have c6b1:decide (0 < y154.length) = true:=decide_eq_true (by omega);clear c6;obtain ⟨y157,hy157⟩:=gn_ ((y154.set (0:Int).toNat 1):List Int);replace H:(spec_cnWith.l0 k l0 a1 (wrap64 (a1 - (l0.length:Int))) y157 0 0) = some r:=rl_ hy157 H;have Ny157:=am_ hy157;clear hy157;have H':=am_ H;clear H;go_enter Tryz.func188,Tryz.ntmps188;go_wp2_with (first | ((with_reducible refine gd_ 21 ?_);refine Kd.R_make (Kd.int .i64) _ 3 rfl (N:=21) rfl 22 _ _ rfl ji3 rfl rfl Tryz.underlying22 (.int .i64 0) 8 info3 rfl (by decide) (by omega) 0 (ok:=fun _=>True) (okp:=fun _=>True) rfl (fun _ hk=>hk) trivial (of_decide_eq_true qe84_) (Nat.le_trans (Nat.mul_le_mul_right _ (of_decide_eq_true qe84_:ji3.toNat<=35184372088832)) (by omega)) (Below.refl _ _) (Nat.le_refl _) ?_;intro v155 w8 ho9 hb hg_ hnew_;clear hg_ hnew_;(first | rw [<- Ny154.out] at ho9 | (simp only [Int.reduceToNat] at ho9;rw [<- Ny154.out] at ho9));have HO156:=am_ (Kd.R_lower ho9 (below_size q0c4_));replace HB:=am_ (below_step q0c4_ hb);clear hb ho9;have p7:0<=(0:Int):=(by omega);have q7:(0:Int) < ((y154.length:Int):Int):=of_decide_eq_true qe84_;have qi7:(0 < y154.length) = True:=eq_true (by omega);obtain ⟨go7,co7,eo7,gb7,gl7,cl7,HG7⟩:=Kd.R_form HO156.out (by omega);(first | cases eo7 | (injection eo7 with ea_ en_ ec_;(first | subst ea_ | (injection ea_ with ea_;subst ea_));subst ec_;clear en_));have GB7:=am_ gb7;have GG7:=am_ HG7;clear gb7 gl7 HG7;obtain ⟨hx7_0,hf7_0⟩:=Kd.R_celln 0 HO156.out (0:Int) p7 q7;(try rw [show ((0:Int)).toNat = 0 from rfl] at hx7_0);(try simp only [Nat.reduceMul,Nat.zero_mul,Nat.zero_add,Nat.reduceAdd] at hx7_0);(try rw [show ((0:Int)).toNat = 0 from rfl] at hf7_0);(try simp only [Nat.reduceMul,Nat.zero_mul,Nat.zero_add,Nat.reduceAdd] at hf7_0);replace p7:=eq_true p7;replace q7:=eq_true q7;obtain ⟨hy10_,hz10_⟩:=Kd.R_celln 0 HO156.out (0:Int) (by omega) (of_decide_eq_true qe84_);(try simp only [Int.reduceToNat,Int.toNat_zero,Int.toNat_ofNat,Nat.reduceMul,Nat.zero_mul,Nat.zero_add] at hy10_ hz10_);(try rw [show ((0:Int)).toNat = 0 from rfl] at hy10_);(try rw [show ((0:Int)).toNat = 0 from rfl] at hz10_);have HP10:=Kd.R_putg HO156.out (0:Int) 1) | ((with_reducible refine gate_store (t:=3) (p:=23) rfl ?_);refine store_event (t:=3) (p:=23) (v:=?vo_w11) (w1:=(w8.setCell ⟨go7,(0:Int).toNat,none⟩ (.int .i64 1))) ?hg ?ho ?hn ?hr ?_;(case ho=>rfl);(case hg=>rfl);(case hn=>rfl);(case hr=>exact qfba_);intro w11 hw;have hg:w8.grownBy w11 (some go7):=(by rw [hw];exact HP10.2);have hp_:Kd.R (Kd.int .i64) 3 w11 w.heap.size (fun _=>True) (.slice (some ⟨go7,0,none⟩) y154.length co7) y157:=(by rw [hw,Ny157.out];exact HP10.1);clear HP10;replace HO156:=am_ (hp_);replace HB:=am_ ((by rw [hw];exact below_set (HB.out) GB7.out:Below w.heap.size w w11));clear hg hw hp_))
 go_loopg [6,7,8] k (fun kq v6 v7 v8 w'=>∃ (x6_1:List Int) (x7_1:Int) (x8_1:Int),v7 = .int .i64 x7_1/\v8 = .int .i64 x8_1/\Aside0 (spec_cnWith.l0 kq l0 a1 (wrap64 (a1 - (l0.length:Int))) x6_1 x7_1 x8_1 = some r)/\Aside0 (kq<=k)/\Aside0 (Kd.R (Kd.int .i64) 3 w' w.heap.size (fun _=>True) v6 x6_1)/\Aside0 (Below w.heap.size w w'))
 case atStart=>exact ⟨(y157),(0),(0),qc8f_,qc8f_,H',⟨Nat.le_refl _⟩,⟨q9d5_ HO156.out⟩,⟨q0c4_⟩⟩
 case round =>
  clear H';obtain ⟨x6_1,x7_1,x8_1,rfl,rfl,HA,HK1,HO_6,HB⟩:=hrel;cases gk with
  | zero=>exact n0_ HA.out
  | succ k1 =>
   have H:=HA.out;clear HA;simp only [spec_cnWith.l0] at H;revert H;refine ie_ (fun c12b0 H=>?_) fun c12b0 H=>?_
   ·
    have H':=am_ H;clear H;go_wp2
    go_loopg [7,31] k1 (fun kq v7 v31 w'=>∃ (x7_2:Int) (x31_2:Int),v7 = .int .i64 x7_2/\v31 = .int .i64 x31_2/\Aside0 (spec_cnWith.l1 kq l0 a1 (wrap64 (a1 - (l0.length:Int))) x6_1 x7_2 x8_1 l0 (l0.length:Int) x31_2 = some r)/\Aside0 (kq<=k1)/\Aside0 (Kd.R (Kd.int .i64) 3 w' w.heap.size (fun _=>True) u6 x6_1)/\Aside0 (Below w.heap.size w w'))
    case atStart=>exact ⟨(x7_1),(0),qc8f_,qc8f_,H',⟨Nat.le_refl _⟩,⟨q9d5_ HO_6.out⟩,⟨q0c4_⟩⟩
    case round =>
     clear H';obtain ⟨x7_2,x31_2,rfl,rfl,HA,HK2,HO_6,HB⟩:=hrel;cases gk with
     | zero=>exact n0_ HA.out
     | succ k2 =>
      have H:=HA.out;clear HA;simp only [spec_cnWith.l1] at H;revert H;refine ie_ (fun c13b0 H=>?_) fun c13b0 H=>?_
      ·
       revert H;refine id_ fun c14b0 H=>?_;revert H;refine id_ fun c15b0 H=>?_;revert H;refine ee_ (fun c16b0 c16b1 H=>?_) fun c16 c16b0 c16b1 H=>?_
       ·
        have H':=am_ H;clear H;obtain ⟨ad159,rfl,hx159_0,p159,q159⟩:=ri_ HR0.out x31_2
        (try (replace hx159_0:=(HB.out.cell (World.block_lt_of_cell? w _ hx159_0)).trans hx159_0))
        go_wp2;go_roundg k2
        case measure=>have:=HK1.out;have:=HK2.out;omega
        case rel=>exact ⟨(wrap64 (x7_2 + 1)),(wrap64 (x31_2 + 1)),qc8f_,qc8f_,H',⟨q37b_ HK1.out HK2.out⟩,⟨q9d5_ HO_6.out⟩,⟨q0c4_⟩⟩
       have H':=am_ H;clear H;obtain ⟨ad159,rfl,hx159_0,p159,q159⟩:=ri_ HR0.out x31_2
       (try (replace hx159_0:=(HB.out.cell (World.block_lt_of_cell? w _ hx159_0)).trans hx159_0))
       go_wp2;go_roundg k2
       case measure=>have:=HK1.out;have:=HK2.out;omega
       case rel=>exact ⟨(x7_2),(wrap64 (x31_2 + 1)),qc8f_,qc8f_,H',⟨q37b_ HK1.out HK2.out⟩,⟨q9d5_ HO_6.out⟩,⟨q0c4_⟩⟩
      replace H:(if 0<=(ji3) then (if (ji3:Int).toNat<=35184372088832 then (spec_cnWith.l2 k2 l0 a1 (wrap64 (a1 - (l0.length:Int))) x7_2 x8_1 (List.replicate (ji3:Int).toNat 0) x6_1 (x6_1.length:Int) 0) else (none)) else (none)) = some r:=q680_;revert H;refine i2_ fun c17b0 c17b1 H=>?_;revert H;refine i2_ fun c18b0 c18b1 H=>?_;obtain ⟨y160,hy160⟩:=gn_ ((List.replicate (ji3:Int).toNat 0):List Int);replace H:(spec_cnWith.l2 k2 l0 a1 (wrap64 (a1 - (l0.length:Int))) x7_2 x8_1 y160 x6_1 (x6_1.length:Int) 0) = some r:=rl_ hy160 H;have Ny160:=am_ hy160;clear hy160;have H':=am_ H;clear H;go_wp2_with (first | ((with_reducible refine gd_ 43 ?_);refine Kd.R_make (Kd.int .i64) _ 3 rfl (N:=43) rfl 22 _ _ rfl ji3 rfl rfl Tryz.underlying22 (.int .i64 0) 8 info3 rfl (by decide) (by omega) 0 (ok:=fun _=>True) (okp:=fun _=>True) rfl (fun _ hk=>hk) trivial (of_decide_eq_true qe84_) (Nat.le_trans (Nat.mul_le_mul_right _ (of_decide_eq_true qe84_:ji3.toNat<=35184372088832)) (by omega)) (Below.refl _ _) (Nat.le_refl _) ?_;intro v161 w19 ho20 hb hg_ hnew_;clear hg_ hnew_;(first | rw [<- Ny160.out] at ho20 | (simp only [Int.reduceToNat] at ho20;rw [<- Ny160.out] at ho20));have HO162:=am_ (Kd.R_lower (Kd.R_new' ho20 (Kd.R_lt (q9d5_ HO_6.out))) (below_size q0c4_));replace HO_6:=am_ (Kd.R_elder' (q9d5_ HO_6.out) (Kd.R_base ho20) hb);replace HB:=am_ (below_step q0c4_ hb);clear hb ho20;obtain ⟨Ao21,co21,eo21⟩:=Kd.R_slice HO_6.out;subst eo21))
      go_loopg [46] k2 (fun kq v46 w'=>∃ (x11_3:List Int) (x46_3:Int),v46 = .int .i64 x46_3/\Aside0 (spec_cnWith.l2 kq l0 a1 (wrap64 (a1 - (l0.length:Int))) x7_2 x8_1 x11_3 x6_1 (x6_1.length:Int) x46_3 = some r)/\Aside0 (kq<=k2)/\Aside0 (Kd.R (Kd.int .i64) 3 w' w.heap.size (fun k_=>some k_ ≠ ((.slice Ao21 x6_1.length co21):Value).ownBlock) v161 x11_3)/\Aside0 (Kd.R (Kd.int .i64) 3 w' w.heap.size (fun k_=>some k_ ≠ (v161:Value).ownBlock) (.slice Ao21 x6_1.length co21) x6_1)/\Aside0 (Below w.heap.size w w'))
      case atStart=>exact ⟨(y160),(0),qc8f_,H',⟨Nat.le_refl _⟩,⟨qe0f_ HO162.out⟩,⟨qe0f_ HO_6.out⟩,⟨q0c4_⟩⟩
      case round =>
       clear H';obtain ⟨x11_3,x46_3,rfl,HA,HK3,HO_11,HO_44,HB⟩:=hrel;cases gk with
       | zero=>exact n0_ HA.out
       | succ k3 =>
        have H:=HA.out;clear HA;simp only [spec_cnWith.l2] at H;revert H;refine ie_ (fun c22b0 H=>?_) fun c22b0 H=>?_
        ·
         revert H;refine id_ fun c23b0 H=>?_;revert H;refine id_ fun c24b0 H=>?_;have H':=am_ H;clear H;obtain ⟨ad163,rfl,hx163_0,p163,q163⟩:=ri_ (rr_ HO_44.out) x46_3;go_wp2
         go_loopg [14] k3 (fun kq v14 w'=>∃ (x11_4:List Int) (x14_4:Int),v14 = .int .i64 x14_4/\Aside0 (spec_cnWith.l3 kq l0 a1 (wrap64 (a1 - (l0.length:Int))) x7_2 x8_1 x11_4 x46_3 (rd x6_1 x46_3) x14_4 x6_1 (x6_1.length:Int) x46_3 = some r)/\Aside0 (kq<=k3)/\Aside0 (Kd.R (Kd.int .i64) 3 w' w.heap.size (fun k_=>some k_ ≠ ((.slice (some ad163) x6_1.length co21):Value).ownBlock) v161 x11_4)/\Aside0 (Kd.R (Kd.int .i64) 3 w' w.heap.size (fun k_=>some k_ ≠ (v161:Value).ownBlock) (.slice (some ad163) x6_1.length co21) x6_1)/\Aside0 (Below w.heap.size w w'))
         case atStart=>exact ⟨(x11_3),(0),qc8f_,H',⟨Nat.le_refl _⟩,⟨q9d5_ HO_11.out⟩,⟨q9d5_ HO_44.out⟩,⟨q0c4_⟩⟩
         case round =>
          clear H';obtain ⟨x11_4,x14_4,rfl,HA,HK4,HO_11,HO_44,HB⟩:=hrel;cases gk with
          | zero=>exact n0_ HA.out
          | succ k4 =>
           have H:=HA.out;clear HA;simp only [spec_cnWith.l3] at H;revert H;refine ie_ (fun c25b0 H=>?_) fun c25b0 H=>?_
           ·
            revert H;refine ie_ (fun c26b0 H=>?_) fun c26b0 H=>?_
            ·
             obtain ⟨ji27,hji27⟩:∃ j_:Int,(wrap64 (x46_3 + x14_4)) = j_:=⟨_,rfl⟩;replace H:(if 0<=(ji27) then (if (ji27) < (x11_4.length:Int) then ((spec_cnChoose.f k4 (wrap64 ((wrap64 (a1 - (l0.length:Int))) - x46_3)) x14_4).bind fun t165=>(spec_cnWith.l3 k4 l0 a1 (wrap64 (a1 - (l0.length:Int))) x7_2 x8_1 (x11_4.set ((ji27):Int).toNat (wrap64 ((rd x11_4 (ji27)) + (wrap64 ((rd x6_1 x46_3) * t165))))) x46_3 (rd x6_1 x46_3) (wrap64 (x14_4 + 1)) x6_1 (x6_1.length:Int) x46_3)) else (none)) else (none)) = some r:=by first | (rw [hji27] at H;exact H) | (simp only [hji27] at H ⊢;exact H)
             (try rw [hji27] at c25b0)
             have hji27w:(IntKind.i64.wrap (x46_3 + x14_4)) = ji27:=(i64_w _).trans hji27;revert H;refine id_ fun c28b0 H=>?_;revert H;refine id_ fun c29b0 H=>?_;obtain ⟨t165,A30,H⟩:=ob_ H;obtain ⟨y166,hy166⟩:=gn_ ((x11_4.set ((ji27):Int).toNat (wrap64 ((rd x11_4 (ji27)) + (wrap64 ((rd x6_1 x46_3) * t165))))):List Int);replace H:(spec_cnWith.l3 k4 l0 a1 (wrap64 (a1 - (l0.length:Int))) x7_2 x8_1 y166 x46_3 (rd x6_1 x46_3) (wrap64 (x14_4 + 1)) x6_1 (x6_1.length:Int) x46_3) = some r:=rl_ hy166 H;have Ny166:=am_ hy166;clear hy166;have H':=am_ H;clear H
             try go_wp2
             have n0_:=am_ (Kd.R_drew HO_11.out);have n1_:=am_ (Kd.R_drew HO_44.out);have n2_:=am_ (below_drew1 HB.out);clear HO_11 HO_44 HB;have HO_11:=n0_;have HO_44:=n1_;have HB:=n2_;clear n0_ n1_ n2_;obtain ⟨Ao33,co33,eo33⟩:=Kd.R_slice HO_11.out
             (first | subst eo33 | (injection eo33 with f1_ f2_ f3_;have f4_:=f1_.symm;have f5_:=f3_.symm;clear f1_ f2_ f3_;subst f4_;subst f5_))
             obtain ⟨ad164,rfl,hx164_0,p164,q164⟩:=ri_ (rr_ HO_11.out) (ji27);refine start_ (n:=16) (S:=fun w'=>w'.cell? (ad164.add ((ji27)).toNat) = some (.int .i64 (rd x11_4 (ji27)))) (ds:=[15]) (mk_ 16 0) (by kernel_rfl) rfl (by kernel_rfl) (hx164_0) (fun hHeld=>?_);refine with_tabW spec_cnWith.tab22 spec_cnWith.bits22 (fun HT_ HW_=>?_)
             generalize wr.drew = w32 at HO_11 HO_44 HB hx164_0 hHeld ⊢;refine pu_ 0 65 16 1 ?_;refine pu_ 1 66 16 3 ?_;refine pu_ 2 67 16 7 ?_;refine pu_ 3 68 16 15 ?_;refine pu_ 4 69 16 31 ?_;refine pu_ 6 71 16 95 ?_;refine pu_ 7 72 16 223 ?_;refine pu_ 8 73 16 479 ?_;refine pu_ 9 74 16 991 ?_;refine pu_ 10 75 16 2015 ?_;refine tk_ 5 70 16 2047 ?_;refine on_ 11 (some 76) 16 4095 fun K hK=>?_;refine goes_ Tryz.func229 (by kernel_rfl) rfl #[.int .i64 (wrap64 ((wrap64 (a1 - (l0.length:Int))) - x46_3)),.int .i64 x14_4] (by rfl) rfl rfl qef5_ ?_
             with_reducible refine (spec_cnChoose.calls k4 (wrap64 ((wrap64 (a1 - (l0.length:Int))) - x46_3)) x14_4 t165 _ A30.out).mono ?_
             rintro e w' ⟨rfl,⟨nd,rfl⟩⟩;refine ⟨_,rfl,?_⟩;have p31:0<=((ji27):Int):=of_decide_eq_true qe84_;have q31:((ji27):Int) < ((x11_4.length:Int):Int):=of_decide_eq_true qe84_;obtain ⟨go31,co31,eo31,gb31,gl31,cl31,HG31⟩:=Kd.R_form HO_11.out (by omega)
             (first | cases eo31 | (injection eo31 with ea_ en_ ec_;(first | subst ea_ | (injection ea_ with ea_;subst ea_));subst ec_;clear en_))
             have GB31:=am_ gb31;have GG31:=am_ HG31;clear gb31 gl31 HG31
             (first | simp only [add_plain] at hx164_0 | skip)
             obtain ⟨hx31_0,hf31_0⟩:=Kd.R_celln 0 HO_11.out ((ji27):Int) p31 q31;replace p31:=eq_true p31;replace q31:=eq_true q31;have HP34:=Kd.R_putn HO_11.out ((ji27):Int) (wrap64 ((rd x11_4 (ji27)) + (wrap64 ((rd x6_1 x46_3) * t165))));rw [<- Ny166.out] at HP34;have HQ34:=am_ HP34;clear HP34;refine hK.out _ _ (hHeld) (fun hHeld=>?_);clear hK K;refine nm_ ?_;refine pu_ 12 77 16 8191 ?_;refine pu_ 13 78 16 16383 ?_;refine pu_ 14 79 16 32767 ?_;refine la_ 15 none 16 65535 fun K hK=>?_;refine skip_ (w1:=?_) (by rfl) rfl ?_ ?_;rotate_left
             ·
              go_simp;rfl
             refine hK.out _ _ ?_;clear hK K;refine done_ (done_of HT_.out (by kernel_rfl)) ?_
             try go_wp2
             go_roundg k4
             case measure=>have:=HK1.out;have:=HK2.out;have:=HK3.out;have:=HK4.out;omega
             case rel=>exact ⟨(y166),(wrap64 (x14_4 + 1)),qc8f_,H',⟨by have:=HK1.out;have:=HK2.out;have:=HK3.out;have:=HK4.out;omega⟩,⟨q9d5_ HQ34.out⟩,⟨by (with_reducible repeat (first | apply Kd.R_alloc | apply Kd.R_drewN | apply Kd.R_drew));exact Kd.R_mono (Kd.R_far (p:=⟨go31,((ji27):Int).toNat,none⟩) (Kd.R_mono HO_44.out (fun k_ hk=>(⟨hk,fun e_=>hk (by rw [e_];rfl)⟩:_/\k_ ≠ go31))) (fun _ hk=>hk.2) (.int .i64 (wrap64 ((rd x11_4 (ji27)) + (wrap64 ((rd x6_1 x46_3) * t165)))))) (fun _ hk=>hk.1)⟩,⟨qfcd_ GB31.out⟩⟩
            have H':=am_ H;clear H;go_wp2;go_roundg k4
            case measure=>have:=HK1.out;have:=HK2.out;have:=HK3.out;have:=HK4.out;omega
            case rel=>exact ⟨(x11_4),(wrap64 (x14_4 + 1)),qc8f_,H',⟨by have:=HK1.out;have:=HK2.out;have:=HK3.out;have:=HK4.out;omega⟩,⟨q9d5_ HO_11.out⟩,⟨q9d5_ HO_44.out⟩,⟨q0c4_⟩⟩
           have H':=am_ H;clear H;go_wp2;go_roundg k4
           case measure=>have:=HK1.out;have:=HK2.out;have:=HK3.out;have:=HK4.out;omega
           case rel=>exact ⟨(x11_4),(wrap64 (x46_3 + 1)),qc8f_,H',⟨by have:=HK1.out;have:=HK2.out;have:=HK3.out;have:=HK4.out;omega⟩,⟨q9d5_ HO_11.out⟩,⟨q9d5_ HO_44.out⟩,⟨q0c4_⟩⟩
        have H':=am_ H;clear H;go_wp2;go_roundg k3
        case measure=>have:=HK1.out;have:=HK2.out;have:=HK3.out;omega
        case rel=>exact ⟨(x11_3),(x7_2),(wrap64 (x8_1 + 1)),qc8f_,qc8f_,H',⟨q0e9_ HK1.out HK2.out HK3.out⟩,⟨q7d9_ HO_11.out⟩,⟨q0c4_⟩⟩
   obtain ⟨ji35,hji35⟩:∃ j_:Int,(wrap64 (a1 - (l0.length:Int))) = j_:=⟨_,rfl⟩;replace H:(if 0<=(ji35) then (if (ji35) < (x6_1.length:Int) then (some (rd x6_1 (ji35))) else (none)) else (none)) = some r:=by first | (rw [hji35] at H;exact H) | (simp only [hji35] at H ⊢;exact H)
   have hji35w:(IntKind.i64.wrap (a1 - (l0.length:Int))) = ji35:=(i64_w _).trans hji35;revert H;refine id_ fun c36b0 H=>?_;revert H;refine id_ fun c37b0 H=>?_;obtain rfl:=Option.some.inj H;obtain ⟨Ao38,co38,eo38⟩:=Kd.R_slice HO_6.out;subst eo38;obtain ⟨ad158,rfl,hx158_0,p158,q158⟩:=ri_ (rr_ HO_6.out) (ji35);go_wp2;go_ret;exact ⟨by first | rfl | (simp [errW_none,errW_some] <;> rfl) | (simp only [<- hji3,<- hji35];first | rfl | (simp [errW_none,errW_some] <;> rfl)) | (simp [*,errW_none,errW_some] <;> rfl),q0c4_⟩
mutual
def spec_cnAt.l0:Nat->Int->Int->List Int->Option (List Int)
 | 0,_,_,_=>none
 | k + 1,x0,x1,x5=>if (x5.length:Int) < x0 then ((spec_l1Own.f x5).bind fun t167=>(if t167.length < 17592186044416 then ((spec_cnWith.f k (t167 ++ [0]) x0).bind fun t173=>(spec_cnAt.l1 k x0 x1 x5 0 t173)) else (none))) else (some x5)
def spec_cnAt.l1:Nat->Int->Int->List Int->Int->Int->Option (List Int)
 | 0,_,_,_,_,_=>none
 | k + 1,x0,x1,x5,x6,x7=>if x1 >= x7 then ((spec_l1Own.f x5).bind fun t174=>(if t174.length < 17592186044416 then ((spec_cnWith.f k (t174 ++ [wrap64 (x6 + 1)]) x0).bind fun t180=>(spec_cnAt.l1 k x0 (wrap64 (x1 - x7)) x5 (wrap64 (x6 + 1)) t180)) else (none))) else (if x5.length < 17592186044416 then (spec_cnAt.l0 k x0 x1 (x5 ++ [x6])) else (none))
end
def spec_cnAt.f (k:Nat) (a0:Int) (a1:Int):Option (List Int):=spec_cnAt.l0 k a0 a1 ([]:List Int)
theorem spec_cnAt.calls (k:Nat) (a0:Int) (a1:Int) (r:List Int) (w:World) (h:spec_cnAt.f k a0 a1 = some r) :
  Calls Tryz.prog 181 #[.int .i64 a0,.int .i64 a1] w fun e w'=>∃ v0_:Value,e = .returned (v0_)/\Kd.R (Kd.int .i64) 3 w' w.heap.size (fun _=>True) v0_ r/\Below w.heap.size w w':=by
 have HB:=am_ (Below.refl w.heap.size w);unfold spec_cnAt.f at h;have H:=h;clear h;have H':=am_ H;clear H;go_enter Tryz.func181,Tryz.ntmps181;go_wp2
 go_loopg [1,5] k (fun kq v1 v5 w'=>∃ (x1_1:Int) (x5_1:List Int),v1 = .int .i64 x1_1/\Aside0 (spec_cnAt.l0 kq a0 x1_1 x5_1 = some r)/\Aside0 (kq<=k)/\Aside0 (Kd.R (Kd.int .i64) 3 w' w.heap.size (fun _=>True) v5 x5_1)/\Aside0 (Below w.heap.size w w'))
 case atStart=>exact ⟨(a1),(([]:List Int)),qc8f_,H',⟨Nat.le_refl _⟩,⟨qf62_⟩,⟨q0c4_⟩⟩
 case round =>
  clear H';obtain ⟨x1_1,x5_1,rfl,HA,HK1,HO_5,HB⟩:=hrel;cases gk with
  | zero=>exact n0_ HA.out
  | succ k1 =>
   have H:=HA.out;clear HA;simp only [spec_cnAt.l0] at H;revert H;refine ie_ (fun c3b0 H=>?_) fun c3b0 H=>?_
   ·
    obtain ⟨t167,A4,H⟩:=ob_ H;revert H;refine it_ fun c5 H=>?_;have LMc5:=am_ c5;clear c5;obtain ⟨y170,hy170⟩:=gn_ ((t167 ++ [0]):List Int);replace H:((spec_cnWith.f k1 y170 a0).bind fun t173=>(spec_cnAt.l1 k1 a0 x1_1 x5_1 0 t173)) = some r:=rl_ hy170 H;have Ny170:=am_ hy170;clear hy170;obtain ⟨t173,A6,H⟩:=ob_ H;have H':=am_ H;clear H;obtain ⟨Ao7,co7,eo7⟩:=Kd.R_slice HO_5.out;subst eo7;go_wp2_with (first | ((with_reducible refine gc_ 70 ?_);refine gl_ 13 Tryz.func70 #[.slice Ao7 x5_1.length co7] ?_;(with_reducible refine (spec_l1Own.calls _ _ x5_1 t167 _ ?s1 ?s2 A4.out).mono ?_);(case s1=>exact q5a8_ HO_5.out);(case s2=>exact (Kd.R_reads' HO_5.out).2.1);rintro e w8 ⟨v168,rfl,ho0,hb⟩;refine ⟨_,rfl,?_⟩;have HO169:=am_ (Kd.R_lower (Kd.R_new' ho0 (Kd.R_lt (q9d5_ HO_5.out))) (below_size q0c4_));replace HO_5:=am_ (Kd.R_elder' (q9d5_ HO_5.out) (Kd.R_base ho0) hb);replace HB:=am_ (below_step q0c4_ hb);clear hb ho0) | ((with_reducible refine gate_builtin (b:=.append) (xs:=#[.tmp 13,.tmp 14]) rfl ?_);at_builtin;refine aI_ (w0:=w) (.tmp 13) (.tmp 14) v168 t167 0 (fun k_=>some k_ ≠ (.slice Ao7 x5_1.length co7:Value).ownBlock) (fun k_ hk=>Kd.fresh' (Kd.R_lt (q9d5_ HO_5.out)) k_ hk) (qe0f_ HO169.out) q0c4_ (by exact q1d0_ LMc5.out) ?_;intro v171 w9 ho hb hg hat;rw [<- Ny170.out] at ho;replace HO_5:=am_ (Kd.R_after (ok:=(fun _=>True)) (q9d5_ HO_5.out) hg hat);replace HB:=am_ (hb);have HO172:=am_ (ho);clear ho hb hg hat;obtain ⟨Ao10,co10,eo10⟩:=Kd.R_slice HO172.out;subst eo10) | ((with_reducible refine gc_ 188 ?_);refine gl_ 17 Tryz.func188 #[.slice Ao10 y170.length co10,.int .i64 a0] ?_;(with_reducible refine (spec_cnWith.calls k1 _ _ y170 a0 t173 _ ?s1 ?s2 A6.out).mono ?_);(case s1=>exact q5a8_ HO172.out);(case s2=>exact (Kd.R_reads' HO172.out).2.1);rintro e w11 ⟨rfl,hb⟩;refine ⟨_,rfl,?_⟩;replace HO_5:=am_ (Kd.R_below (q9d5_ HO_5.out) hb);replace HO172:=am_ (Kd.R_below (q9d5_ HO172.out) hb);replace HB:=am_ (below_step q0c4_ hb);clear hb))
    go_loopg [1,6,7] k1 (fun kq v1 v6 v7 w'=>∃ (x1_2:Int) (x6_2:Int) (x7_2:Int),v1 = .int .i64 x1_2/\v6 = .int .i64 x6_2/\v7 = .int .i64 x7_2/\Aside0 (spec_cnAt.l1 kq a0 x1_2 x5_1 x6_2 x7_2 = some r)/\Aside0 (kq<=k1)/\Aside0 (Kd.R (Kd.int .i64) 3 w' w.heap.size (fun _=>True) (.slice Ao7 x5_1.length co7) x5_1)/\Aside0 (Below w.heap.size w w'))
    case atStart=>exact ⟨(x1_1),(0),(t173),qc8f_,qc8f_,qc8f_,H',⟨Nat.le_refl _⟩,⟨q7d9_ HO_5.out⟩,⟨q0c4_⟩⟩
    case round =>
     clear H';obtain ⟨x1_2,x6_2,x7_2,rfl,rfl,rfl,HA,HK2,HO_5,HB⟩:=hrel;cases gk with
     | zero=>exact n0_ HA.out
     | succ k2 =>
      have H:=HA.out;clear HA;simp only [spec_cnAt.l1] at H;revert H;refine ie_ (fun c12b0 H=>?_) fun c12b0 H=>?_
      ·
       obtain ⟨t174,A13,H⟩:=ob_ H;revert H;refine it_ fun c14 H=>?_;have LMc14:=am_ c14;clear c14;obtain ⟨y177,hy177⟩:=gn_ ((t174 ++ [wrap64 (x6_2 + 1)]):List Int);replace H:((spec_cnWith.f k2 y177 a0).bind fun t180=>(spec_cnAt.l1 k2 a0 (wrap64 (x1_2 - x7_2)) x5_1 (wrap64 (x6_2 + 1)) t180)) = some r:=rl_ hy177 H;have Ny177:=am_ hy177;clear hy177;obtain ⟨t180,A15,H⟩:=ob_ H;have H':=am_ H;clear H;go_wp2_with (first | ((with_reducible refine gc_ 70 ?_);refine gl_ 22 Tryz.func70 #[.slice Ao7 x5_1.length co7] ?_;(with_reducible refine (spec_l1Own.calls _ _ x5_1 t174 _ ?s1 ?s2 A13.out).mono ?_);(case s1=>exact q5a8_ HO_5.out);(case s2=>exact (Kd.R_reads' HO_5.out).2.1);rintro e w16 ⟨v175,rfl,ho0,hb⟩;refine ⟨_,rfl,?_⟩;have HO176:=am_ (Kd.R_lower (Kd.R_new' ho0 (Kd.R_lt (q9d5_ HO_5.out))) (below_size q0c4_));replace HO_5:=am_ (Kd.R_elder' (q9d5_ HO_5.out) (Kd.R_base ho0) hb);replace HB:=am_ (below_step q0c4_ hb);clear hb ho0) | ((with_reducible refine gate_builtin (b:=.append) (xs:=#[.tmp 22,.tmp 24]) rfl ?_);at_builtin;refine aI_ (w0:=w) (.tmp 22) (.tmp 24) v175 t174 (wrap64 (x6_2 + 1)) (fun k_=>some k_ ≠ (.slice Ao7 x5_1.length co7:Value).ownBlock) (fun k_ hk=>Kd.fresh' (Kd.R_lt (q9d5_ HO_5.out)) k_ hk) (qe0f_ HO176.out) q0c4_ (by exact q1d0_ LMc14.out) ?_;intro v178 w17 ho hb hg hat;rw [<- Ny177.out] at ho;replace HO_5:=am_ (Kd.R_after (ok:=(fun _=>True)) (q9d5_ HO_5.out) hg hat);replace HB:=am_ (hb);have HO179:=am_ (ho);clear ho hb hg hat;obtain ⟨Ao18,co18,eo18⟩:=Kd.R_slice HO179.out;subst eo18) | ((with_reducible refine gc_ 188 ?_);refine gl_ 27 Tryz.func188 #[.slice Ao18 y177.length co18,.int .i64 a0] ?_;(with_reducible refine (spec_cnWith.calls k2 _ _ y177 a0 t180 _ ?s1 ?s2 A15.out).mono ?_);(case s1=>exact q5a8_ HO179.out);(case s2=>exact (Kd.R_reads' HO179.out).2.1);rintro e w19 ⟨rfl,hb⟩;refine ⟨_,rfl,?_⟩;replace HO_5:=am_ (Kd.R_below (q9d5_ HO_5.out) hb);replace HO179:=am_ (Kd.R_below (q9d5_ HO179.out) hb);replace HB:=am_ (below_step q0c4_ hb);clear hb));go_roundg k2
       case measure=>have:=HK1.out;have:=HK2.out;omega
       case rel=>exact ⟨(wrap64 (x1_2 - x7_2)),(wrap64 (x6_2 + 1)),(t180),qc8f_,qc8f_,qc8f_,H',⟨q37b_ HK1.out HK2.out⟩,⟨q7d9_ HO_5.out⟩,⟨q0c4_⟩⟩
      revert H;refine it_ fun c20 H=>?_;have LMc20:=am_ c20;clear c20;obtain ⟨y181,hy181⟩:=gn_ ((x5_1 ++ [x6_2]):List Int);replace H:(spec_cnAt.l0 k2 a0 x1_2 y181) = some r:=rl_ hy181 H;have Ny181:=am_ hy181;clear hy181;have H':=am_ H;clear H;go_wp2_with (first | ((with_reducible refine gate_builtin (b:=.append) (xs:=#[.tmp 33,.tmp 35]) rfl ?_);at_builtin;refine aI_ (w0:=w) (.tmp 33) (.tmp 35) (.slice Ao7 x5_1.length co7) x5_1 x6_2 (fun _=>True) (fun _ _=>trivial) (q9d5_ HO_5.out) q0c4_ (by exact q1d0_ LMc20.out) ?_;intro v182 w21 ho hb hg hat;rw [<- Ny181.out] at ho;replace HB:=am_ (hb);have HO183:=am_ (ho);clear ho hb hg hat));go_roundg k2
      case measure=>have:=HK1.out;have:=HK2.out;omega
      case rel=>exact ⟨(x1_2),(y181),qc8f_,H',⟨q37b_ HK1.out HK2.out⟩,⟨q9d5_ HO183.out⟩,⟨q0c4_⟩⟩
   obtain rfl:=Option.some.inj H;obtain ⟨Ao22,co22,eo22⟩:=Kd.R_slice HO_5.out;subst eo22;go_wp2;go_ret;exact ⟨_,qce7_,q9d5_ HO_5.out,q0c4_⟩
def spec_ParkingAt.f (k:Nat) (a0:Int) (a1:Int):Option (List Int × Bool):=(spec_cnCars.f a0).bind fun t184=>(if t184 = true then ((spec_cnCount.f k a0).bind fun t185=>((spec_l1In.f a1 0 (wrap64 (t185 - 1))).bind fun t186=>(if t186 = true then ((spec_cnAt.f k a0 a1).bind fun t187=>(some (t187,true))) else (some (([]:List Int),false))))) else (some (([]:List Int),false)))
theorem spec_ParkingAt.calls (k:Nat) (a0:Int) (a1:Int) (r1:List Int) (r2:Bool) (w:World) (h:spec_ParkingAt.f k a0 a1 = some (r1,r2)) :
  Calls Tryz.prog 120 #[.int .i64 a0,.int .i64 a1] w fun e w'=>∃ v0_:Value,e = .returned (.tuple #[v0_,.bool r2])/\Kd.R (Kd.int .i64) 3 w' w.heap.size (fun _=>True) v0_ r1/\Below w.heap.size w w':=by
 have HB:=am_ (Below.refl w.heap.size w);unfold spec_ParkingAt.f at h;have H:=h;clear h;obtain ⟨t184,A3,H⟩:=ob_ H;revert H;refine be_ (fun c4 H=>?_) fun c4 H=>?_
 ·
  subst c4;obtain ⟨t185,A5,H⟩:=ob_ H;obtain ⟨t186,A6,H⟩:=ob_ H;revert H;refine be_ (fun c7 H=>?_) fun c7 H=>?_
  ·
   subst c7;obtain ⟨t187,A8,H⟩:=ob_ H;obtain ⟨rfl,rfl⟩:=sp_ H;go_enter Tryz.func120,Tryz.ntmps120;go_wp2_with (first | ((with_reducible refine gc_ 179 ?_);refine gl_ 7 Tryz.func179 #[.int .i64 a0] ?_;(with_reducible refine (spec_cnCars.calls a0 true _ A3.out).mono ?_);rintro e w' ⟨rfl,⟨nd,rfl⟩⟩;refine ⟨_,rfl,?_⟩) | (go_at_call 180;(with_reducible refine (spec_cnCount.calls k a0 t185 _ A5.out).mono ?_);rintro e w' ⟨rfl,⟨nd,rfl⟩⟩) | (go_at_call 112;(with_reducible refine (spec_l1In.calls a1 0 (wrap64 (t185 - 1)) true _ A6.out).mono ?_);rintro e w' ⟨rfl,⟨nd,rfl⟩⟩) | ((with_reducible refine gc_ 181 ?_);refine gl_ 19 Tryz.func181 #[.int .i64 a0,.int .i64 a1] ?_;(with_reducible refine (spec_cnAt.calls k a0 a1 t187 _ A8.out).mono ?_);rintro e w9 ⟨v188,rfl,ho0,hb⟩;refine ⟨_,rfl,?_⟩;have HO189:=am_ (Kd.R_lower ho0 (below_size q0c4_));replace HB:=am_ (below_step q0c4_ hb);clear hb ho0));go_ret2;exact ⟨_,qce7_,q9d5_ HO189.out,q0c4_⟩
  subst c7;obtain ⟨rfl,rfl⟩:=sp_ H;go_enter Tryz.func120,Tryz.ntmps120;go_wp2_with (first | ((with_reducible refine gc_ 179 ?_);refine gl_ 7 Tryz.func179 #[.int .i64 a0] ?_;(with_reducible refine (spec_cnCars.calls a0 true _ A3.out).mono ?_);rintro e w' ⟨rfl,⟨nd,rfl⟩⟩;refine ⟨_,rfl,?_⟩) | (go_at_call 180;(with_reducible refine (spec_cnCount.calls k a0 t185 _ A5.out).mono ?_);rintro e w' ⟨rfl,⟨nd,rfl⟩⟩) | (go_at_call 112;(with_reducible refine (spec_l1In.calls a1 0 (wrap64 (t185 - 1)) false _ A6.out).mono ?_);rintro e w' ⟨rfl,⟨nd,rfl⟩⟩));go_ret2;exact ⟨_,qce7_,qf62_,q0c4_⟩
 subst c4;obtain ⟨rfl,rfl⟩:=sp_ H;go_enter Tryz.func120,Tryz.ntmps120;go_wp2_with (first | ((with_reducible refine gc_ 179 ?_);refine gl_ 7 Tryz.func179 #[.int .i64 a0] ?_;(with_reducible refine (spec_cnCars.calls a0 false _ A3.out).mono ?_);rintro e w' ⟨rfl,⟨nd,rfl⟩⟩;refine ⟨_,rfl,?_⟩));go_ret2;exact ⟨_,qce7_,qf62_,q0c4_⟩
mutual
def spec_RankParking.l0:Nat->List Int->Int->List Int->Int->Int->Option (Int × Bool)
 | 0,_,_,_,_,_=>none
 | k + 1,x0,x4,x11,x12,x13=>if x13 < x12 then (if 0<=x13 then (if x13 < (x11.length:Int) then (spec_RankParking.l1 k x0 x4 x13 (rd x11 x13) 0 x11 x12 x13) else (none)) else (none)) else (some (x4,true))
def spec_RankParking.l1:Nat->List Int->Int->Int->Int->Int->List Int->Int->Int->Option (Int × Bool)
 | 0,_,_,_,_,_,_,_,_=>none
 | k + 1,x0,x4,x5,x6,x7,x11,x12,x13=>if x7 < x6 then (if 0<=x5 then (if x5<=(x0.length:Int) then ((spec_l1Own.f (x0.take (x5:Int).toNat)).bind fun t193=>(if t193.length < 17592186044416 then ((spec_cnWith.f k (t193 ++ [x7]) (x0.length:Int)).bind fun t199=>(spec_RankParking.l1 k x0 (wrap64 (x4 + t199)) x5 x6 (wrap64 (x7 + 1)) x11 x12 x13)) else (none))) else (none)) else (none)) else (spec_RankParking.l0 k x0 x4 x11 x12 (wrap64 (x13 + 1)))
end
def spec_RankParking.f (k:Nat) (l0:List Int):Option (Int × Bool):=(spec_paParking.f k l0).bind fun t190=>(if t190 = true then (spec_RankParking.l0 k l0 0 l0 (l0.length:Int) 0) else (some (0,false)))
theorem spec_RankParking.calls (k:Nat) (A0:Option Addr) (c0:Nat) (l0:List Int) (r1:Int) (r2:Bool) (w:World) (hr0:Kd.C (Kd.int .i64) w A0 l0.length l0) (hc0:l0.length<=c0) (h:spec_RankParking.f k l0 = some (r1,r2)) :
  Calls Tryz.prog 130 #[.slice A0 l0.length c0] w fun e w'=>e = .returned (.tuple #[.int .i64 r1,.bool r2])/\Below w.heap.size w w':=by
 have HR0:=am_ hr0;have HC0:=am_ hc0;clear hr0 hc0;have HB:=am_ (Below.refl w.heap.size w);unfold spec_RankParking.f at h;have H:=h;clear h;obtain ⟨t190,A2,H⟩:=ob_ H;revert H;refine be_ (fun c3 H=>?_) fun c3 H=>?_
 ·
  subst c3;have H':=am_ H;clear H;go_enter Tryz.func130,Tryz.ntmps130;go_wp2_with (first | ((with_reducible refine gc_ 71 ?_);refine gl_ 9 Tryz.func71 #[.slice A0 l0.length c0] ?_;(with_reducible refine (spec_paParking.calls k _ _ l0 true _ ?s1 ?s2 A2.out).mono ?_);(case s1=>exact q201_ HR0.out);(case s2=>exact HC0.out);rintro e w4 ⟨rfl,hb⟩;refine ⟨_,rfl,?_⟩;replace HB:=am_ (below_step q0c4_ hb);clear hb))
  go_loopg [4,13] k (fun kq v4 v13 w'=>∃ (x4_1:Int) (x13_1:Int),v4 = .int .i64 x4_1/\v13 = .int .i64 x13_1/\Aside0 (spec_RankParking.l0 kq l0 x4_1 l0 (l0.length:Int) x13_1 = some (r1,r2))/\Aside0 (kq<=k)/\Aside0 (Below w.heap.size w w'))
  case atStart=>exact ⟨(0),(0),qc8f_,qc8f_,H',⟨Nat.le_refl _⟩,⟨q0c4_⟩⟩
  case round =>
   clear H';obtain ⟨x4_1,x13_1,rfl,rfl,HA,HK1,HB⟩:=hrel;cases gk with
   | zero=>exact n0_ HA.out
   | succ k1 =>
    have H:=HA.out;clear HA;simp only [spec_RankParking.l0] at H;revert H;refine ie_ (fun c5b0 H=>?_) fun c5b0 H=>?_
    ·
     revert H;refine id_ fun c6b0 H=>?_;revert H;refine id_ fun c7b0 H=>?_;have H':=am_ H;clear H;obtain ⟨ad191,rfl,hx191_0,p191,q191⟩:=ri_ HR0.out x13_1
     (try (replace hx191_0:=(HB.out.cell (World.block_lt_of_cell? w _ hx191_0)).trans hx191_0))
     go_wp2
     go_loopg [4,7] k1 (fun kq v4 v7 w'=>∃ (x4_2:Int) (x7_2:Int),v4 = .int .i64 x4_2/\v7 = .int .i64 x7_2/\Aside0 (spec_RankParking.l1 kq l0 x4_2 x13_1 (rd l0 x13_1) x7_2 l0 (l0.length:Int) x13_1 = some (r1,r2))/\Aside0 (kq<=k1)/\Aside0 (Below w.heap.size w w'))
     case atStart=>exact ⟨(x4_1),(0),qc8f_,qc8f_,H',⟨Nat.le_refl _⟩,⟨q0c4_⟩⟩
     case round =>
      clear H';obtain ⟨x4_2,x7_2,rfl,rfl,HA,HK2,HB⟩:=hrel;cases gk with
      | zero=>exact n0_ HA.out
      | succ k2 =>
       have H:=HA.out;clear HA;simp only [spec_RankParking.l1] at H;revert H;refine ie_ (fun c8b0 H=>?_) fun c8b0 H=>?_
       ·
        revert H;refine i2_ fun c9b0 c9b1 H=>?_;revert H;refine i2_ fun c10b0 c10b1 H=>?_;obtain ⟨t193,A11,H⟩:=ob_ H;revert H;refine it_ fun c12 H=>?_;have LMc12:=am_ c12;clear c12;obtain ⟨y196,hy196⟩:=gn_ ((t193 ++ [x7_2]):List Int);replace H:((spec_cnWith.f k2 y196 (l0.length:Int)).bind fun t199=>(spec_RankParking.l1 k2 l0 (wrap64 (x4_2 + t199)) x13_1 (rd l0 x13_1) (wrap64 (x7_2 + 1)) l0 (l0.length:Int) x13_1)) = some (r1,r2):=rl_ hy196 H;have Ny196:=am_ hy196;clear hy196;obtain ⟨t199,A13,H⟩:=ob_ H;have H':=am_ H;clear H;obtain ⟨i014,hi014,_,hsz14,_⟩:=info_parts info3;obtain ⟨hcut14,hA14,hC14⟩:=print_take_of (P:=Tryz.prog) (Value.int .i64) 0 22 3 .i64 Tryz.underlying22 hi014 hsz14 (some ad191) c0 l0 x13_1 (of_decide_eq_true qe84_) (of_decide_eq_true qe84_) HC0.out;have HR192:=am_ (Kd.C_of_reads (h1:=fun _=>rfl) (hA14 _ (Kd.reads_of_C HR0.out)));have HC192:=am_ hC14;clear hA14 hC14 hi014 hsz14;go_wp2_with (first | ((with_reducible refine gc_ 70 ?_);refine goesL_ (some 27) rfl rfl Tryz.func70 (by kernel_rfl) rfl #[.slice (some ad191) (l0.take (x13_1:Int).toNat).length c0] rfl (by (try simp only [List.map_toArray,List.map_cons,List.map_nil]);first | done | (rw [show (l0.take (x13_1:Int).toNat).length = x13_1.toNat from (by rw [List.length_take];have h_:(x13_1:Int)<=(l0.length:Int):=of_decide_eq_true qe84_;omega)] <;> rfl) | rfl | (simp only [List.length_drop,List.length_take];rfl)) ?_;(with_reducible refine (spec_l1Own.calls _ _ (l0.take (x13_1:Int).toNat) t193 _ ?s1 ?s2 A11.out).mono ?_);(case s1=>exact qe02_ HR192.out);(case s2=>exact HC192.out);rintro e w15 ⟨v194,rfl,ho0,hb⟩;refine ⟨_,rfl,?_⟩;have HO195:=am_ (Kd.R_lower ho0 (below_size q0c4_));replace HB:=am_ (below_step q0c4_ hb);clear hb ho0) | ((with_reducible refine gate_builtin (b:=.append) (xs:=#[.tmp 27,.tmp 29]) rfl ?_);at_builtin;refine aI_ (w0:=w) (.tmp 27) (.tmp 29) v194 t193 x7_2 (fun _=>True) (fun _ _=>trivial) (q9d5_ HO195.out) q0c4_ (by exact q1d0_ LMc12.out) ?_;intro v197 w16 ho hb hg hat;rw [<- Ny196.out] at ho;replace HB:=am_ (hb);have HO198:=am_ (ho);clear ho hb hg hat;obtain ⟨Ao17,co17,eo17⟩:=Kd.R_slice HO198.out;subst eo17) | ((with_reducible refine gc_ 188 ?_);refine gl_ 33 Tryz.func188 #[.slice Ao17 y196.length co17,.int .i64 (l0.length:Int)] ?_;(with_reducible refine (spec_cnWith.calls k2 _ _ y196 (l0.length:Int) t199 _ ?s1 ?s2 A13.out).mono ?_);(case s1=>exact q5a8_ HO198.out);(case s2=>exact (Kd.R_reads' HO198.out).2.1);rintro e w18 ⟨rfl,hb⟩;refine ⟨_,rfl,?_⟩;replace HO198:=am_ (Kd.R_below (q9d5_ HO198.out) hb);replace HB:=am_ (below_step q0c4_ hb);clear hb));go_roundg k2
        case measure=>have:=HK1.out;have:=HK2.out;omega
        case rel=>exact ⟨(wrap64 (x4_2 + t199)),(wrap64 (x7_2 + 1)),qc8f_,qc8f_,H',⟨q37b_ HK1.out HK2.out⟩,⟨q0c4_⟩⟩
       have H':=am_ H;clear H;go_wp2;go_roundg k2
       case measure=>have:=HK1.out;have:=HK2.out;omega
       case rel=>exact ⟨(x4_2),(wrap64 (x13_1 + 1)),qc8f_,qc8f_,H',⟨q37b_ HK1.out HK2.out⟩,⟨q0c4_⟩⟩
    obtain ⟨rfl,rfl⟩:=sp_ H;go_wp2;go_ret2;exact ⟨qce7_,q0c4_⟩
 subst c3;obtain ⟨rfl,rfl⟩:=sp_ H;go_enter Tryz.func130,Tryz.ntmps130;go_wp2_with (first | ((with_reducible refine gc_ 71 ?_);refine gl_ 9 Tryz.func71 #[.slice A0 l0.length c0] ?_;(with_reducible refine (spec_paParking.calls k _ _ l0 false _ ?s1 ?s2 A2.out).mono ?_);(case s1=>exact q201_ HR0.out);(case s2=>exact HC0.out);rintro e w19 ⟨rfl,hb⟩;refine ⟨_,rfl,?_⟩;replace HB:=am_ (below_step q0c4_ hb);clear hb));go_ret2;exact ⟨qce7_,q0c4_⟩
def spec_NextParking.f (k:Nat) (l0:List Int):Option (List Int × Bool):=(spec_RankParking.f k l0).bind fun bt200=>(if bt200.2 = true then ((spec_ParkingAt.f k (l0.length:Int) (wrap64 (bt200.1 + 1))).bind fun bt202=>(some (bt202.1,bt202.2))) else (some (([]:List Int),false)))
theorem spec_NextParking.calls (k:Nat) (A0:Option Addr) (c0:Nat) (l0:List Int) (r1:List Int) (r2:Bool) (w:World) (hr0:Kd.C (Kd.int .i64) w A0 l0.length l0) (hc0:l0.length<=c0) (h:spec_NextParking.f k l0 = some (r1,r2)) :
  Calls Tryz.prog 119 #[.slice A0 l0.length c0] w fun e w'=>∃ v0_:Value,e = .returned (.tuple #[v0_,.bool r2])/\Kd.R (Kd.int .i64) 3 w' w.heap.size (fun _=>True) v0_ r1/\Below w.heap.size w w':=by
 have HR0:=am_ hr0;have HC0:=am_ hc0;clear hr0 hc0;have HB:=am_ (Below.refl w.heap.size w);unfold spec_NextParking.f at h;have H:=h;clear h;obtain ⟨⟨t200,t201⟩,A2,H⟩:=ob_ H;dsimp only at H
 revert H;refine be_ (fun c3 H=>?_) fun c3 H=>?_
 ·
  subst c3;obtain ⟨⟨t202,t203⟩,A4,H⟩:=ob_ H;dsimp only at H;obtain ⟨rfl,rfl⟩:=sp_ H;go_enter Tryz.func119,Tryz.ntmps119;go_wp2_with (first | ((with_reducible refine gc_ 130 ?_);refine gl_ 8 Tryz.func130 #[.slice A0 l0.length c0] ?_;(with_reducible refine (spec_RankParking.calls k _ _ l0 t200 true _ ?s1 ?s2 A2.out).mono ?_);(case s1=>exact q201_ HR0.out);(case s2=>exact HC0.out);rintro e w5 ⟨rfl,hb⟩;refine ⟨_,rfl,?_⟩;replace HB:=am_ (below_step q0c4_ hb);clear hb) | ((with_reducible refine gc_ 120 ?_);refine gl_ 17 Tryz.func120 #[.int .i64 (l0.length:Int),.int .i64 (wrap64 (t200 + 1))] ?_;(with_reducible refine (spec_ParkingAt.calls k (l0.length:Int) (wrap64 (t200 + 1)) t202 t203 _ A4.out).mono ?_);rintro e w6 ⟨v204,rfl,ho0,hb⟩;refine ⟨_,rfl,?_⟩;have HO205:=am_ (Kd.R_lower ho0 (below_size q0c4_));replace HB:=am_ (below_step q0c4_ hb);clear hb ho0));go_ret2;exact ⟨_,qce7_,q9d5_ HO205.out,q0c4_⟩
 subst c3;obtain ⟨rfl,rfl⟩:=sp_ H;go_enter Tryz.func119,Tryz.ntmps119;go_wp2_with (first | ((with_reducible refine gc_ 130 ?_);refine gl_ 8 Tryz.func130 #[.slice A0 l0.length c0] ?_;(with_reducible refine (spec_RankParking.calls k _ _ l0 t200 false _ ?s1 ?s2 A2.out).mono ?_);(case s1=>exact q201_ HR0.out);(case s2=>exact HC0.out);rintro e w7 ⟨rfl,hb⟩;refine ⟨_,rfl,?_⟩;replace HB:=am_ (below_step q0c4_ hb);clear hb));go_ret2;exact ⟨_,qce7_,qf62_,q0c4_⟩
end Go.Proofs.YtjdlhefjgceabaaGreatDoor.PAll

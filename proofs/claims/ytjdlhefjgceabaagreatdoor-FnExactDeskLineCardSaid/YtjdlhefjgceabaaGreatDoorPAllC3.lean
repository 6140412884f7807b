import Derived.Test.YtjdlhefjgceabaaGreatDoorPAllA3
import Derived.Test.YtjdlhefjgceabaaGreatDoorPAllB3
namespace Go.Proofs.YtjdlhefjgceabaaGreatDoor.PAll
open Go.RowKit Go.Proofs.YtjdlhefjgceabaaGreatDoor.Hand Go.Proofs.YtjdlhefjgceabaaGreatDoorW.PrintWords Go.Proofs.YtjdlhefjgceabaaGreatDoorW.PrintLast Go.Proofs.YtjdlhefjgceabaaGreatDoorW.PrintMore
attribute [local go_sem] max2_int min2_int max_two min_two max_three min_three max_four min_four
set_option maxHeartbeats 8000000
set_option maxRecDepth 100000
set_option linter.unusedVariables false
set_option linter.unusedSimpArgs false
mutual
def impl_completions.l0:Nat->List Int->Int->List Int->Int->Int->Option (Int)
 | 0,_,_,_,_,_=>none
 | k + 1,x0,x5,x6,x22,x23=>if x23 < x22 then ((countIf_compl.f x0 x23).bind fun t358=>(if 0<=(wrap64 (x5 + 1)) then (if (wrap64 (x5 + 1):Int).toNat<=35184372088832 then (impl_completions.l1 k x0 x5 t358 (List.replicate (wrap64 (x5 + 1):Int).toNat 0) x22 x23 x6 (x6.length:Int) 0 x23) else (none)) else (none))) else (if 0<=x5 then (if x5 < (x6.length:Int) then (some (rd x6 x5)) else (none)) else (none))
def impl_completions.l1:Nat->List Int->Int->Int->List Int->Int->Int->List Int->Int->Int->Int->Option (Int)
 | 0,_,_,_,_,_,_,_,_,_,_=>none
 | k + 1,x0,x5,x8,x9,x22,x23,x32,x33,x34,x358000=>if x34 < x33 then (if 0<=x34 then (if x34 < (x32.length:Int) then (impl_completions.l2 k x0 x5 x8 x9 x34 (rd x32 x34) 0 x22 x23 x32 x33 x34 x358000) else (none)) else (none)) else (impl_completions.l0 k x0 x5 x9 x22 (wrap64 (x23 + 1)))
def impl_completions.l2:Nat->List Int->Int->Int->List Int->Int->Int->Int->Int->Int->List Int->Int->Int->Int->Option (Int)
 | 0,_,_,_,_,_,_,_,_,_,_,_,_,_=>none
 | k + 1,x0,x5,x8,x9,x10,x11,x12,x22,x23,x32,x33,x34,x358000=>if (wrap64 (x10 + x12))<=x5 then (if (wrap64 ((wrap64 (x8 + x10)) + x12)) > x358000 then (if 0<=(wrap64 (x10 + x12)) then (if (wrap64 (x10 + x12)) < (x9.length:Int) then ((impl_choose.f k (wrap64 (x5 - x10)) x12).bind fun t364=>(impl_completions.l2 k x0 x5 x8 (x9.set ((wrap64 (x10 + x12)):Int).toNat (wrap64 ((rd x9 (wrap64 (x10 + x12))) + (wrap64 (x11 * t364))))) x10 x11 (wrap64 (x12 + 1)) x22 x23 x32 x33 x34 x358000)) else (none)) else (none)) else (impl_completions.l2 k x0 x5 x8 x9 x10 x11 (wrap64 (x12 + 1)) x22 x23 x32 x33 x34 x358000)) else (impl_completions.l1 k x0 x5 x8 x9 x22 x23 x32 x33 (wrap64 (x34 + 1)) x358000)
end
def impl_completions.f (k:Nat) (l0:List Int) (a1:Int):Option (Int):=if 0<=(wrap64 ((wrap64 (a1 - (l0.length:Int))) + 1)) then (if (wrap64 ((wrap64 (a1 - (l0.length:Int))) + 1):Int).toNat<=35184372088832 then ((some (List.replicate (wrap64 ((wrap64 (a1 - (l0.length:Int))) + 1):Int).toNat 0:List Int)).bind fun y352=>(if 0 < (y352.length:Int) then (impl_completions.l0 k l0 (wrap64 (a1 - (l0.length:Int))) (y352.set (0:Int).toNat 1) a1 0) else (none))) else (none)) else (none)
def impl_completions.T7:Bool × List (List Nat × List Nat):=(true,[([],[]),([],[]),([0,1],[0,1]),([],[]),([3],[3]),([4,4],[4]),([2,2,0,1,2],[2]),([5,6,0,1,2,3,4,5,6],[5])])
def impl_completions.B7:List Nat:=[0,0,3,0,8,24,7,127]
theorem impl_completions.tab7:rtab .any (opsOf Tryz.f104 7) = impl_completions.T7:=by kernel_rfl
theorem impl_completions.bits7:waitsOk impl_completions.T7.2 impl_completions.B7 = true:=by kernel_rfl
def impl_completions.T15:Bool × List (List Nat × List Nat):=(true,[([],[]),([],[]),([],[]),([1,2],[1,2]),([0,3],[0,3]),([4],[4]),([],[]),([],[]),([],[]),([7,8],[7,8]),([],[]),([9,10],[9,10]),([6,11],[6,11]),([5,12],[5,12]),([0,3,0,1,2,3,4,5,6,7,8,9,10,11,12,13],[0,3]),([14,13,11,0,1,2,3,4,5,6,7,8,9,10,11,12,13],[13,14])])
def impl_completions.B15:List Nat:=[0,0,0,6,15,31,0,0,0,384,0,1920,4032,8191,16383,32767]
theorem impl_completions.tab15:rtab .any (opsOf Tryz.f104 15) = impl_completions.T15:=by kernel_rfl
theorem impl_completions.bits15:waitsOk impl_completions.T15.2 impl_completions.B15 = true:=by kernel_rfl
theorem impl_completions.calls (k:Nat) (A0:Option Addr) (c0:Nat) (l0:List Int) (a1:Int) (r:Int) (w:World) (hr0:Kd.C (Kd.int .i64) w A0 l0.length l0) (hc0:l0.length<=c0) (h:impl_completions.f k l0 a1 = some r) :
  Calls Tryz.prog 104 #[.slice A0 l0.length c0,.int .i64 a1] w fun e w'=>e = .returned (.int .i64 r)/\Below w.heap.size w w':=by
 have HR0:=am_ hr0;have HC0:=am_ hc0;clear hr0 hc0;have HB:=am_ (Below.refl w.heap.size w);unfold impl_completions.f at h;have H:=h;clear h;obtain ⟨ji3,hji3⟩:∃ j_:Int,(wrap64 ((wrap64 (a1 - (l0.length:Int))) + 1)) = j_:=⟨_,rfl⟩;replace H:(if 0<=(ji3) then (if (ji3:Int).toNat<=35184372088832 then ((some (List.replicate (ji3:Int).toNat 0:List Int)).bind fun y352=>(if 0 < (y352.length:Int) then (impl_completions.l0 k l0 (wrap64 (a1 - (l0.length:Int))) (y352.set (0:Int).toNat 1) a1 0) else (none))) else (none)) else (none)) = some r:=q680_;have hji3w:(IntKind.i64.wrap ((wrap64 (a1 - (l0.length:Int))) + 1)) = ji3:=(i64_w _).trans hji3;revert H;refine i2_ fun c4b0 c4b1 H=>?_;revert H;refine i2_ fun c5b0 c5b1 H=>?_;obtain ⟨y352,hy352⟩:=gn_ ((List.replicate (ji3:Int).toNat 0):List Int);replace H:(if 0 < (y352.length:Int) then (impl_completions.l0 k l0 (wrap64 (a1 - (l0.length:Int))) (y352.set (0:Int).toNat 1) a1 0) else (none)) = some r:=rl_ hy352 H;have Ny352:=am_ hy352;clear hy352;revert H;refine it_ fun c6 H=>?_;have c6b0:=decide_eq_true c6;have c6b1:decide (0 < y352.length) = true:=decide_eq_true (by omega);clear c6;obtain ⟨y355,hy355⟩:=gn_ ((y352.set (0:Int).toNat 1):List Int);replace H:(impl_completions.l0 k l0 (wrap64 (a1 - (l0.length:Int))) y355 a1 0) = some r:=rl_ hy355 H;have Ny355:=am_ hy355;clear hy355;have H':=am_ H;clear H;go_enter Tryz.func104,Tryz.ntmps104;go_wp2_with (first | ((with_reducible refine gd_ 19 ?_);refine Kd.R_make (Kd.int .i64) _ 3 rfl (N:=19) rfl 22 _ _ rfl ji3 rfl rfl Tryz.underlying22 (.int .i64 0) 8 info3 rfl (by decide) (by omega) 0 (ok:=fun _=>True) (okp:=fun _=>True) rfl (fun _ hk=>hk) trivial (of_decide_eq_true qe84_) (Nat.le_trans (Nat.mul_le_mul_right _ (of_decide_eq_true qe84_:ji3.toNat<=35184372088832)) (by omega)) (Below.refl _ _) (Nat.le_refl _) ?_;intro v353 w8 ho9 hb hg_ hnew_;clear hg_ hnew_;(first | rw [<- Ny352.out] at ho9 | (simp only [Int.reduceToNat] at ho9;rw [<- Ny352.out] at ho9));have HO354:=am_ (Kd.R_lower ho9 (below_size q0c4_));replace HB:=am_ (below_step q0c4_ hb);clear hb ho9;have p7:0<=(0:Int):=(by omega);have q7:(0:Int) < ((y352.length:Int):Int):=of_decide_eq_true qe84_;have qi7:(0 < y352.length) = True:=eq_true (by omega);obtain ⟨go7,co7,eo7,gb7,gl7,cl7,HG7⟩:=Kd.R_form HO354.out (by omega);(first | cases eo7 | (injection eo7 with ea_ en_ ec_;(first | subst ea_ | (injection ea_ with ea_;subst ea_));subst ec_;clear en_));have GB7:=am_ gb7;have GG7:=am_ HG7;clear gb7 gl7 HG7;obtain ⟨hx7_0,hf7_0⟩:=Kd.R_celln 0 HO354.out (0:Int) p7 q7;(try rw [show ((0:Int)).toNat = 0 from rfl] at hx7_0);(try simp only [Nat.reduceMul,Nat.zero_mul,Nat.zero_add,Nat.reduceAdd] at hx7_0);(try rw [show ((0:Int)).toNat = 0 from rfl] at hf7_0);(try simp only [Nat.reduceMul,Nat.zero_mul,Nat.zero_add,Nat.reduceAdd] at hf7_0);replace p7:=eq_true p7;replace q7:=eq_true q7;obtain ⟨hy10_,hz10_⟩:=Kd.R_celln 0 HO354.out (0:Int) (by omega) (of_decide_eq_true qe84_);(try simp only [Int.reduceToNat,Int.toNat_zero,Int.toNat_ofNat,Nat.reduceMul,Nat.zero_mul,Nat.zero_add] at hy10_ hz10_);(try rw [show ((0:Int)).toNat = 0 from rfl] at hy10_);(try rw [show ((0:Int)).toNat = 0 from rfl] at hz10_);have HP10:=Kd.R_putg HO354.out (0:Int) 1) | ((with_reducible refine gate_store (t:=3) (p:=21) rfl ?_);refine store_event (t:=3) (p:=21) (v:=?vo_w11) (w1:=(w8.setCell ⟨go7,(0:Int).toNat,none⟩ (.int .i64 1))) ?hg ?ho ?hn ?hr ?_;(case ho=>rfl);(case hg=>rfl);(case hn=>rfl);(case hr=>exact qfba_);intro w11 hw;have hg:w8.grownBy w11 (some go7):=(by rw [hw];exact HP10.2);have hp_:Kd.R (Kd.int .i64) 3 w11 w.heap.size (fun _=>True) (.slice (some ⟨go7,0,none⟩) y352.length co7) y355:=(by rw [hw,Ny355.out];exact HP10.1);clear HP10;replace HO354:=am_ (hp_);replace HB:=am_ ((by rw [hw];exact below_set (HB.out) GB7.out:Below w.heap.size w w11));clear hg hw hp_))
 go_loopg [6,23] k (fun kq v6 v23 w'=>∃ (x6_1:List Int) (x23_1:Int),v23 = .int .i64 x23_1/\Aside0 (impl_completions.l0 kq l0 (wrap64 (a1 - (l0.length:Int))) x6_1 a1 x23_1 = some r)/\Aside0 (kq<=k)/\Aside0 (Kd.R (Kd.int .i64) 3 w' w.heap.size (fun _=>True) v6 x6_1)/\Aside0 (Below w.heap.size w w'))
 case atStart=>exact ⟨(y355),(0),qc8f_,H',⟨Nat.le_refl _⟩,⟨q9d5_ HO354.out⟩,⟨q0c4_⟩⟩
 case round =>
  clear H';obtain ⟨x6_1,x23_1,rfl,HA,HK1,HO_6,HB⟩:=hrel;cases gk with
  | zero=>exact n0_ HA.out
  | succ k1 =>
   have H:=HA.out;clear HA;simp only [impl_completions.l0] at H;revert H;refine ie_ (fun c12b0 H=>?_) fun c12b0 H=>?_
   ·
    obtain ⟨t358,A13,H⟩:=ob_ H;replace H:(if 0<=(ji3) then (if (ji3:Int).toNat<=35184372088832 then (impl_completions.l1 k1 l0 (wrap64 (a1 - (l0.length:Int))) t358 (List.replicate (ji3:Int).toNat 0) a1 x23_1 x6_1 (x6_1.length:Int) 0 x23_1) else (none)) else (none)) = some r:=q680_
    (try rw [hji3] at A13)
    revert H;refine i2_ fun c14b0 c14b1 H=>?_;revert H;refine i2_ fun c15b0 c15b1 H=>?_;obtain ⟨y359,hy359⟩:=gn_ ((List.replicate (ji3:Int).toNat 0):List Int);replace H:(impl_completions.l1 k1 l0 (wrap64 (a1 - (l0.length:Int))) t358 y359 a1 x23_1 x6_1 (x6_1.length:Int) 0 x23_1) = some r:=rl_ hy359 H;have Ny359:=am_ hy359;clear hy359;have H':=am_ H;clear H
    try go_wp2_with (first | ((with_reducible refine gd_ 7 ?_);refine bx_ #[.int .i64 0] 3 ?_;intro gb357 hg w16 hbox hb;replace HO_6:=am_ (Kd.R_below (Kd.R_elderB (q9d5_ HO_6.out) gb357 (Nat.le_of_eq hg.symm)) hb);have BK357:=am_ (hbox);have GW357:=am_ ((by rw [hg];exact (below_size q0c4_):w.heap.size<=gb357));have GE357:=am_ ((by rw [hg];exact (below_size q0c4_):w.heap.size<=gb357));replace HB:=am_ (below_step q0c4_ hb);clear hb hbox hg;have hcz17_0:w16.cell? ⟨gb357,0,none⟩ = some (.int .i64 0):=(blk_cell BK357.out 0).trans rfl;have hfz17_0:=blk_frozen BK357.out 0))
    have n0_:Aside0 (Kd.R (Kd.int .i64) 3 (w16.setCell ⟨gb357,0,none⟩ (.int .i64 x23_1)) w.heap.size (fun k_=>k_ ≠ gb357) u6 x6_1):=⟨by (with_reducible repeat (first | apply Kd.R_alloc | apply Kd.R_drewN | apply Kd.R_drew));exact Kd.R_mono (Kd.R_far (p:=⟨gb357,0,none⟩) (Kd.R_mono HO_6.out (fun k_ hk=>(⟨hk,hk.2⟩:_/\k_ ≠ gb357))) (fun _ hk=>hk.2) (.int .i64 x23_1)) (fun _ hk=>hk.1.2)⟩;have n1_:Aside0 ((w16.setCell ⟨gb357,0,none⟩ (.int .i64 x23_1)).heap[gb357]? = some (.cells #[.int .i64 x23_1] 3 (0,0))):=⟨by (with_reducible repeat (first | refine blk_drewN ?_ _ | refine blk_drew ?_ | refine blk_alloc ?_ _));refine blk_put (cs:=#[.int .i64 0]) ?_ 0 _ rfl;(with_reducible repeat (first | refine blk_drewN ?_ _ | refine blk_drew ?_ | refine blk_alloc ?_ _));exact BK357.out⟩;have n2_:Aside0 (Below w.heap.size w (w16.setCell ⟨gb357,0,none⟩ (.int .i64 x23_1))):=⟨qfcd_ GE357.out⟩
    (try clear HO_6)
    (try clear BK357)
    (try clear HB)
    generalize (w16.setCell ⟨gb357,0,none⟩ (.int .i64 x23_1)) = w18 at n0_ n1_ n2_ ⊢;have HO_6:=n0_;have BK357:=n1_;have HB:=n2_;clear n0_ n1_ n2_;have n0_:=am_ (Kd.R_drew HO_6.out);have n1_:=am_ (blk_drew BK357.out);have n2_:=am_ (below_drew1 HB.out);clear HO_6 BK357 HB;have HO_6:=n0_;have BK357:=n1_;have HB:=n2_;clear n0_ n1_ n2_;refine start_ (n:=8) (S:=fun w'=>True) (ds:=[]) (mk_ 8 0) (by kernel_rfl) rfl (by kernel_rfl) trivial (fun hHeld=>?_);refine with_tabW impl_completions.tab7 impl_completions.bits7 (fun HT_ HW_=>?_)
    generalize w18.drew = w19 at HO_6 BK357 HB hHeld ⊢;refine pu_ 0 26 8 1 ?_;refine pu_ 1 27 8 3 ?_;refine pu_ 3 29 8 11 ?_;refine pu_ 4 30 8 27 ?_;refine join_ (σ:=Value) 1 #[true,true,true,true,true,true,true,false] (fun s_=>[(28,.int .i64 t358),(31,s_),(8,.int .i64 t358)]) (fun s_ w'=>(Kd.R (Kd.int .i64) 3 w' w.heap.size (fun k_=>some k_ ≠ (u6:Value).ownBlock/\k_ ≠ gb357) s_ y359)/\(Kd.R (Kd.int .i64) 3 w' w.heap.size (fun k_=>some k_ ≠ (s_:Value).ownBlock/\k_ ≠ gb357) u6 x6_1)/\(w'.heap[gb357]? = some (.cells #[.int .i64 x23_1] 3 (0,0)))/\(Below w.heap.size w w')) ?_ ?_;rotate_left
    ·
     intro hCont;refine two_ (i:=2) (j:=5) (Ni:=some 28) (Nj:=some 31) #[true,true,true,true,true,false,false,false] #[true,true,false,true,true,true,false,false] rfl rfl rfl rfl (two_of HT_.out (by kernel_rfl)) (by decide) (by decide) (fun K hK=>?_) (fun K hK=>?_)
     ·
      skip
      refine goes_ Tryz.func172 (by kernel_rfl) rfl #[.slice A0 l0.length c0,.func (.func 173) #[] #[.pointer (some ⟨gb357,0,none⟩)]] (by rfl) rfl rfl qef5_ ?_
      with_reducible refine (countIf_compl.calls _ _ l0 gb357 x23_1 t358 _ ?s1 ?s2 ?s3 A13.out).mono ?_
      (case s1=>exact qe02_ HR0.out)
      (case s2=>exact HC0.out)
      (case s3=>exact q66c_ BK357.out)
      rintro e w' ⟨rfl,⟨nd,rfl⟩⟩;refine ⟨_,rfl,?_⟩;refine hK.out _ _ trivial (fun hHeld=>?_);clear hK K;refine nm_ ?_;refine pu_ 6 8 8 95 ?_;refine on_ 5 (some 31) 8 127 fun K hK=>?_;refine Kd.R_make_step (Kd.int .i64) _ 3 (by rfl) (N:=31) rfl 22 _ _ rfl ji3 rfl rfl Tryz.underlying22 (.int .i64 0) 8 info3 rfl (by decide) (by omega) 0 (ok:=fun _=>True) (okp:=fun _=>True) rfl (fun _ hk=>hk) trivial (of_decide_eq_true qe84_) (Nat.le_trans (Nat.mul_le_mul_right _ (of_decide_eq_true qe84_:ji3.toNat<=35184372088832)) (by omega)) (Below.refl _ _) (Nat.le_refl _) ?_;intro v360 w20 ho21 hb hg_ hnew_;clear hg_ hnew_
      (first | rw [<- Ny359.out] at ho21 | (simp only [Int.reduceToNat] at ho21;rw [<- Ny359.out] at ho21))
      have n0_:=am_ (Kd.R_elder' (q9d5_ HO_6.out) (Kd.R_base ho21) hb);have n1_:=am_ (Kd.R_lower (Kd.R_newB (Kd.R_new' ho21 (Kd.R_lt (q9d5_ HO_6.out))) (g:=gb357) (o:=.cells #[.int .i64 x23_1] 3 (0,0)) (q66c_ BK357.out)) (below_size (qfcd_ GE357.out)));have n2_:=am_ (blk_below (g:=gb357) (o:=.cells #[.int .i64 x23_1] 3 (0,0)) (q66c_ BK357.out) hb);have n3_:=am_ (below_step (qfcd_ GE357.out) hb);clear HO_6 BK357 HB;have HO_6:=n0_;have HO361:=n1_;have BK357:=n2_;have HB:=n3_;clear n0_ n1_ n2_ n3_ hb ho21;refine hK.out _ _ trivial (fun hHeld=>?_);clear hK K;refine nm_ ?_;exact norm_ q472_ (hCont (v360) _ ⟨(q600_ HO361.out),(q810_ HO_6.out),(q66c_ BK357.out),(qfcd_ GE357.out)⟩)
     ·
      skip
      refine Kd.R_make_step (Kd.int .i64) _ 3 (by rfl) (N:=31) rfl 22 _ _ rfl ji3 rfl rfl Tryz.underlying22 (.int .i64 0) 8 info3 rfl (by decide) (by omega) 0 (ok:=fun _=>True) (okp:=fun _=>True) rfl (fun _ hk=>hk) trivial (of_decide_eq_true qe84_) (Nat.le_trans (Nat.mul_le_mul_right _ (of_decide_eq_true qe84_:ji3.toNat<=35184372088832)) (by omega)) (Below.refl _ _) (Nat.le_refl _) ?_;intro v360 w20 ho21 hb hg_ hnew_;clear hg_ hnew_
      (first | rw [<- Ny359.out] at ho21 | (simp only [Int.reduceToNat] at ho21;rw [<- Ny359.out] at ho21))
      have n0_:=am_ (Kd.R_elder' (q9d5_ HO_6.out) (Kd.R_base ho21) hb);have n1_:=am_ (Kd.R_lower (Kd.R_newB (Kd.R_new' ho21 (Kd.R_lt (q9d5_ HO_6.out))) (g:=gb357) (o:=.cells #[.int .i64 x23_1] 3 (0,0)) (q66c_ BK357.out)) (below_size (qfcd_ GE357.out)));have n2_:=am_ (blk_below (g:=gb357) (o:=.cells #[.int .i64 x23_1] 3 (0,0)) (q66c_ BK357.out) hb);have n3_:=am_ (below_step (qfcd_ GE357.out) hb);clear HO_6 BK357 HB;have HO_6:=n0_;have HO361:=n1_;have BK357:=n2_;have HB:=n3_;clear n0_ n1_ n2_ n3_ hb ho21;refine hK.out _ _ trivial (fun hHeld=>?_);clear hK K;refine nm_ ?_;refine on_ 2 (some 28) 8 63 fun K hK=>?_;refine goes_ Tryz.func172 (by kernel_rfl) rfl #[.slice A0 l0.length c0,.func (.func 173) #[] #[.pointer (some ⟨gb357,0,none⟩)]] (by rfl) rfl rfl qef5_ ?_
      with_reducible refine (countIf_compl.calls _ _ l0 gb357 x23_1 t358 _ ?s1 ?s2 ?s3 A13.out).mono ?_
      (case s1=>exact qe02_ HR0.out)
      (case s2=>exact HC0.out)
      (case s3=>exact q66c_ BK357.out)
      rintro e w' ⟨rfl,⟨nd,rfl⟩⟩;refine ⟨_,rfl,?_⟩;refine hK.out _ _ trivial (fun hHeld=>?_);clear hK K;refine nm_ ?_;refine pu_ 6 8 8 127 ?_;exact norm_ q472_ (hCont (v360) _ ⟨(q600_ HO361.out),(q810_ HO_6.out),(q66c_ BK357.out),(qfcd_ GE357.out)⟩)
    rintro v360 w22 ⟨h0_,h1_,h2_,h3_⟩;have n0_:Aside0 (Kd.R (Kd.int .i64) 3 w22 w.heap.size (fun k_=>some k_ ≠ (u6:Value).ownBlock/\k_ ≠ gb357) v360 y359):=⟨h0_⟩;have n1_:Aside0 (Kd.R (Kd.int .i64) 3 w22 w.heap.size (fun k_=>some k_ ≠ (v360:Value).ownBlock/\k_ ≠ gb357) u6 x6_1):=⟨h1_⟩;have n2_:Aside0 (w22.heap[gb357]? = some (.cells #[.int .i64 x23_1] 3 (0,0))):=⟨h2_⟩;have n3_:Aside0 (Below w.heap.size w w22):=⟨h3_⟩;clear HO_6 BK357 HB h0_ h1_ h2_ h3_;have HO361:=n0_;have HO_6:=n1_;have BK357:=n2_;have HB:=n3_;clear n0_ n1_ n2_ n3_;have hHeld:=trivial;refine norm_ (a':=?_) ?_ ?_;rotate_left
    ·
     simp only [putAll,Act.put,List.setIfInBounds_toArray,List.set_cons_zero,List.set_cons_succ];rfl
    refine pu_ 7 9 8 255 ?_;refine done_ (done_of HT_.out (by kernel_rfl)) ?_;obtain ⟨Ao23,co23,eo23⟩:=Kd.R_slice HO_6.out;subst eo23
    try go_wp2
    go_loopg [34] k1 (fun kq v34 w'=>∃ (x9_2:List Int) (x34_2:Int),v34 = .int .i64 x34_2/\Aside0 (impl_completions.l1 kq l0 (wrap64 (a1 - (l0.length:Int))) t358 x9_2 a1 x23_1 x6_1 (x6_1.length:Int) x34_2 x23_1 = some r)/\Aside0 (kq<=k1)/\Aside0 (Kd.R (Kd.int .i64) 3 w' w.heap.size (fun k_=>some k_ ≠ ((.slice Ao23 x6_1.length co23):Value).ownBlock/\k_ ≠ gb357) v360 x9_2)/\Aside0 (Kd.R (Kd.int .i64) 3 w' w.heap.size (fun k_=>some k_ ≠ (v360:Value).ownBlock/\k_ ≠ gb357) (.slice Ao23 x6_1.length co23) x6_1)/\Aside0 (w'.heap[gb357]? = some (.cells #[.int .i64 x23_1] 3 (0,0)))/\Aside0 (Below w.heap.size w w'))
    case atStart=>exact ⟨(y359),(0),qc8f_,H',⟨Nat.le_refl _⟩,⟨q9d5_ HO361.out⟩,⟨q9d5_ HO_6.out⟩,⟨q66c_ BK357.out⟩,⟨qfcd_ GE357.out⟩⟩
    case round =>
     clear H';obtain ⟨x9_2,x34_2,rfl,HA,HK2,HO_9,HO_32,BK357,HB⟩:=hrel;cases gk with
     | zero=>exact n0_ HA.out
     | succ k2 =>
      have H:=HA.out;clear HA;simp only [impl_completions.l1] at H;revert H;refine ie_ (fun c24b0 H=>?_) fun c24b0 H=>?_
      ·
       revert H;refine id_ fun c25b0 H=>?_;revert H;refine id_ fun c26b0 H=>?_;have H':=am_ H;clear H;obtain ⟨ad362,rfl,hx362_0,p362,q362⟩:=ri_ (rr_ HO_32.out) x34_2;go_wp2
       go_loopg [12] k2 (fun kq v12 w'=>∃ (x9_3:List Int) (x12_3:Int),v12 = .int .i64 x12_3/\Aside0 (impl_completions.l2 kq l0 (wrap64 (a1 - (l0.length:Int))) t358 x9_3 x34_2 (rd x6_1 x34_2) x12_3 a1 x23_1 x6_1 (x6_1.length:Int) x34_2 x23_1 = some r)/\Aside0 (kq<=k2)/\Aside0 (Kd.R (Kd.int .i64) 3 w' w.heap.size (fun k_=>some k_ ≠ ((.slice (some ad362) x6_1.length co23):Value).ownBlock/\k_ ≠ gb357) v360 x9_3)/\Aside0 (Kd.R (Kd.int .i64) 3 w' w.heap.size (fun k_=>some k_ ≠ (v360:Value).ownBlock/\k_ ≠ gb357) (.slice (some ad362) x6_1.length co23) x6_1)/\Aside0 (w'.heap[gb357]? = some (.cells #[.int .i64 x23_1] 3 (0,0)))/\Aside0 (Below w.heap.size w w'))
       case atStart=>exact ⟨(x9_2),(0),qc8f_,H',⟨Nat.le_refl _⟩,⟨q9d5_ HO_9.out⟩,⟨q9d5_ HO_32.out⟩,⟨q66c_ BK357.out⟩,⟨qfcd_ GE357.out⟩⟩
       case round =>
        clear H';obtain ⟨x9_3,x12_3,rfl,HA,HK3,HO_9,HO_32,BK357,HB⟩:=hrel;cases gk with
        | zero=>exact n0_ HA.out
        | succ k3 =>
         have H:=HA.out;clear HA;simp only [impl_completions.l2] at H;revert H;refine ie_ (fun c27b0 H=>?_) fun c27b0 H=>?_
         ·
          revert H;refine ie_ (fun c28b0 H=>?_) fun c28b0 H=>?_
          ·
           obtain ⟨ji29,hji29⟩:∃ j_:Int,(wrap64 (x34_2 + x12_3)) = j_:=⟨_,rfl⟩;replace H:(if 0<=(ji29) then (if (ji29) < (x9_3.length:Int) then ((impl_choose.f k3 (wrap64 ((wrap64 (a1 - (l0.length:Int))) - x34_2)) x12_3).bind fun t364=>(impl_completions.l2 k3 l0 (wrap64 (a1 - (l0.length:Int))) t358 (x9_3.set ((ji29):Int).toNat (wrap64 ((rd x9_3 (ji29)) + (wrap64 ((rd x6_1 x34_2) * t364))))) x34_2 (rd x6_1 x34_2) (wrap64 (x12_3 + 1)) a1 x23_1 x6_1 (x6_1.length:Int) x34_2 x23_1)) else (none)) else (none)) = some r:=by first | (rw [hji29] at H;exact H) | (simp only [hji29] at H ⊢;exact H)
           (try rw [hji29] at c27b0)
           have hji29w:(IntKind.i64.wrap (x34_2 + x12_3)) = ji29:=(i64_w _).trans hji29;revert H;refine id_ fun c30b0 H=>?_;revert H;refine id_ fun c31b0 H=>?_;obtain ⟨t364,A32,H⟩:=ob_ H;obtain ⟨y365,hy365⟩:=gn_ ((x9_3.set ((ji29):Int).toNat (wrap64 ((rd x9_3 (ji29)) + (wrap64 ((rd x6_1 x34_2) * t364))))):List Int);replace H:(impl_completions.l2 k3 l0 (wrap64 (a1 - (l0.length:Int))) t358 y365 x34_2 (rd x6_1 x34_2) (wrap64 (x12_3 + 1)) a1 x23_1 x6_1 (x6_1.length:Int) x34_2 x23_1) = some r:=rl_ hy365 H;have Ny365:=am_ hy365;clear hy365;have H':=am_ H;clear H;have hcz34_0:wr.cell? ⟨gb357,0,none⟩ = some (.int .i64 x23_1):=(blk_cell BK357.out 0).trans rfl;have hfz34_0:=blk_frozen BK357.out 0
           try go_wp2
           have n0_:=am_ (Kd.R_drew HO_9.out);have n1_:=am_ (Kd.R_drew HO_32.out);have n2_:=am_ (blk_drew BK357.out);have n3_:=am_ (below_drew1 HB.out);clear HO_9 HO_32 BK357 HB;have HO_9:=n0_;have HO_32:=n1_;have BK357:=n2_;have HB:=n3_;clear n0_ n1_ n2_ n3_;obtain ⟨Ao36,co36,eo36⟩:=Kd.R_slice HO_9.out
           (first | subst eo36 | (injection eo36 with f1_ f2_ f3_;have f4_:=f1_.symm;have f5_:=f3_.symm;clear f1_ f2_ f3_;subst f4_;subst f5_))
           obtain ⟨ad363,rfl,hx363_0,p363,q363⟩:=ri_ (rr_ HO_9.out) (ji29);refine start_ (n:=16) (S:=fun w'=>w'.cell? (ad363.add ((ji29)).toNat) = some (.int .i64 (rd x9_3 (ji29)))) (ds:=[15]) (mk_ 16 0) (by kernel_rfl) rfl (by kernel_rfl) (hx363_0) (fun hHeld=>?_);refine with_tabW impl_completions.tab15 impl_completions.bits15 (fun HT_ HW_=>?_)
           generalize wr.drew = w35 at HO_9 HO_32 BK357 HB hx363_0 hHeld ⊢;refine pu_ 0 53 16 1 ?_;refine pu_ 1 54 16 3 ?_;refine pu_ 2 55 16 7 ?_;refine pu_ 3 56 16 15 ?_;refine pu_ 4 57 16 31 ?_;refine pu_ 6 59 16 95 ?_;refine pu_ 7 60 16 223 ?_;refine pu_ 8 61 16 479 ?_;refine pu_ 9 62 16 991 ?_;refine pu_ 10 63 16 2015 ?_;refine tk_ 5 58 16 2047 ?_;refine on_ 11 (some 64) 16 4095 fun K hK=>?_;refine goes_ Tryz.func174 (by kernel_rfl) rfl #[.int .i64 (wrap64 ((wrap64 (a1 - (l0.length:Int))) - x34_2)),.int .i64 x12_3] (by rfl) rfl rfl qef5_ ?_
           with_reducible refine (impl_choose.calls k3 (wrap64 ((wrap64 (a1 - (l0.length:Int))) - x34_2)) x12_3 t364 _ A32.out).mono ?_
           rintro e w' ⟨rfl,⟨nd,rfl⟩⟩;refine ⟨_,rfl,?_⟩;have p33:0<=((ji29):Int):=of_decide_eq_true qe84_;have q33:((ji29):Int) < ((x9_3.length:Int):Int):=of_decide_eq_true qe84_;obtain ⟨go33,co33,eo33,gb33,gl33,cl33,HG33⟩:=Kd.R_form HO_9.out (by omega)
           (first | cases eo33 | (injection eo33 with ea_ en_ ec_;(first | subst ea_ | (injection ea_ with ea_;subst ea_));subst ec_;clear en_))
           have GB33:=am_ gb33;have GG33:=am_ HG33;clear gb33 gl33 HG33
           (first | simp only [add_plain] at hx363_0 | skip)
           obtain ⟨hx33_0,hf33_0⟩:=Kd.R_celln 0 HO_9.out ((ji29):Int) p33 q33;replace p33:=eq_true p33;replace q33:=eq_true q33;have HP37:=Kd.R_putn HO_9.out ((ji29):Int) (wrap64 ((rd x9_3 (ji29)) + (wrap64 ((rd x6_1 x34_2) * t364))));rw [<- Ny365.out] at HP37;have HQ37:=am_ HP37;clear HP37;refine hK.out _ _ (hHeld) (fun hHeld=>?_);clear hK K;refine nm_ ?_;refine pu_ 12 65 16 8191 ?_;refine pu_ 13 66 16 16383 ?_;refine pu_ 14 67 16 32767 ?_;refine la_ 15 none 16 65535 fun K hK=>?_;refine skip_ (w1:=?_) (by rfl) rfl ?_ ?_;rotate_left
           ·
            go_simp;rfl
           refine hK.out _ _ ?_;clear hK K;refine done_ (done_of HT_.out (by kernel_rfl)) ?_
           try go_wp2
           go_roundg k3
           case measure=>have:=HK1.out;have:=HK2.out;have:=HK3.out;omega
           case rel=>exact ⟨(y365),(wrap64 (x12_3 + 1)),qc8f_,H',⟨q0e9_ HK1.out HK2.out HK3.out⟩,⟨q9d5_ HQ37.out⟩,⟨by (with_reducible repeat (first | apply Kd.R_alloc | apply Kd.R_drewN | apply Kd.R_drew));exact Kd.R_mono (Kd.R_far (p:=⟨go33,((ji29):Int).toNat,none⟩) (Kd.R_mono HO_32.out (fun k_ hk=>(⟨hk,fun e_=>hk.1 (by rw [e_];rfl)⟩:_/\k_ ≠ go33))) (fun _ hk=>hk.2) (.int .i64 (wrap64 ((rd x9_3 (ji29)) + (wrap64 ((rd x6_1 x34_2) * t364)))))) (fun _ hk=>⟨hk.1.1,hk.1.2⟩)⟩,⟨by (with_reducible repeat (first | refine blk_drewN ?_ _ | refine blk_drew ?_ | refine blk_alloc ?_ _));refine blk_far ?_ (by have h_:=Kd.R_away HO_9.out (fun _ hk=>hk.2);intro e_;exact h_ (by rw [e_];rfl)) _;(with_reducible repeat (first | refine blk_drewN ?_ _ | refine blk_drew ?_ | refine blk_alloc ?_ _));exact BK357.out⟩,⟨qa3a_ GB33.out GE357.out⟩⟩
          have H':=am_ H;clear H;have hcz38_0:wr.cell? ⟨gb357,0,none⟩ = some (.int .i64 x23_1):=(blk_cell BK357.out 0).trans rfl;have hfz38_0:=blk_frozen BK357.out 0;go_wp2;go_roundg k3
          case measure=>have:=HK1.out;have:=HK2.out;have:=HK3.out;omega
          case rel=>exact ⟨(x9_3),(wrap64 (x12_3 + 1)),qc8f_,H',⟨q0e9_ HK1.out HK2.out HK3.out⟩,⟨q9d5_ HO_9.out⟩,⟨q9d5_ HO_32.out⟩,⟨q66c_ BK357.out⟩,⟨qfcd_ GE357.out⟩⟩
         have H':=am_ H;clear H;go_wp2;go_roundg k3
         case measure=>have:=HK1.out;have:=HK2.out;have:=HK3.out;omega
         case rel=>exact ⟨(x9_3),(wrap64 (x34_2 + 1)),qc8f_,H',⟨q0e9_ HK1.out HK2.out HK3.out⟩,⟨q9d5_ HO_9.out⟩,⟨q9d5_ HO_32.out⟩,⟨q66c_ BK357.out⟩,⟨qfcd_ GE357.out⟩⟩
      have H':=am_ H;clear H;go_wp2;go_roundg k2
      case measure=>have:=HK1.out;have:=HK2.out;omega
      case rel=>exact ⟨(x9_2),(wrap64 (x23_1 + 1)),qc8f_,H',⟨q37b_ HK1.out HK2.out⟩,⟨q7d9_ HO_9.out⟩,⟨qfcd_ GE357.out⟩⟩
   obtain ⟨ji39,hji39⟩:∃ j_:Int,(wrap64 (a1 - (l0.length:Int))) = j_:=⟨_,rfl⟩;replace H:(if 0<=(ji39) then (if (ji39) < (x6_1.length:Int) then (some (rd x6_1 (ji39))) else (none)) else (none)) = some r:=by first | (rw [hji39] at H;exact H) | (simp only [hji39] at H ⊢;exact H)
   have hji39w:(IntKind.i64.wrap (a1 - (l0.length:Int))) = ji39:=(i64_w _).trans hji39;revert H;refine id_ fun c40b0 H=>?_;revert H;refine id_ fun c41b0 H=>?_;obtain rfl:=Option.some.inj H;obtain ⟨Ao42,co42,eo42⟩:=Kd.R_slice HO_6.out;subst eo42;obtain ⟨ad356,rfl,hx356_0,p356,q356⟩:=ri_ (rr_ HO_6.out) (ji39);go_wp2;go_ret;exact ⟨by first | rfl | (simp [errW_none,errW_some] <;> rfl) | (simp only [<- hji3,<- hji39];first | rfl | (simp [errW_none,errW_some] <;> rfl)) | (simp [*,errW_none,errW_some] <;> rfl),q0c4_⟩
mutual
def impl_parkingAt.l0:Nat->Int->Int->List Int->Option (List Int)
 | 0,_,_,_=>none
 | k + 1,x0,x1,x5=>if (x5.length:Int) < x0 then (impl_parkingAt.l1 k x0 x1 x5 0) else (some x5)
def impl_parkingAt.l1:Nat->Int->Int->List Int->Int->Option (List Int)
 | 0,_,_,_,_=>none
 | k + 1,x0,x1,x5,x6=>(slices_Clone_int_int.f x5).bind fun t369=>(if t369.length < 17592186044416 then ((impl_completions.f k (t369 ++ [x6]) x0).bind fun t375=>(if x1 < t375 then (if x5.length < 17592186044416 then (impl_parkingAt.l0 k x0 x1 (x5 ++ [x6])) else (none)) else (impl_parkingAt.l1 k x0 (wrap64 (x1 - t375)) x5 (wrap64 (x6 + 1))))) else (none))
end
def impl_parkingAt.f (k:Nat) (a0:Int) (a1:Int):Option (List Int):=impl_parkingAt.l0 k a0 a1 (([]:List Int))
theorem impl_parkingAt.calls (k:Nat) (a0:Int) (a1:Int) (r:List Int) (w:World) (h:impl_parkingAt.f k a0 a1 = some r) :
  Calls Tryz.prog 103 #[.int .i64 a0,.int .i64 a1] w fun e w'=>∃ v0_:Value,e = .returned (v0_)/\Kd.R (Kd.int .i64) 3 w' w.heap.size (fun _=>True) v0_ r/\Below w.heap.size w w':=by
 have HB:=am_ (Below.refl w.heap.size w);unfold impl_parkingAt.f at h;have H:=h;clear h;obtain ⟨y366,hy366⟩:=gn_ ((([]:List Int)):List Int);replace H:(impl_parkingAt.l0 k a0 a1 y366) = some r:=rl_ hy366 H;have Ny366:=am_ hy366;clear hy366;have H':=am_ H;clear H;go_enter Tryz.func103,Tryz.ntmps103;go_wp2_with (first | ((with_reducible refine gd_ 8 ?_);refine Kd.R_lit (Kd.int .i64) _ 3 ?hg (N:=8) ?hd (xs:=([]:List Int)) (inner:=[]) (ok:=fun _=>True) (okp:=fun _=>True) ?hr ?hp (fun _ hk=>hk) trivial (Below.refl _ _) (Nat.le_refl _) (by simp) ?_;(case hd=>rfl);(case hg=>rfl);(case hr=>exact qfba_);(case hp=>exact (Reps.none _ _));intro v367 w3 ho4 hb hg_ hnew_;clear hg_ hnew_;(first | rw [<- Ny366.out] at ho4 | (simp only [Int.reduceToNat] at ho4;rw [<- Ny366.out] at ho4));have HO368:=am_ (Kd.R_lower ho4 (below_size q0c4_));replace HB:=am_ (below_step q0c4_ hb);clear hb ho4))
 go_loopg [1,5] k (fun kq v1 v5 w'=>∃ (x1_1:Int) (x5_1:List Int),v1 = .int .i64 x1_1/\Aside0 (impl_parkingAt.l0 kq a0 x1_1 x5_1 = some r)/\Aside0 (kq<=k)/\Aside0 (Kd.R (Kd.int .i64) 3 w' w.heap.size (fun _=>True) v5 x5_1)/\Aside0 (Below w.heap.size w w'))
 case atStart=>exact ⟨(a1),(y366),qc8f_,H',⟨Nat.le_refl _⟩,⟨q9d5_ HO368.out⟩,⟨q0c4_⟩⟩
 case round =>
  clear H';obtain ⟨x1_1,x5_1,rfl,HA,HK1,HO_5,HB⟩:=hrel;cases gk with
  | zero=>exact n0_ HA.out
  | succ k1 =>
   have H:=HA.out;clear HA;simp only [impl_parkingAt.l0] at H;revert H;refine ie_ (fun c5b0 H=>?_) fun c5b0 H=>?_
   ·
    have H':=am_ H;clear H;obtain ⟨Ao6,co6,eo6⟩:=Kd.R_slice HO_5.out;subst eo6;go_wp2
    go_loopg [1,6] k1 (fun kq v1 v6 w'=>∃ (x1_2:Int) (x6_2:Int),v1 = .int .i64 x1_2/\v6 = .int .i64 x6_2/\Aside0 (impl_parkingAt.l1 kq a0 x1_2 x5_1 x6_2 = some r)/\Aside0 (kq<=k1)/\Aside0 (Kd.R (Kd.int .i64) 3 w' w.heap.size (fun _=>True) (.slice Ao6 x5_1.length co6) x5_1)/\Aside0 (Below w.heap.size w w'))
    case atStart=>exact ⟨(x1_1),(0),qc8f_,qc8f_,H',⟨Nat.le_refl _⟩,⟨q9d5_ HO_5.out⟩,⟨q0c4_⟩⟩
    case round =>
     clear H';obtain ⟨x1_2,x6_2,rfl,rfl,HA,HK2,HO_5,HB⟩:=hrel;cases gk with
     | zero=>exact n0_ HA.out
     | succ k2 =>
      have H:=HA.out;clear HA;simp only [impl_parkingAt.l1] at H;obtain ⟨t369,A7,H⟩:=ob_ H;revert H;refine it_ fun c8 H=>?_;have LMc8:=am_ c8;clear c8;obtain ⟨y372,hy372⟩:=gn_ ((t369 ++ [x6_2]):List Int);replace H:((impl_completions.f k2 y372 a0).bind fun t375=>(if x1_2 < t375 then (if x5_1.length < 17592186044416 then (impl_parkingAt.l0 k2 a0 x1_2 (x5_1 ++ [x6_2])) else (none)) else (impl_parkingAt.l1 k2 a0 (wrap64 (x1_2 - t375)) x5_1 (wrap64 (x6_2 + 1))))) = some r:=rl_ hy372 H
      have Ny372:=am_ hy372;clear hy372;obtain ⟨t375,A9,H⟩:=ob_ H;revert H;refine ie_ (fun c10b0 H=>?_) fun c10b0 H=>?_
      ·
       revert H;refine it_ fun c11 H=>?_;have LMc11:=am_ c11;clear c11;obtain ⟨y376,hy376⟩:=gn_ ((x5_1 ++ [x6_2]):List Int);replace H:(impl_parkingAt.l0 k2 a0 x1_2 y376) = some r:=rl_ hy376 H;have Ny376:=am_ hy376;clear hy376;have H':=am_ H;clear H;go_wp2_with (first | ((with_reducible refine gc_ 53 ?_);refine gl_ 14 Tryz.func53 #[.slice Ao6 x5_1.length co6] ?_;(with_reducible refine (slices_Clone_int_int.calls _ _ x5_1 t369 _ ?s1 ?s2 A7.out).mono ?_);(case s1=>exact q5a8_ HO_5.out);(case s2=>exact (Kd.R_reads' HO_5.out).2.1);rintro e w12 ⟨v370,rfl,ho0,hb⟩;refine ⟨_,rfl,?_⟩;have HO371:=am_ (Kd.R_lower (Kd.R_new' ho0 (Kd.R_lt (q9d5_ HO_5.out))) (below_size q0c4_));replace HO_5:=am_ (Kd.R_elder' (q9d5_ HO_5.out) (Kd.R_base ho0) hb);replace HB:=am_ (below_step q0c4_ hb);clear hb ho0) | ((with_reducible refine gate_builtin (b:=.append) (xs:=#[.tmp 14,.tmp 16]) rfl ?_);at_builtin;refine aI_ (w0:=w) (.tmp 14) (.tmp 16) v370 t369 x6_2 (fun k_=>some k_ ≠ (.slice Ao6 x5_1.length co6:Value).ownBlock) (fun k_ hk=>Kd.fresh' (Kd.R_lt (q9d5_ HO_5.out)) k_ hk) (qe0f_ HO371.out) q0c4_ (by exact q1d0_ LMc8.out) ?_;intro v373 w13 ho hb hg hat;rw [<- Ny372.out] at ho;replace HO_5:=am_ (Kd.R_after (ok:=(fun _=>True)) (q9d5_ HO_5.out) hg hat);replace HB:=am_ (hb);have HO374:=am_ (ho);clear ho hb hg hat;obtain ⟨Ao14,co14,eo14⟩:=Kd.R_slice HO374.out;subst eo14) | ((with_reducible refine gc_ 104 ?_);refine gl_ 19 Tryz.func104 #[.slice Ao14 y372.length co14,.int .i64 a0] ?_;(with_reducible refine (impl_completions.calls k2 _ _ y372 a0 t375 _ ?s1 ?s2 A9.out).mono ?_);(case s1=>exact q5a8_ HO374.out);(case s2=>exact (Kd.R_reads' HO374.out).2.1);rintro e w15 ⟨rfl,hb⟩;refine ⟨_,rfl,?_⟩;replace HO_5:=am_ (Kd.R_below (q9d5_ HO_5.out) hb);replace HO374:=am_ (Kd.R_below (q9d5_ HO374.out) hb);replace HB:=am_ (below_step q0c4_ hb);clear hb) | ((with_reducible refine gate_builtin (b:=.append) (xs:=#[.tmp 28,.tmp 30]) rfl ?_);at_builtin;refine aI_ (w0:=w) (.tmp 28) (.tmp 30) (.slice Ao6 x5_1.length co6) x5_1 x6_2 (fun k_=>some k_ ≠ (.slice Ao14 y372.length co14:Value).ownBlock) (fun k_ hk=>Kd.fresh' (Kd.R_lt (q9d5_ HO374.out)) k_ hk) (qe0f_ HO_5.out) q0c4_ (by exact q1d0_ LMc11.out) ?_;intro v377 w16 ho hb hg hat;rw [<- Ny376.out] at ho;replace HO374:=am_ (Kd.R_after (ok:=(fun _=>True)) (q0ef_ HO374.out) hg hat);replace HB:=am_ (hb);have HO378:=am_ (ho);clear ho hb hg hat));go_roundg k2
       case measure=>have:=HK1.out;have:=HK2.out;omega
       case rel=>exact ⟨(x1_2),(y376),qc8f_,H',⟨q37b_ HK1.out HK2.out⟩,⟨q7d9_ HO378.out⟩,⟨q0c4_⟩⟩
      have H':=am_ H;clear H;go_wp2_with (first | ((with_reducible refine gc_ 53 ?_);refine gl_ 14 Tryz.func53 #[.slice Ao6 x5_1.length co6] ?_;(with_reducible refine (slices_Clone_int_int.calls _ _ x5_1 t369 _ ?s1 ?s2 A7.out).mono ?_);(case s1=>exact q5a8_ HO_5.out);(case s2=>exact (Kd.R_reads' HO_5.out).2.1);rintro e w17 ⟨v370,rfl,ho0,hb⟩;refine ⟨_,rfl,?_⟩;have HO371:=am_ (Kd.R_lower (Kd.R_new' ho0 (Kd.R_lt (q9d5_ HO_5.out))) (below_size q0c4_));replace HO_5:=am_ (Kd.R_elder' (q9d5_ HO_5.out) (Kd.R_base ho0) hb);replace HB:=am_ (below_step q0c4_ hb);clear hb ho0) | ((with_reducible refine gate_builtin (b:=.append) (xs:=#[.tmp 14,.tmp 16]) rfl ?_);at_builtin;refine aI_ (w0:=w) (.tmp 14) (.tmp 16) v370 t369 x6_2 (fun k_=>some k_ ≠ (.slice Ao6 x5_1.length co6:Value).ownBlock) (fun k_ hk=>Kd.fresh' (Kd.R_lt (q9d5_ HO_5.out)) k_ hk) (qe0f_ HO371.out) q0c4_ (by exact q1d0_ LMc8.out) ?_;intro v373 w18 ho hb hg hat;rw [<- Ny372.out] at ho;replace HO_5:=am_ (Kd.R_after (ok:=(fun _=>True)) (q9d5_ HO_5.out) hg hat);replace HB:=am_ (hb);have HO374:=am_ (ho);clear ho hb hg hat;obtain ⟨Ao19,co19,eo19⟩:=Kd.R_slice HO374.out;subst eo19) | ((with_reducible refine gc_ 104 ?_);refine gl_ 19 Tryz.func104 #[.slice Ao19 y372.length co19,.int .i64 a0] ?_;(with_reducible refine (impl_completions.calls k2 _ _ y372 a0 t375 _ ?s1 ?s2 A9.out).mono ?_);(case s1=>exact q5a8_ HO374.out);(case s2=>exact (Kd.R_reads' HO374.out).2.1);rintro e w20 ⟨rfl,hb⟩;refine ⟨_,rfl,?_⟩;replace HO_5:=am_ (Kd.R_below (q9d5_ HO_5.out) hb);replace HO374:=am_ (Kd.R_below (q9d5_ HO374.out) hb);replace HB:=am_ (below_step q0c4_ hb);clear hb));go_roundg k2
      case measure=>have:=HK1.out;have:=HK2.out;omega
      case rel=>exact ⟨(wrap64 (x1_2 - t375)),(wrap64 (x6_2 + 1)),qc8f_,qc8f_,H',⟨q37b_ HK1.out HK2.out⟩,⟨q7d9_ HO_5.out⟩,⟨q0c4_⟩⟩
   obtain rfl:=Option.some.inj H;obtain ⟨Ao21,co21,eo21⟩:=Kd.R_slice HO_5.out;subst eo21;go_wp2;go_ret;exact ⟨_,qce7_,q9d5_ HO_5.out,q0c4_⟩
def impl_ParkingAt.f (k:Nat) (a0:Int) (a1:Int):Option (List Int × Bool):=(impl_isCars.f a0).bind fun t379=>(if t379 = true then ((impl_countParking.f k a0).bind fun t380=>((impl_between.f a1 0 (wrap64 (t380 - 1))).bind fun t381=>(if t381 = true then ((impl_parkingAt.f k a0 a1).bind fun t382=>(some (t382,true))) else (some (([]:List Int),false))))) else (some (([]:List Int),false)))
theorem impl_ParkingAt.calls (k:Nat) (a0:Int) (a1:Int) (r1:List Int) (r2:Bool) (w:World) (h:impl_ParkingAt.f k a0 a1 = some (r1,r2)) :
  Calls Tryz.prog 63 #[.int .i64 a0,.int .i64 a1] w fun e w'=>∃ v0_:Value,e = .returned (.tuple #[v0_,.bool r2])/\Kd.R (Kd.int .i64) 3 w' w.heap.size (fun _=>True) v0_ r1/\Below w.heap.size w w':=by
 have HB:=am_ (Below.refl w.heap.size w);unfold impl_ParkingAt.f at h;have H:=h;clear h;obtain ⟨t379,A3,H⟩:=ob_ H;revert H;refine be_ (fun c4 H=>?_) fun c4 H=>?_
 ·
  subst c4;obtain ⟨t380,A5,H⟩:=ob_ H;obtain ⟨t381,A6,H⟩:=ob_ H;revert H;refine be_ (fun c7 H=>?_) fun c7 H=>?_
  ·
   subst c7;obtain ⟨t382,A8,H⟩:=ob_ H;obtain ⟨rfl,rfl⟩:=sp_ H;go_enter Tryz.func63,Tryz.ntmps63;go_wp2_with (first | ((with_reducible refine gc_ 100 ?_);refine gl_ 7 Tryz.func100 #[.int .i64 a0] ?_;(with_reducible refine (impl_isCars.calls a0 true _ A3.out).mono ?_);rintro e w' ⟨rfl,⟨nd,rfl⟩⟩;refine ⟨_,rfl,?_⟩) | (go_at_call 102;(with_reducible refine (impl_countParking.calls k a0 t380 _ A5.out).mono ?_);rintro e w9 ⟨rfl,hb⟩;replace HB:=am_ (below_step q0c4_ hb);clear hb) | (go_at_call 101;(with_reducible refine (impl_between.calls a1 0 (wrap64 (t380 - 1)) true _ A6.out).mono ?_);rintro e w' ⟨rfl,⟨nd,rfl⟩⟩) | ((with_reducible refine gc_ 103 ?_);refine gl_ 19 Tryz.func103 #[.int .i64 a0,.int .i64 a1] ?_;(with_reducible refine (impl_parkingAt.calls k a0 a1 t382 _ A8.out).mono ?_);rintro e w10 ⟨v383,rfl,ho0,hb⟩;refine ⟨_,rfl,?_⟩;have HO384:=am_ (Kd.R_lower ho0 (below_size q0c4_));replace HB:=am_ (below_step q0c4_ hb);clear hb ho0));go_ret2;exact ⟨_,qce7_,q9d5_ HO384.out,q0c4_⟩
  subst c7;obtain ⟨rfl,rfl⟩:=sp_ H;go_enter Tryz.func63,Tryz.ntmps63;go_wp2_with (first | ((with_reducible refine gc_ 100 ?_);refine gl_ 7 Tryz.func100 #[.int .i64 a0] ?_;(with_reducible refine (impl_isCars.calls a0 true _ A3.out).mono ?_);rintro e w' ⟨rfl,⟨nd,rfl⟩⟩;refine ⟨_,rfl,?_⟩) | (go_at_call 102;(with_reducible refine (impl_countParking.calls k a0 t380 _ A5.out).mono ?_);rintro e w11 ⟨rfl,hb⟩;replace HB:=am_ (below_step q0c4_ hb);clear hb) | (go_at_call 101;(with_reducible refine (impl_between.calls a1 0 (wrap64 (t380 - 1)) false _ A6.out).mono ?_);rintro e w' ⟨rfl,⟨nd,rfl⟩⟩));go_ret2;exact ⟨_,qce7_,qf62_,q0c4_⟩
 subst c4;obtain ⟨rfl,rfl⟩:=sp_ H;go_enter Tryz.func63,Tryz.ntmps63;go_wp2_with (first | ((with_reducible refine gc_ 100 ?_);refine gl_ 7 Tryz.func100 #[.int .i64 a0] ?_;(with_reducible refine (impl_isCars.calls a0 false _ A3.out).mono ?_);rintro e w' ⟨rfl,⟨nd,rfl⟩⟩;refine ⟨_,rfl,?_⟩));go_ret2;exact ⟨_,qce7_,qf62_,q0c4_⟩
def impl_areCars.f (l0:List Int):Option (Bool):=if (l0.length:Int)<=8 then ((impl_areBetween.f l0 0 99).bind fun t385=>(some t385)) else (some false)
theorem impl_areCars.calls (A0:Option Addr) (c0:Nat) (l0:List Int) (r:Bool) (w:World) (hr0:Kd.C (Kd.int .i64) w A0 l0.length l0) (hc0:l0.length<=c0) (h:impl_areCars.f l0 = some r) :
  Calls Tryz.prog 92 #[.slice A0 l0.length c0] w fun e w'=>e = .returned (.bool r)/\Below w.heap.size w w':=by
 have HR0:=am_ hr0;have HC0:=am_ hc0;clear hr0 hc0;have HB:=am_ (Below.refl w.heap.size w);unfold impl_areCars.f at h;have H:=h;clear h
 by_cases c2:(l0.length:Int)<=8
 ·
  rw [if_pos c2] at H;have c2b0:=decide_eq_true c2;have c2b1:decide (l0.length<=8) = true:=decide_eq_true (by omega);clear c2;obtain ⟨t385,A3,H⟩:=ob_ H;obtain rfl:=Option.some.inj H;go_enter Tryz.func92,Tryz.ntmps92;go_wp2_with (first | (go_at_call 95;(with_reducible refine (impl_areBetween.calls _ _ l0 0 99 t385 _ ?s1 ?s2 A3.out).mono ?_);(case s1=>exact q201_ HR0.out);(case s2=>exact HC0.out);rintro e w4 ⟨rfl,hb⟩;replace HB:=am_ (below_step q0c4_ hb);clear hb));go_ret;exact ⟨qce7_,q0c4_⟩
 rw [if_neg c2] at H;have c2b0:=decide_eq_false c2;have c2b1:decide (l0.length<=8) = false:=decide_eq_false (by omega);clear c2;obtain rfl:=Option.some.inj H;go_enter Tryz.func92,Tryz.ntmps92;go_wp2;go_ret;exact ⟨qce7_,q0c4_⟩
mutual
def impl_drive.l0:Nat->Int->List Bool->List Int->List Int->Int->Int->Option (List Int × Bool)
 | 0,_,_,_,_,_,_=>none
 | k + 1,x1,x6,x7,x13,x14,x15=>if x15 < x14 then (if 0<=x15 then (if x15 < (x13.length:Int) then (impl_drive.l1 k x1 x6 x7 (rd x13 x15) x13 x14 x15) else (none)) else (none)) else (some (x7,true))
def impl_drive.l1:Nat->Int->List Bool->List Int->Int->List Int->Int->Int->Option (List Int × Bool)
 | 0,_,_,_,_,_,_,_=>none
 | k + 1,x1,x6,x7,x9,x13,x14,x15=>if x9 < x1 then (if 0<=x9 then (if x9 < (x6.length:Int) then (if rdOf false x6 x9 = true then (impl_drive.l1 k x1 x6 x7 (wrap64 (x9 + 1)) x13 x14 x15) else (if x9 >= x1 then (some (([]:List Int),false)) else (if x7.length < 17592186044416 then (impl_drive.l0 k x1 (x6.set (x9:Int).toNat true) (x7 ++ [x9]) x13 x14 (wrap64 (x15 + 1))) else (none)))) else (none)) else (none)) else (if x9 >= x1 then (some (([]:List Int),false)) else (if 0<=x9 then (if x9 < (x6.length:Int) then (if x7.length < 17592186044416 then (impl_drive.l0 k x1 (x6.set (x9:Int).toNat true) (x7 ++ [x9]) x13 x14 (wrap64 (x15 + 1))) else (none)) else (none)) else (none)))
end
def impl_drive.f (k:Nat) (l0:List Int) (a1:Int):Option (List Int × Bool):=if 0<=a1 then (if (a1:Int).toNat<=281474976710656 then (impl_drive.l0 k a1 (List.replicate (a1:Int).toNat false) (([]:List Int)) l0 (l0.length:Int) 0) else (none)) else (none)
theorem impl_drive.calls (k:Nat) (A0:Option Addr) (c0:Nat) (l0:List Int) (a1:Int) (r1:List Int) (r2:Bool) (w:World) (hr0:Kd.C (Kd.int .i64) w A0 l0.length l0) (hc0:l0.length<=c0) (h:impl_drive.f k l0 a1 = some (r1,r2)) :
  Calls Tryz.prog 93 #[.slice A0 l0.length c0,.int .i64 a1] w fun e w'=>∃ v0_:Value,e = .returned (.tuple #[v0_,.bool r2])/\Kd.R (Kd.int .i64) 3 w' w.heap.size (fun _=>True) v0_ r1/\Below w.heap.size w w':=by
 have HR0:=am_ hr0;have HC0:=am_ hc0;clear hr0 hc0;have HB:=am_ (Below.refl w.heap.size w);unfold impl_drive.f at h;have H:=h;clear h;revert H;refine i2_ fun c3b0 c3b1 H=>?_;revert H;refine i2_ fun c4b0 c4b1 H=>?_;obtain ⟨y386,hy386⟩:=gn_ ((List.replicate (a1:Int).toNat false):List Bool);replace H:(impl_drive.l0 k a1 y386 (([]:List Int)) l0 (l0.length:Int) 0) = some (r1,r2):=rl_ hy386 H;have Ny386:=am_ hy386;clear hy386;obtain ⟨y389,hy389⟩:=gn_ ((([]:List Int)):List Int);replace H:(impl_drive.l0 k a1 y386 y389 l0 (l0.length:Int) 0) = some (r1,r2):=rl_ hy389 H;have Ny389:=am_ hy389;clear hy389;have H':=am_ H;clear H;go_enter Tryz.func93,Tryz.ntmps93;go_wp2_with (first | ((with_reducible refine gd_ 11 ?_);refine Kd.R_make Kd.bool _ 4 rfl (N:=11) rfl 136 _ _ rfl a1 rfl rfl Tryz.underlying136 (.bool false) 1 info4 rfl (by decide) (by omega) false (ok:=fun _=>True) (okp:=fun _=>True) rfl (fun _ hk=>hk) trivial (of_decide_eq_true qe84_) (Nat.le_trans (Nat.mul_le_mul_right _ (of_decide_eq_true qe84_:a1.toNat<=281474976710656)) (by omega)) (Below.refl _ _) (Nat.le_refl _) ?_;intro v387 w5 ho6 hb hg_ hnew_;clear hg_ hnew_;(first | rw [<- Ny386.out] at ho6 | (simp only [Int.reduceToNat] at ho6;rw [<- Ny386.out] at ho6));have HO388:=am_ (Kd.R_lower ho6 (below_size q0c4_));replace HB:=am_ (below_step q0c4_ hb);clear hb ho6) | ((with_reducible refine gd_ 12 ?_);refine Kd.R_lit (Kd.int .i64) _ 3 ?hg (N:=12) ?hd (xs:=([]:List Int)) (inner:=[]) (ok:=fun _=>True) (okp:=fun _=>True) ?hr ?hp (fun _ hk=>hk) trivial (Below.refl _ _) (Nat.le_refl _) (by simp) ?_;(case hd=>rfl);(case hg=>rfl);(case hr=>exact qfba_);(case hp=>exact (Reps.none _ _));intro v390 w7 ho8 hb hg_ hnew_;clear hg_ hnew_;(first | rw [<- Ny389.out] at ho8 | (simp only [Int.reduceToNat] at ho8;rw [<- Ny389.out] at ho8));replace HO388:=am_ (Kd.R_below (q9d5_ HO388.out) hb);have HO391:=am_ (Kd.R_lower ho8 (below_size q0c4_));replace HB:=am_ (below_step q0c4_ hb);clear hb ho8))
 go_loopg [7,15] k (fun kq v7 v15 w'=>∃ (x6_1:List Bool) (x7_1:List Int) (x15_1:Int),v15 = .int .i64 x15_1/\Aside0 (impl_drive.l0 kq a1 x6_1 x7_1 l0 (l0.length:Int) x15_1 = some (r1,r2))/\Aside0 (kq<=k)/\Aside0 (Kd.R Kd.bool 4 w' w.heap.size (fun _=>True) v387 x6_1)/\Aside0 (Kd.R (Kd.int .i64) 3 w' w.heap.size (fun _=>True) v7 x7_1)/\Aside0 (Below w.heap.size w w'))
 case atStart=>exact ⟨(y386),(y389),(0),qc8f_,H',⟨Nat.le_refl _⟩,⟨q9d5_ HO388.out⟩,⟨q9d5_ HO391.out⟩,⟨q0c4_⟩⟩
 case round =>
  clear H';obtain ⟨x6_1,x7_1,x15_1,rfl,HA,HK1,HO_6,HO_7,HB⟩:=hrel;cases gk with
  | zero=>exact n0_ HA.out
  | succ k1 =>
   have H:=HA.out;clear HA;simp only [impl_drive.l0] at H;revert H;refine ie_ (fun c9b0 H=>?_) fun c9b0 H=>?_
   ·
    revert H;refine id_ fun c10b0 H=>?_;revert H;refine id_ fun c11b0 H=>?_;have H':=am_ H;clear H;obtain ⟨ad392,rfl,hx392_0,p392,q392⟩:=ri_ HR0.out x15_1
    (try (replace hx392_0:=(HB.out.cell (World.block_lt_of_cell? w _ hx392_0)).trans hx392_0))
    go_wp2
    go_loopg [9] k1 (fun kq v9 w'=>∃ (x9_2:Int),v9 = .int .i64 x9_2/\Aside0 (impl_drive.l1 kq a1 x6_1 x7_1 x9_2 l0 (l0.length:Int) x15_1 = some (r1,r2))/\Aside0 (kq<=k1)/\Aside0 (Kd.R Kd.bool 4 w' w.heap.size (fun _=>True) v387 x6_1)/\Aside0 (Kd.R (Kd.int .i64) 3 w' w.heap.size (fun _=>True) u7 x7_1)/\Aside0 (Below w.heap.size w w'))
    case atStart=>exact ⟨(rd l0 x15_1),qc8f_,H',⟨Nat.le_refl _⟩,⟨q9d5_ HO_6.out⟩,⟨q9d5_ HO_7.out⟩,⟨q0c4_⟩⟩
    case round =>
     clear H';obtain ⟨x9_2,rfl,HA,HK2,HO_6,HO_7,HB⟩:=hrel;cases gk with
     | zero=>exact n0_ HA.out
     | succ k2 =>
      have H:=HA.out;clear HA;simp only [impl_drive.l1] at H;revert H;refine ie_ (fun c12b0 H=>?_) fun c12b0 H=>?_
      ·
       revert H;refine id_ fun c13b0 H=>?_;revert H;refine id_ fun c14b0 H=>?_;obtain ⟨bq15,hbq15⟩:∃ b_:Bool,b_ = (rdOf false x6_1 x9_2):=⟨_,rfl⟩;replace H:(if bq15 = true then (impl_drive.l1 k2 a1 x6_1 x7_1 (wrap64 (x9_2 + 1)) l0 (l0.length:Int) x15_1) else (if x9_2 >= a1 then (some (([]:List Int),false)) else (if x7_1.length < 17592186044416 then (impl_drive.l0 k2 a1 (x6_1.set (x9_2:Int).toNat true) (x7_1 ++ [x9_2]) l0 (l0.length:Int) (wrap64 (x15_1 + 1))) else (none)))) = some (r1,r2):=by rw [<- hbq15] at H;exact H
       have Nbq15:=am_ hbq15;clear hbq15;revert H;refine be_ (fun c16 H=>?_) fun c16 H=>?_
       ·
        subst c16;have H':=am_ H;clear H;obtain ⟨Ao17,co17,eo17⟩:=Kd.R_slice HO_6.out;subst eo17;obtain ⟨ad393,rfl,hx393_0,p393,q393⟩:=rb_ (rr_ HO_6.out) x9_2
        (try rw [<- Nbq15.out] at hx393_0)
        go_wp2;go_roundg k2
        case measure=>have:=HK1.out;have:=HK2.out;omega
        case rel=>exact ⟨(wrap64 (x9_2 + 1)),qc8f_,H',⟨q37b_ HK1.out HK2.out⟩,⟨q9d5_ HO_6.out⟩,⟨q9d5_ HO_7.out⟩,⟨q0c4_⟩⟩
       subst c16;revert H;refine ie_ (fun c18b0 H=>?_) fun c18b0 H=>?_
       ·
        obtain ⟨rfl,rfl⟩:=sp_ H;obtain ⟨Ao19,co19,eo19⟩:=Kd.R_slice HO_6.out;subst eo19;obtain ⟨ad393,rfl,hx393_0,p393,q393⟩:=rb_ (rr_ HO_6.out) x9_2
        (try rw [<- Nbq15.out] at hx393_0)
        go_wp2;go_ret2;exact ⟨_,qce7_,qf62_,q0c4_⟩
       obtain ⟨y394,hy394⟩:=gn_ ((x6_1.set (x9_2:Int).toNat true):List Bool);replace H:(if x7_1.length < 17592186044416 then (impl_drive.l0 k2 a1 y394 (x7_1 ++ [x9_2]) l0 (l0.length:Int) (wrap64 (x15_1 + 1))) else (none)) = some (r1,r2):=rl_ hy394 H;have Ny394:=am_ hy394;clear hy394;revert H;refine it_ fun c21 H=>?_;have LMc21:=am_ c21;clear c21;obtain ⟨y395,hy395⟩:=gn_ ((x7_1 ++ [x9_2]):List Int);replace H:(impl_drive.l0 k2 a1 y394 y395 l0 (l0.length:Int) (wrap64 (x15_1 + 1))) = some (r1,r2):=rl_ hy395 H;have Ny395:=am_ hy395;clear hy395;have H':=am_ H;clear H;obtain ⟨Ao22,co22,eo22⟩:=Kd.R_slice HO_6.out;subst eo22;obtain ⟨ad393,rfl,hx393_0,p393,q393⟩:=rb_ (rr_ HO_6.out) x9_2
       (try rw [<- Nbq15.out] at hx393_0)
       have p20:0<=(x9_2:Int):=of_decide_eq_true qe84_;have q20:(x9_2:Int) < ((x6_1.length:Int):Int):=of_decide_eq_true qe84_;obtain ⟨go20,co20,eo20,gb20,gl20,cl20,HG20⟩:=Kd.R_form HO_6.out (by omega)
       (first | cases eo20 | (injection eo20 with ea_ en_ ec_;(first | subst ea_ | (injection ea_ with ea_;subst ea_));subst ec_;clear en_))
       have GB20:=am_ gb20;have GG20:=am_ HG20;clear gb20 gl20 HG20
       (first | simp only [add_plain] at hx393_0 | skip)
       obtain ⟨hx20_0,hf20_0⟩:=Kd.R_celln false HO_6.out (x9_2:Int) p20 q20;replace p20:=eq_true p20;replace q20:=eq_true q20;have HP23:=Kd.R_putg HO_6.out (x9_2:Int) true;go_wp2_with (first | ((with_reducible refine gate_store (t:=4) (p:=35) rfl ?_);refine store_event (t:=4) (p:=35) (v:=?vo_w24) (w1:=(wr.setCell ⟨go20,(x9_2:Int).toNat,none⟩ (.bool true))) ?hg ?ho ?hn ?hr ?_;(case ho=>rfl);(case hg=>rfl);(case hn=>rfl);(case hr=>exact qfba_);intro w24 hw;have hg:wr.grownBy w24 (some go20):=(by rw [hw];exact HP23.2);have hp_:Kd.R Kd.bool 4 w24 w.heap.size (fun _=>True) (.slice (some ⟨go20,0,none⟩) x6_1.length co22) y394:=(by rw [hw,Ny394.out];exact HP23.1);clear HP23;replace HO_7:=am_ (Kd.R_over' (v:=(.slice (some ⟨go20,0,none⟩) x6_1.length co22)) (q9d5_ HO_7.out) (Kd.R_typed HO_6.out) (by decide) hg);replace HO_6:=am_ (hp_);replace HB:=am_ ((by rw [hw];exact below_set (HB.out) GB20.out:Below w.heap.size w w24));clear hg hw hp_) | ((with_reducible refine gate_builtin (b:=.append) (xs:=#[.tmp 36,.tmp 38]) rfl ?_);at_builtin;refine aI_ (w0:=w) (.tmp 36) (.tmp 38) u7 x7_1 x9_2 (fun _=>True) (fun _ _=>trivial) (q9d5_ HO_7.out) q0c4_ (by exact q1d0_ LMc21.out) ?_;intro v396 w25 ho hb hg hat;rw [<- Ny395.out] at ho;replace HO_6:=am_ (Kd.R_over' (q9d5_ HO_6.out) (Kd.R_typed (q9d5_ HO_7.out)) (by decide) hg);replace HB:=am_ (hb);have HO397:=am_ (ho);clear ho hb hg hat));go_roundg k2
       case measure=>have:=HK1.out;have:=HK2.out;omega
       case rel=>exact ⟨(y394),(y395),(wrap64 (x15_1 + 1)),qc8f_,H',⟨q37b_ HK1.out HK2.out⟩,⟨q9d5_ HO_6.out⟩,⟨q9d5_ HO397.out⟩,⟨q0c4_⟩⟩
      revert H;refine ie_ (fun c26b0 H=>?_) fun c26b0 H=>?_
      ·
       obtain ⟨rfl,rfl⟩:=sp_ H;go_wp2;go_ret2;exact ⟨_,qce7_,qf62_,q0c4_⟩
      revert H;refine id_ fun c27b0 H=>?_;revert H;refine id_ fun c28b0 H=>?_;obtain ⟨y398,hy398⟩:=gn_ ((x6_1.set (x9_2:Int).toNat true):List Bool);replace H:(if x7_1.length < 17592186044416 then (impl_drive.l0 k2 a1 y398 (x7_1 ++ [x9_2]) l0 (l0.length:Int) (wrap64 (x15_1 + 1))) else (none)) = some (r1,r2):=rl_ hy398 H;have Ny398:=am_ hy398;clear hy398;revert H;refine it_ fun c30 H=>?_;have LMc30:=am_ c30;clear c30;obtain ⟨y399,hy399⟩:=gn_ ((x7_1 ++ [x9_2]):List Int);replace H:(impl_drive.l0 k2 a1 y398 y399 l0 (l0.length:Int) (wrap64 (x15_1 + 1))) = some (r1,r2):=rl_ hy399 H;have Ny399:=am_ hy399;clear hy399;have H':=am_ H;clear H;have p29:0<=(x9_2:Int):=of_decide_eq_true qe84_;have q29:(x9_2:Int) < ((x6_1.length:Int):Int):=of_decide_eq_true qe84_;obtain ⟨go29,co29,eo29,gb29,gl29,cl29,HG29⟩:=Kd.R_form HO_6.out (by omega)
      (first | cases eo29 | (injection eo29 with ea_ en_ ec_;(first | subst ea_ | (injection ea_ with ea_;subst ea_));subst ec_;clear en_))
      have GB29:=am_ gb29;have GG29:=am_ HG29;clear gb29 gl29 HG29;obtain ⟨hx29_0,hf29_0⟩:=Kd.R_celln false HO_6.out (x9_2:Int) p29 q29;replace p29:=eq_true p29;replace q29:=eq_true q29;have HP31:=Kd.R_putg HO_6.out (x9_2:Int) true;go_wp2_with (first | ((with_reducible refine gate_store (t:=4) (p:=35) rfl ?_);refine store_event (t:=4) (p:=35) (v:=?vo_w32) (w1:=(wr.setCell ⟨go29,(x9_2:Int).toNat,none⟩ (.bool true))) ?hg ?ho ?hn ?hr ?_;(case ho=>rfl);(case hg=>rfl);(case hn=>rfl);(case hr=>exact qfba_);intro w32 hw;have hg:wr.grownBy w32 (some go29):=(by rw [hw];exact HP31.2);have hp_:Kd.R Kd.bool 4 w32 w.heap.size (fun _=>True) (.slice (some ⟨go29,0,none⟩) x6_1.length co29) y398:=(by rw [hw,Ny398.out];exact HP31.1);clear HP31;replace HO_7:=am_ (Kd.R_over' (v:=(.slice (some ⟨go29,0,none⟩) x6_1.length co29)) (q9d5_ HO_7.out) (Kd.R_typed HO_6.out) (by decide) hg);replace HO_6:=am_ (hp_);replace HB:=am_ ((by rw [hw];exact below_set (HB.out) GB29.out:Below w.heap.size w w32));clear hg hw hp_) | ((with_reducible refine gate_builtin (b:=.append) (xs:=#[.tmp 36,.tmp 38]) rfl ?_);at_builtin;refine aI_ (w0:=w) (.tmp 36) (.tmp 38) u7 x7_1 x9_2 (fun _=>True) (fun _ _=>trivial) (q9d5_ HO_7.out) q0c4_ (by exact q1d0_ LMc30.out) ?_;intro v400 w33 ho hb hg hat;rw [<- Ny399.out] at ho;replace HO_6:=am_ (Kd.R_over' (q9d5_ HO_6.out) (Kd.R_typed (q9d5_ HO_7.out)) (by decide) hg);replace HB:=am_ (hb);have HO401:=am_ (ho);clear ho hb hg hat));go_roundg k2
      case measure=>have:=HK1.out;have:=HK2.out;omega
      case rel=>exact ⟨(y398),(y399),(wrap64 (x15_1 + 1)),qc8f_,H',⟨q37b_ HK1.out HK2.out⟩,⟨q9d5_ HO_6.out⟩,⟨q9d5_ HO401.out⟩,⟨q0c4_⟩⟩
   obtain ⟨rfl,rfl⟩:=sp_ H;go_wp2;go_ret2;exact ⟨_,qce7_,q9d5_ HO_7.out,q0c4_⟩
def impl_isParking.f (k:Nat) (l0:List Int):Option (Bool):=(impl_areCars.f l0).bind fun t402=>(if t402 = true then ((impl_drive.f k l0 (l0.length:Int)).bind fun bt403=>(some bt403.2)) else (some false))
theorem impl_isParking.calls (k:Nat) (A0:Option Addr) (c0:Nat) (l0:List Int) (r:Bool) (w:World) (hr0:Kd.C (Kd.int .i64) w A0 l0.length l0) (hc0:l0.length<=c0) (h:impl_isParking.f k l0 = some r) :
  Calls Tryz.prog 60 #[.slice A0 l0.length c0] w fun e w'=>e = .returned (.bool r)/\Below w.heap.size w w':=by
 have HR0:=am_ hr0;have HC0:=am_ hc0;clear hr0 hc0;have HB:=am_ (Below.refl w.heap.size w);unfold impl_isParking.f at h;have H:=h;clear h;obtain ⟨t402,A2,H⟩:=ob_ H;revert H;refine be_ (fun c3 H=>?_) fun c3 H=>?_
 ·
  subst c3;obtain ⟨⟨t403,t404⟩,A4,H⟩:=ob_ H;dsimp only at H;obtain rfl:=Option.some.inj H;go_enter Tryz.func60,Tryz.ntmps60;go_wp2_with (first | ((with_reducible refine gc_ 92 ?_);refine gl_ 6 Tryz.func92 #[.slice A0 l0.length c0] ?_;(with_reducible refine (impl_areCars.calls _ _ l0 true _ ?s1 ?s2 A2.out).mono ?_);(case s1=>exact q201_ HR0.out);(case s2=>exact HC0.out);rintro e w5 ⟨rfl,hb⟩;refine ⟨_,rfl,?_⟩;replace HB:=am_ (below_step q0c4_ hb);clear hb) | ((with_reducible refine gc_ 93 ?_);refine gl_ 12 Tryz.func93 #[.slice A0 l0.length c0,.int .i64 (l0.length:Int)] ?_;(with_reducible refine (impl_drive.calls k _ _ l0 (l0.length:Int) t403 t404 _ ?s1 ?s2 A4.out).mono ?_);(case s1=>exact qe02_ HR0.out);(case s2=>exact HC0.out);rintro e w6 ⟨v405,rfl,ho0,hb⟩;refine ⟨_,rfl,?_⟩;have HO406:=am_ (Kd.R_lower ho0 (below_size q0c4_));replace HB:=am_ (below_step q0c4_ hb);clear hb ho0));go_ret;exact ⟨qce7_,q0c4_⟩
 subst c3;obtain rfl:=Option.some.inj H;go_enter Tryz.func60,Tryz.ntmps60;go_wp2_with (first | ((with_reducible refine gc_ 92 ?_);refine gl_ 6 Tryz.func92 #[.slice A0 l0.length c0] ?_;(with_reducible refine (impl_areCars.calls _ _ l0 false _ ?s1 ?s2 A2.out).mono ?_);(case s1=>exact q201_ HR0.out);(case s2=>exact HC0.out);rintro e w7 ⟨rfl,hb⟩;refine ⟨_,rfl,?_⟩;replace HB:=am_ (below_step q0c4_ hb);clear hb));go_ret;exact ⟨qce7_,q0c4_⟩
mutual
def impl_rank.l0:Nat->List Int->Int->List Int->Int->Int->Option (Int)
 | 0,_,_,_,_,_=>none
 | k + 1,x0,x3,x7,x8,x9=>if x9 < x8 then (if 0<=x9 then (if x9 < (x7.length:Int) then (impl_rank.l1 k x0 x3 x9 x7 x8 x9 (rd x7 x9) 0) else (none)) else (none)) else (some x3)
def impl_rank.l1:Nat->List Int->Int->Int->List Int->Int->Int->Int->Int->Option (Int)
 | 0,_,_,_,_,_,_,_,_=>none
 | k + 1,x0,x3,x4,x7,x8,x9,x14,x15=>if x15 < x14 then (if 0<=x4 then (if x4<=(x0.length:Int) then ((slices_Clone_int_int.f (x0.take (x4:Int).toNat)).bind fun t409=>(if t409.length < 17592186044416 then ((impl_completions.f k (t409 ++ [x15]) (x0.length:Int)).bind fun t415=>(impl_rank.l1 k x0 (wrap64 (x3 + t415)) x4 x7 x8 x9 x14 (wrap64 (x15 + 1)))) else (none))) else (none)) else (none)) else (impl_rank.l0 k x0 x3 x7 x8 (wrap64 (x9 + 1)))
end
def impl_rank.f (k:Nat) (l0:List Int):Option (Int):=impl_rank.l0 k l0 0 l0 (l0.length:Int) 0
theorem impl_rank.calls (k:Nat) (A0:Option Addr) (c0:Nat) (l0:List Int) (r:Int) (w:World) (hr0:Kd.C (Kd.int .i64) w A0 l0.length l0) (hc0:l0.length<=c0) (h:impl_rank.f k l0 = some r) :
  Calls Tryz.prog 64 #[.slice A0 l0.length c0] w fun e w'=>e = .returned (.int .i64 r)/\Below w.heap.size w w':=by
 have HR0:=am_ hr0;have HC0:=am_ hc0;clear hr0 hc0;have HB:=am_ (Below.refl w.heap.size w);unfold impl_rank.f at h;have H:=h;clear h;have H':=am_ H;clear H;go_enter Tryz.func64,Tryz.ntmps64;go_wp2
 go_loopg [3,9] k (fun kq v3 v9 w'=>∃ (x3_1:Int) (x9_1:Int),v3 = .int .i64 x3_1/\v9 = .int .i64 x9_1/\Aside0 (impl_rank.l0 kq l0 x3_1 l0 (l0.length:Int) x9_1 = some r)/\Aside0 (kq<=k)/\Aside0 (Below w.heap.size w w'))
 case atStart=>exact ⟨(0),(0),qc8f_,qc8f_,H',⟨Nat.le_refl _⟩,⟨q0c4_⟩⟩
 case round =>
  clear H';obtain ⟨x3_1,x9_1,rfl,rfl,HA,HK1,HB⟩:=hrel;cases gk with
  | zero=>exact n0_ HA.out
  | succ k1 =>
   have H:=HA.out;clear HA;simp only [impl_rank.l0] at H;revert H;refine ie_ (fun c2b0 H=>?_) fun c2b0 H=>?_
   ·
    revert H;refine id_ fun c3b0 H=>?_;revert H;refine id_ fun c4b0 H=>?_;have H':=am_ H;clear H;obtain ⟨ad407,rfl,hx407_0,p407,q407⟩:=ri_ HR0.out x9_1
    (try (replace hx407_0:=(HB.out.cell (World.block_lt_of_cell? w _ hx407_0)).trans hx407_0))
    go_wp2
    go_loopg [3,15] k1 (fun kq v3 v15 w'=>∃ (x3_2:Int) (x15_2:Int),v3 = .int .i64 x3_2/\v15 = .int .i64 x15_2/\Aside0 (impl_rank.l1 kq l0 x3_2 x9_1 l0 (l0.length:Int) x9_1 (rd l0 x9_1) x15_2 = some r)/\Aside0 (kq<=k1)/\Aside0 (Below w.heap.size w w'))
    case atStart=>exact ⟨(x3_1),(0),qc8f_,qc8f_,H',⟨Nat.le_refl _⟩,⟨q0c4_⟩⟩
    case round =>
     clear H';obtain ⟨x3_2,x15_2,rfl,rfl,HA,HK2,HB⟩:=hrel;cases gk with
     | zero=>exact n0_ HA.out
     | succ k2 =>
      have H:=HA.out;clear HA;simp only [impl_rank.l1] at H;revert H;refine ie_ (fun c5b0 H=>?_) fun c5b0 H=>?_
      ·
       revert H;refine i2_ fun c6b0 c6b1 H=>?_;revert H;refine i2_ fun c7b0 c7b1 H=>?_;obtain ⟨t409,A8,H⟩:=ob_ H;revert H;refine it_ fun c9 H=>?_;have LMc9:=am_ c9;clear c9;obtain ⟨y412,hy412⟩:=gn_ ((t409 ++ [x15_2]):List Int);replace H:((impl_completions.f k2 y412 (l0.length:Int)).bind fun t415=>(impl_rank.l1 k2 l0 (wrap64 (x3_2 + t415)) x9_1 l0 (l0.length:Int) x9_1 (rd l0 x9_1) (wrap64 (x15_2 + 1)))) = some r:=rl_ hy412 H;have Ny412:=am_ hy412;clear hy412;obtain ⟨t415,A10,H⟩:=ob_ H;have H':=am_ H;clear H;obtain ⟨i011,hi011,_,hsz11,_⟩:=info_parts info3;obtain ⟨hcut11,hA11,hC11⟩:=print_take_of (P:=Tryz.prog) (Value.int .i64) 0 22 3 .i64 Tryz.underlying22 hi011 hsz11 (some ad407) c0 l0 x9_1 (of_decide_eq_true qe84_) (of_decide_eq_true qe84_) HC0.out;have HR408:=am_ (Kd.C_of_reads (h1:=fun _=>rfl) (hA11 _ (Kd.reads_of_C HR0.out)));have HC408:=am_ hC11;clear hA11 hC11 hi011 hsz11;go_wp2_with (first | ((with_reducible refine gc_ 53 ?_);refine goesL_ (some 22) rfl rfl Tryz.func53 (by kernel_rfl) rfl #[.slice (some ad407) (l0.take (x9_1:Int).toNat).length c0] rfl (by (try simp only [List.map_toArray,List.map_cons,List.map_nil]);first | done | (rw [show (l0.take (x9_1:Int).toNat).length = x9_1.toNat from (by rw [List.length_take];have h_:(x9_1:Int)<=(l0.length:Int):=of_decide_eq_true qe84_;omega)] <;> rfl) | rfl | (simp only [List.length_drop,List.length_take];rfl)) ?_;(with_reducible refine (slices_Clone_int_int.calls _ _ (l0.take (x9_1:Int).toNat) t409 _ ?s1 ?s2 A8.out).mono ?_);(case s1=>exact qe02_ HR408.out);(case s2=>exact HC408.out);rintro e w12 ⟨v410,rfl,ho0,hb⟩;refine ⟨_,rfl,?_⟩;have HO411:=am_ (Kd.R_lower ho0 (below_size q0c4_));replace HB:=am_ (below_step q0c4_ hb);clear hb ho0) | ((with_reducible refine gate_builtin (b:=.append) (xs:=#[.tmp 22,.tmp 24]) rfl ?_);at_builtin;refine aI_ (w0:=w) (.tmp 22) (.tmp 24) v410 t409 x15_2 (fun _=>True) (fun _ _=>trivial) (q9d5_ HO411.out) q0c4_ (by exact q1d0_ LMc9.out) ?_;intro v413 w13 ho hb hg hat;rw [<- Ny412.out] at ho;replace HB:=am_ (hb);have HO414:=am_ (ho);clear ho hb hg hat;obtain ⟨Ao14,co14,eo14⟩:=Kd.R_slice HO414.out;subst eo14) | ((with_reducible refine gc_ 104 ?_);refine gl_ 28 Tryz.func104 #[.slice Ao14 y412.length co14,.int .i64 (l0.length:Int)] ?_;(with_reducible refine (impl_completions.calls k2 _ _ y412 (l0.length:Int) t415 _ ?s1 ?s2 A10.out).mono ?_);(case s1=>exact q5a8_ HO414.out);(case s2=>exact (Kd.R_reads' HO414.out).2.1);rintro e w15 ⟨rfl,hb⟩;refine ⟨_,rfl,?_⟩;replace HO414:=am_ (Kd.R_below (q9d5_ HO414.out) hb);replace HB:=am_ (below_step q0c4_ hb);clear hb));go_roundg k2
       case measure=>have:=HK1.out;have:=HK2.out;omega
       case rel=>exact ⟨(wrap64 (x3_2 + t415)),(wrap64 (x15_2 + 1)),qc8f_,qc8f_,H',⟨q37b_ HK1.out HK2.out⟩,⟨q0c4_⟩⟩
      have H':=am_ H;clear H;go_wp2;go_roundg k2
      case measure=>have:=HK1.out;have:=HK2.out;omega
      case rel=>exact ⟨(x3_2),(wrap64 (x9_1 + 1)),qc8f_,qc8f_,H',⟨q37b_ HK1.out HK2.out⟩,⟨q0c4_⟩⟩
   obtain rfl:=Option.some.inj H;go_wp2;go_ret;exact ⟨qce7_,q0c4_⟩
def impl_NextParking.f (k:Nat) (l0:List Int):Option (List Int × Bool):=(impl_isParking.f k l0).bind fun t416=>(if t416 = true then ((impl_rank.f k l0).bind fun t417=>((impl_ParkingAt.f k (l0.length:Int) (wrap64 (t417 + 1))).bind fun bt418=>(some (bt418.1,bt418.2)))) else (some (([]:List Int),false)))
theorem impl_NextParking.calls (k:Nat) (A0:Option Addr) (c0:Nat) (l0:List Int) (r1:List Int) (r2:Bool) (w:World) (hr0:Kd.C (Kd.int .i64) w A0 l0.length l0) (hc0:l0.length<=c0) (h:impl_NextParking.f k l0 = some (r1,r2)) :
  Calls Tryz.prog 33 #[.slice A0 l0.length c0] w fun e w'=>∃ v0_:Value,e = .returned (.tuple #[v0_,.bool r2])/\Kd.R (Kd.int .i64) 3 w' w.heap.size (fun _=>True) v0_ r1/\Below w.heap.size w w':=by
 have HR0:=am_ hr0;have HC0:=am_ hc0;clear hr0 hc0;have HB:=am_ (Below.refl w.heap.size w);unfold impl_NextParking.f at h;have H:=h;clear h;obtain ⟨t416,A2,H⟩:=ob_ H;revert H;refine be_ (fun c3 H=>?_) fun c3 H=>?_
 ·
  subst c3;obtain ⟨t417,A4,H⟩:=ob_ H;obtain ⟨⟨t418,t419⟩,A5,H⟩:=ob_ H;dsimp only at H;obtain ⟨rfl,rfl⟩:=sp_ H;go_enter Tryz.func33,Tryz.ntmps33;go_wp2_with (first | ((with_reducible refine gc_ 60 ?_);refine gl_ 5 Tryz.func60 #[.slice A0 l0.length c0] ?_;(with_reducible refine (impl_isParking.calls k _ _ l0 true _ ?s1 ?s2 A2.out).mono ?_);(case s1=>exact q201_ HR0.out);(case s2=>exact HC0.out);rintro e w6 ⟨rfl,hb⟩;refine ⟨_,rfl,?_⟩;replace HB:=am_ (below_step q0c4_ hb);clear hb) | ((with_reducible refine gc_ 64 ?_);refine gl_ 10 Tryz.func64 #[.slice A0 l0.length c0] ?_;(with_reducible refine (impl_rank.calls k _ _ l0 t417 _ ?s1 ?s2 A4.out).mono ?_);(case s1=>exact qe02_ HR0.out);(case s2=>exact HC0.out);rintro e w7 ⟨rfl,hb⟩;refine ⟨_,rfl,?_⟩;replace HB:=am_ (below_step q0c4_ hb);clear hb) | ((with_reducible refine gc_ 63 ?_);refine gl_ 12 Tryz.func63 #[.int .i64 (l0.length:Int),.int .i64 (wrap64 (t417 + 1))] ?_;(with_reducible refine (impl_ParkingAt.calls k (l0.length:Int) (wrap64 (t417 + 1)) t418 t419 _ A5.out).mono ?_);rintro e w8 ⟨v420,rfl,ho0,hb⟩;refine ⟨_,rfl,?_⟩;have HO421:=am_ (Kd.R_lower ho0 (below_size q0c4_));replace HB:=am_ (below_step q0c4_ hb);clear hb ho0));go_ret2;exact ⟨_,qce7_,q9d5_ HO421.out,q0c4_⟩
 subst c3;obtain ⟨rfl,rfl⟩:=sp_ H;go_enter Tryz.func33,Tryz.ntmps33;go_wp2_with (first | ((with_reducible refine gc_ 60 ?_);refine gl_ 5 Tryz.func60 #[.slice A0 l0.length c0] ?_;(with_reducible refine (impl_isParking.calls k _ _ l0 false _ ?s1 ?s2 A2.out).mono ?_);(case s1=>exact q201_ HR0.out);(case s2=>exact HC0.out);rintro e w9 ⟨rfl,hb⟩;refine ⟨_,rfl,?_⟩;replace HB:=am_ (below_step q0c4_ hb);clear hb));go_ret2;exact ⟨_,qce7_,qf62_,q0c4_⟩
def impl_AreFavourites.f (l0:List Int) (a1:Int):Option (Bool):=(impl_between.f a1 1 12).bind fun t422=>(if t422 = true then (if (l0.length:Int)<=8 then ((impl_areBetween.f l0 0 (wrap64 (a1 - 1))).bind fun t423=>(some t423)) else (some false)) else (some false))
theorem impl_AreFavourites.calls (A0:Option Addr) (c0:Nat) (l0:List Int) (a1:Int) (r:Bool) (w:World) (hr0:Kd.C (Kd.int .i64) w A0 l0.length l0) (hc0:l0.length<=c0) (h:impl_AreFavourites.f l0 a1 = some r) :
  Calls Tryz.prog 200 #[.slice A0 l0.length c0,.int .i64 a1] w fun e w'=>e = .returned (.bool r)/\Below w.heap.size w w':=by
 have HR0:=am_ hr0;have HC0:=am_ hc0;clear hr0 hc0;have HB:=am_ (Below.refl w.heap.size w);unfold impl_AreFavourites.f at h;have H:=h;clear h;obtain ⟨t422,A3,H⟩:=ob_ H;revert H;refine be_ (fun c4 H=>?_) fun c4 H=>?_
 ·
  subst c4
  by_cases c5:(l0.length:Int)<=8
  ·
   rw [if_pos c5] at H;have c5b0:=decide_eq_true c5;have c5b1:decide (l0.length<=8) = true:=decide_eq_true (by omega);clear c5;obtain ⟨t423,A6,H⟩:=ob_ H;obtain rfl:=Option.some.inj H;go_enter Tryz.func200,Tryz.ntmps200;go_wp2_with (first | ((with_reducible refine gc_ 101 ?_);refine gl_ 6 Tryz.func101 #[.int .i64 a1,.int .i64 1,.int .i64 12] ?_;(with_reducible refine (impl_between.calls a1 1 12 true _ A3.out).mono ?_);rintro e w' ⟨rfl,⟨nd,rfl⟩⟩;refine ⟨_,rfl,?_⟩) | (go_at_call 95;(with_reducible refine (impl_areBetween.calls _ _ l0 0 (wrap64 (a1 - 1)) t423 _ ?s1 ?s2 A6.out).mono ?_);(case s1=>exact q201_ HR0.out);(case s2=>exact HC0.out);rintro e w7 ⟨rfl,hb⟩;replace HB:=am_ (below_step q0c4_ hb);clear hb));go_ret;exact ⟨qce7_,q0c4_⟩
  rw [if_neg c5] at H;have c5b0:=decide_eq_false c5;have c5b1:decide (l0.length<=8) = false:=decide_eq_false (by omega);clear c5;obtain rfl:=Option.some.inj H;go_enter Tryz.func200,Tryz.ntmps200;go_wp2_with (first | ((with_reducible refine gc_ 101 ?_);refine gl_ 6 Tryz.func101 #[.int .i64 a1,.int .i64 1,.int .i64 12] ?_;(with_reducible refine (impl_between.calls a1 1 12 true _ A3.out).mono ?_);rintro e w' ⟨rfl,⟨nd,rfl⟩⟩;refine ⟨_,rfl,?_⟩));go_ret;exact ⟨qce7_,q0c4_⟩
 subst c4;obtain rfl:=Option.some.inj H;go_enter Tryz.func200,Tryz.ntmps200;go_wp2_with (first | ((with_reducible refine gc_ 101 ?_);refine gl_ 6 Tryz.func101 #[.int .i64 a1,.int .i64 1,.int .i64 12] ?_;(with_reducible refine (impl_between.calls a1 1 12 false _ A3.out).mono ?_);rintro e w' ⟨rfl,⟨nd,rfl⟩⟩;refine ⟨_,rfl,?_⟩));go_ret;exact ⟨qce7_,q0c4_⟩
def impl_DriveCars.f (k:Nat) (l0:List Int) (a1:Int):Option (List Int × Bool):=(impl_AreFavourites.f l0 a1).bind fun t424=>(if t424 = true then ((impl_drive.f k l0 a1).bind fun bt425=>(some (bt425.1,bt425.2))) else (some (([]:List Int),false)))
theorem impl_DriveCars.calls (k:Nat) (A0:Option Addr) (c0:Nat) (l0:List Int) (a1:Int) (r1:List Int) (r2:Bool) (w:World) (hr0:Kd.C (Kd.int .i64) w A0 l0.length l0) (hc0:l0.length<=c0) (h:impl_DriveCars.f k l0 a1 = some (r1,r2)) :
  Calls Tryz.prog 140 #[.slice A0 l0.length c0,.int .i64 a1] w fun e w'=>∃ v0_:Value,e = .returned (.tuple #[v0_,.bool r2])/\Kd.R (Kd.int .i64) 3 w' w.heap.size (fun _=>True) v0_ r1/\Below w.heap.size w w':=by
 have HR0:=am_ hr0;have HC0:=am_ hc0;clear hr0 hc0;have HB:=am_ (Below.refl w.heap.size w);unfold impl_DriveCars.f at h;have H:=h;clear h;obtain ⟨t424,A3,H⟩:=ob_ H;revert H;refine be_ (fun c4 H=>?_) fun c4 H=>?_
 ·
  subst c4;obtain ⟨⟨t425,t426⟩,A5,H⟩:=ob_ H;dsimp only at H;obtain ⟨rfl,rfl⟩:=sp_ H;go_enter Tryz.func140,Tryz.ntmps140;go_wp2_with (first | ((with_reducible refine gc_ 200 ?_);refine gl_ 8 Tryz.func200 #[.slice A0 l0.length c0,.int .i64 a1] ?_;(with_reducible refine (impl_AreFavourites.calls _ _ l0 a1 true _ ?s1 ?s2 A3.out).mono ?_);(case s1=>exact q201_ HR0.out);(case s2=>exact HC0.out);rintro e w6 ⟨rfl,hb⟩;refine ⟨_,rfl,?_⟩;replace HB:=am_ (below_step q0c4_ hb);clear hb) | ((with_reducible refine gc_ 93 ?_);refine gl_ 12 Tryz.func93 #[.slice A0 l0.length c0,.int .i64 a1] ?_;(with_reducible refine (impl_drive.calls k _ _ l0 a1 t425 t426 _ ?s1 ?s2 A5.out).mono ?_);(case s1=>exact qe02_ HR0.out);(case s2=>exact HC0.out);rintro e w7 ⟨v427,rfl,ho0,hb⟩;refine ⟨_,rfl,?_⟩;have HO428:=am_ (Kd.R_lower ho0 (below_size q0c4_));replace HB:=am_ (below_step q0c4_ hb);clear hb ho0));go_ret2;exact ⟨_,qce7_,q9d5_ HO428.out,q0c4_⟩
 subst c4;obtain ⟨rfl,rfl⟩:=sp_ H;go_enter Tryz.func140,Tryz.ntmps140;go_wp2_with (first | ((with_reducible refine gc_ 200 ?_);refine gl_ 8 Tryz.func200 #[.slice A0 l0.length c0,.int .i64 a1] ?_;(with_reducible refine (impl_AreFavourites.calls _ _ l0 a1 false _ ?s1 ?s2 A3.out).mono ?_);(case s1=>exact q201_ HR0.out);(case s2=>exact HC0.out);rintro e w8 ⟨rfl,hb⟩;refine ⟨_,rfl,?_⟩;replace HB:=am_ (below_step q0c4_ hb);clear hb));go_ret2;exact ⟨_,qce7_,qf62_,q0c4_⟩
def impl_DistancesOf.l0:Nat->List Int->List Int->Bool->Int->Int->Option (List Int × Bool)
 | 0,_,_,_,_,_=>none
 | k + 1,x0,x6,x7,x16,x17=>if x17 < x16 then (if 0<=x17 then (if x17 < (x6.length:Int) then (if x17 < (x0.length:Int) then (impl_DistancesOf.l0 k x0 (x6.set (x17:Int).toNat (wrap64 ((rd x6 x17) - (rd x0 x17)))) x7 x16 (wrap64 (x17 + 1))) else (none)) else (none)) else (none)) else (some (x6,x7))
def impl_DistancesOf.f (k:Nat) (l0:List Int) (a1:Int):Option (List Int × Bool):=(impl_DriveCars.f k l0 a1).bind fun bt429=>(impl_DistancesOf.l0 k l0 bt429.1 bt429.2 (bt429.1.length:Int) 0)
def impl_DistancesOf.T5:Bool × List (List Nat × List Nat):=(true,[([],[]),([],[]),([0,1],[0,1]),([2],[2]),([],[]),([],[]),([4,5],[4,5]),([6],[6]),([3,7],[3,7]),([0,1,0,1,2,3,4,5,6,7,8],[0,1]),([9,8,0,1,2,3,4,5,6,7,8],[8,9])])
def impl_DistancesOf.B5:List Nat:=[0,0,3,7,0,0,48,112,255,511,1023]
theorem impl_DistancesOf.tab5:rtab .any (opsOf Tryz.f141 5) = impl_DistancesOf.T5:=by kernel_rfl
theorem impl_DistancesOf.bits5:waitsOk impl_DistancesOf.T5.2 impl_DistancesOf.B5 = true:=by kernel_rfl
theorem impl_DistancesOf.calls (k:Nat) (A0:Option Addr) (c0:Nat) (l0:List Int) (a1:Int) (r1:List Int) (r2:Bool) (w:World) (hr0:Kd.C (Kd.int .i64) w A0 l0.length l0) (hc0:l0.length<=c0) (h:impl_DistancesOf.f k l0 a1 = some (r1,r2)) :
  Calls Tryz.prog 141 #[.slice A0 l0.length c0,.int .i64 a1] w fun e w'=>∃ v0_:Value,e = .returned (.tuple #[v0_,.bool r2])/\Kd.R (Kd.int .i64) 3 w' w.heap.size (fun _=>True) v0_ r1/\Below w.heap.size w w':=by
 have HR0:=am_ hr0;have HC0:=am_ hc0;clear hr0 hc0;have HB:=am_ (Below.refl w.heap.size w);unfold impl_DistancesOf.f at h;have H:=h;clear h;obtain ⟨⟨t429,t430⟩,A3,H⟩:=ob_ H;dsimp only at H;have H':=am_ H;clear H;go_enter Tryz.func141,Tryz.ntmps141;go_wp2_with (first | ((with_reducible refine gc_ 140 ?_);refine gl_ 12 Tryz.func140 #[.slice A0 l0.length c0,.int .i64 a1] ?_;(with_reducible refine (impl_DriveCars.calls k _ _ l0 a1 t429 t430 _ ?s1 ?s2 A3.out).mono ?_);(case s1=>exact q201_ HR0.out);(case s2=>exact HC0.out);rintro e w4 ⟨v431,rfl,ho0,hb⟩;refine ⟨_,rfl,?_⟩;have HO432:=am_ (Kd.R_lower ho0 (below_size q0c4_));replace HB:=am_ (below_step q0c4_ hb);clear hb ho0;obtain ⟨Ao5,co5,eo5⟩:=Kd.R_slice HO432.out;subst eo5))
 go_loopg [17] k (fun kq v17 w'=>∃ (x6_1:List Int) (x17_1:Int),v17 = .int .i64 x17_1/\Aside0 (impl_DistancesOf.l0 kq l0 x6_1 t430 (t429.length:Int) x17_1 = some (r1,r2))/\Aside0 (kq<=k)/\Aside0 (Kd.R (Kd.int .i64) 3 w' w.heap.size (fun _=>True) (.slice Ao5 t429.length co5) x6_1)/\Aside0 (Below w.heap.size w w'))
 case atStart=>exact ⟨(t429),(0),qc8f_,H',⟨Nat.le_refl _⟩,⟨q9d5_ HO432.out⟩,⟨q0c4_⟩⟩
 case round =>
  clear H';obtain ⟨x6_1,x17_1,rfl,HA,HK1,HO_6,HB⟩:=hrel;have hl6_1:=(Kd.R_reads' HO_6.out).1;rw [hl6_1] at HO_6
  (try simp only [hl6_1])
  cases gk with
  | zero=>exact n0_ HA.out
  | succ k1 =>
   have H:=HA.out;clear HA;simp only [impl_DistancesOf.l0] at H
   by_cases c6:x17_1 < (t429.length:Int)
   ·
    rw [if_pos c6] at H;have c6b0:=decide_eq_true c6
    (try simp only [hl6_1] at c6b0)
    clear c6;revert H;refine id_ fun c7b0 H=>?_;revert H;refine it_ fun c8 H=>?_;have c8b0:=decide_eq_true c8
    (try simp only [hl6_1] at c8b0)
    clear c8;revert H;refine it_ fun c9 H=>?_;have c9b0:=decide_eq_true c9
    (try simp only [hl6_1] at c9b0)
    clear c9;obtain ⟨y435,hy435⟩:=gn_ ((x6_1.set (x17_1:Int).toNat (wrap64 ((rd x6_1 x17_1) - (rd l0 x17_1)))):List Int);replace H:(impl_DistancesOf.l0 k1 l0 y435 t430 (t429.length:Int) (wrap64 (x17_1 + 1))) = some (r1,r2):=rl_ hy435 H;have Ny435:=am_ hy435;clear hy435;have H':=am_ H;clear H
    try go_wp2
    have n0_:=am_ (Kd.R_drew HO_6.out);have n1_:=am_ (below_drew1 HB.out);clear HO_6 HB;have HO_6:=n0_;have HB:=n1_;clear n0_ n1_;obtain ⟨ad433,rfl,hx433_0,p433,q433⟩:=ri_ (rr_ HO_6.out) x17_1;have p434:0<=(x17_1:Int):=of_decide_eq_true qe84_;have q434:x17_1 < (l0.length:Int):=of_decide_eq_true qe84_;obtain ⟨ad434,e434,hx434_0⟩:=Kd.at_int HR0.out x17_1 p434 q434;have hw434_0:=hx434_0;cases e434
    (try (replace hx434_0:=(HB.out.cell (World.block_lt_of_cell? w _ hx434_0)).trans hx434_0))
    replace p434:=eq_true p434;replace q434:=eq_true q434;have p10:0<=(x17_1:Int):=of_decide_eq_true qe84_;have q10:(x17_1:Int) < ((x6_1.length:Int):Int):=of_decide_eq_true qe84_;obtain ⟨go10,co10,eo10,gb10,gl10,cl10,HG10⟩:=Kd.R_form HO_6.out (by omega)
    (first | cases eo10 | (injection eo10 with ea_ en_ ec_;(first | subst ea_ | (injection ea_ with ea_;subst ea_));subst ec_;clear en_))
    have GB10:=am_ gb10;have GG10:=am_ HG10;clear gb10 gl10 HG10
    (first | simp only [add_plain] at hx433_0 | skip)
    obtain ⟨hx10_0,hf10_0⟩:=Kd.R_celln 0 HO_6.out (x17_1:Int) p10 q10;replace p10:=eq_true p10;replace q10:=eq_true q10;have HP12:=Kd.R_putn HO_6.out (x17_1:Int) (wrap64 ((rd x6_1 x17_1) - (rd l0 x17_1)));rw [<- Ny435.out] at HP12;have HQ12:=am_ HP12;clear HP12;refine start_ (n:=11) (S:=fun w'=>w'.cell? ⟨go10,(x17_1).toNat,none⟩ = some (.int .i64 (rd x6_1 x17_1))/\w'.cell? (ad434.add (x17_1).toNat) = some (.int .i64 (rd l0 x17_1))) (ds:=[10]) (mk_ 11 0) (by kernel_rfl) rfl (by kernel_rfl) ⟨hx433_0,((HB.out.cell (World.block_lt_of_cell? w _ hw434_0)).trans hw434_0)⟩ (fun hHeld=>?_);refine with_tabW impl_DistancesOf.tab5 impl_DistancesOf.bits5 (fun HT_ HW_=>?_)
    generalize wr.drew = w11 at HO_6 HB GG10 HQ12 hf10_0 hx10_0 hx433_0 hx434_0 hHeld ⊢;refine pu_ 0 20 11 1 ?_;refine pu_ 1 21 11 3 ?_;refine pu_ 2 22 11 7 ?_;refine pu_ 4 24 11 23 ?_;refine pu_ 5 25 11 55 ?_;refine pu_ 6 26 11 119 ?_;refine tk_ 3 23 11 127 ?_;refine tk_ 7 27 11 255 ?_;refine pu_ 8 28 11 511 ?_;refine pu_ 9 29 11 1023 ?_;refine la_ 10 none 11 2047 fun K hK=>?_;refine skip_ (w1:=?_) (by rfl) rfl ?_ ?_;rotate_left
    ·
     go_simp;rfl
    refine hK.out _ _ ?_;clear hK K;refine done_ (done_of HT_.out (by kernel_rfl)) ?_
    try go_wp2
    (try simp only [<- hl6_1])
    go_roundg k1
    case measure=>have:=HK1.out;omega
    case rel=>exact ⟨(y435),(wrap64 (x17_1 + 1)),qc8f_,H',⟨q1d0_ HK1.out⟩,⟨by (try simp only [hl6_1]);(with_reducible repeat (first | apply Kd.R_alloc | apply Kd.R_drewN | apply Kd.R_drew));exact HQ12.out⟩,⟨qfcd_ GB10.out⟩⟩
   rw [if_neg c6] at H;have c6b0:=decide_eq_false c6
   (try simp only [hl6_1] at c6b0)
   clear c6;obtain ⟨rfl,rfl⟩:=sp_ H;go_wp2;go_ret2;exact ⟨_,qce7_,q9d5_ HO_6.out,q0c4_⟩
def impl_CutsOf.f (k:Nat) (l0:List Int):Option (List Int × Bool):=(impl_isParking.f k l0).bind fun t436=>(if t436 = true then ((impl_cuts.f k l0).bind fun t437=>(some (t437,true))) else (some (([]:List Int),false)))
theorem impl_CutsOf.calls (k:Nat) (A0:Option Addr) (c0:Nat) (l0:List Int) (r1:List Int) (r2:Bool) (w:World) (hr0:Kd.C (Kd.int .i64) w A0 l0.length l0) (hc0:l0.length<=c0) (h:impl_CutsOf.f k l0 = some (r1,r2)) :
  Calls Tryz.prog 142 #[.slice A0 l0.length c0] w fun e w'=>∃ v0_:Value,e = .returned (.tuple #[v0_,.bool r2])/\Kd.R (Kd.int .i64) 3 w' w.heap.size (fun _=>True) v0_ r1/\Below w.heap.size w w':=by
 have HR0:=am_ hr0;have HC0:=am_ hc0;clear hr0 hc0;have HB:=am_ (Below.refl w.heap.size w);unfold impl_CutsOf.f at h;have H:=h;clear h;obtain ⟨t436,A2,H⟩:=ob_ H;revert H;refine be_ (fun c3 H=>?_) fun c3 H=>?_
 ·
  subst c3;obtain ⟨t437,A4,H⟩:=ob_ H;obtain ⟨rfl,rfl⟩:=sp_ H;go_enter Tryz.func142,Tryz.ntmps142;go_wp2_with (first | ((with_reducible refine gc_ 60 ?_);refine gl_ 5 Tryz.func60 #[.slice A0 l0.length c0] ?_;(with_reducible refine (impl_isParking.calls k _ _ l0 true _ ?s1 ?s2 A2.out).mono ?_);(case s1=>exact q201_ HR0.out);(case s2=>exact HC0.out);rintro e w5 ⟨rfl,hb⟩;refine ⟨_,rfl,?_⟩;replace HB:=am_ (below_step q0c4_ hb);clear hb) | ((with_reducible refine gc_ 201 ?_);refine gl_ 8 Tryz.func201 #[.slice A0 l0.length c0] ?_;(with_reducible refine (impl_cuts.calls k _ _ l0 t437 _ ?s1 ?s2 A4.out).mono ?_);(case s1=>exact qe02_ HR0.out);(case s2=>exact HC0.out);rintro e w6 ⟨v438,rfl,ho0,hb⟩;refine ⟨_,rfl,?_⟩;have HO439:=am_ (Kd.R_lower ho0 (below_size q0c4_));replace HB:=am_ (below_step q0c4_ hb);clear hb ho0));go_ret2;exact ⟨_,qce7_,q9d5_ HO439.out,q0c4_⟩
 subst c3;obtain ⟨rfl,rfl⟩:=sp_ H;go_enter Tryz.func142,Tryz.ntmps142;go_wp2_with (first | ((with_reducible refine gc_ 60 ?_);refine gl_ 5 Tryz.func60 #[.slice A0 l0.length c0] ?_;(with_reducible refine (impl_isParking.calls k _ _ l0 false _ ?s1 ?s2 A2.out).mono ?_);(case s1=>exact q201_ HR0.out);(case s2=>exact HC0.out);rintro e w7 ⟨rfl,hb⟩;refine ⟨_,rfl,?_⟩;replace HB:=am_ (below_step q0c4_ hb);clear hb));go_ret2;exact ⟨_,qce7_,qf62_,q0c4_⟩
def impl_RankParking.f (k:Nat) (l0:List Int):Option (Int × Bool):=(impl_isParking.f k l0).bind fun t440=>(if t440 = true then ((impl_rank.f k l0).bind fun t441=>(some (t441,true))) else (some (0,false)))
theorem impl_RankParking.calls (k:Nat) (A0:Option Addr) (c0:Nat) (l0:List Int) (r1:Int) (r2:Bool) (w:World) (hr0:Kd.C (Kd.int .i64) w A0 l0.length l0) (hc0:l0.length<=c0) (h:impl_RankParking.f k l0 = some (r1,r2)) :
  Calls Tryz.prog 144 #[.slice A0 l0.length c0] w fun e w'=>e = .returned (.tuple #[.int .i64 r1,.bool r2])/\Below w.heap.size w w':=by
 have HR0:=am_ hr0;have HC0:=am_ hc0;clear hr0 hc0;have HB:=am_ (Below.refl w.heap.size w);unfold impl_RankParking.f at h;have H:=h;clear h;obtain ⟨t440,A2,H⟩:=ob_ H;revert H;refine be_ (fun c3 H=>?_) fun c3 H=>?_
 ·
  subst c3;obtain ⟨t441,A4,H⟩:=ob_ H;obtain ⟨rfl,rfl⟩:=sp_ H;go_enter Tryz.func144,Tryz.ntmps144;go_wp2_with (first | ((with_reducible refine gc_ 60 ?_);refine gl_ 5 Tryz.func60 #[.slice A0 l0.length c0] ?_;(with_reducible refine (impl_isParking.calls k _ _ l0 true _ ?s1 ?s2 A2.out).mono ?_);(case s1=>exact q201_ HR0.out);(case s2=>exact HC0.out);rintro e w5 ⟨rfl,hb⟩;refine ⟨_,rfl,?_⟩;replace HB:=am_ (below_step q0c4_ hb);clear hb) | ((with_reducible refine gc_ 64 ?_);refine gl_ 8 Tryz.func64 #[.slice A0 l0.length c0] ?_;(with_reducible refine (impl_rank.calls k _ _ l0 t441 _ ?s1 ?s2 A4.out).mono ?_);(case s1=>exact qe02_ HR0.out);(case s2=>exact HC0.out);rintro e w6 ⟨rfl,hb⟩;refine ⟨_,rfl,?_⟩;replace HB:=am_ (below_step q0c4_ hb);clear hb));go_ret2;exact ⟨qce7_,q0c4_⟩
 subst c3;obtain ⟨rfl,rfl⟩:=sp_ H;go_enter Tryz.func144,Tryz.ntmps144;go_wp2_with (first | ((with_reducible refine gc_ 60 ?_);refine gl_ 5 Tryz.func60 #[.slice A0 l0.length c0] ?_;(with_reducible refine (impl_isParking.calls k _ _ l0 false _ ?s1 ?s2 A2.out).mono ?_);(case s1=>exact q201_ HR0.out);(case s2=>exact HC0.out);rintro e w7 ⟨rfl,hb⟩;refine ⟨_,rfl,?_⟩;replace HB:=am_ (below_step q0c4_ hb);clear hb));go_ret2;exact ⟨qce7_,q0c4_⟩
def impl_isSize.f (a0:Int):Option (Bool):=(impl_between.f a0 2 12).bind fun t442=>(some t442)
theorem impl_isSize.calls (a0:Int) (r:Bool) (w:World) (h:impl_isSize.f a0 = some r) :
  Calls Tryz.prog 94 #[.int .i64 a0] w fun e w'=>e = .returned (.bool r)/\Drawn0 w w':=by
 unfold impl_isSize.f at h;have H:=h;clear h;obtain ⟨t442,A2,H⟩:=ob_ H;obtain rfl:=Option.some.inj H;go_enter Tryz.func94,Tryz.ntmps94;go_wp2_with (first | ((with_reducible refine gc_ 101 ?_);refine gl_ 4 Tryz.func101 #[.int .i64 a0,.int .i64 2,.int .i64 12] ?_;(with_reducible refine (impl_between.calls a0 2 12 t442 _ A2.out).mono ?_);rintro e w' ⟨rfl,⟨nd,rfl⟩⟩;refine ⟨_,rfl,?_⟩));go_ret;exact ⟨qc8f_,qffa_⟩
def slices_Index_int_int.l0:Nat->List Int->Int->Int->Int->Option (Int)
 | 0,_,_,_,_=>none
 | k + 1,x0,x1,x7,x8=>if x8 < x7 then (if 0<=x8 then (if x8 < (x0.length:Int) then (if x1 = (rd x0 x8) then (some x8) else (slices_Index_int_int.l0 k x0 x1 x7 (wrap64 (x8 + 1)))) else (none)) else (none)) else (some (-1))
def slices_Index_int_int.f (k:Nat) (l0:List Int) (a1:Int):Option (Int):=slices_Index_int_int.l0 k l0 a1 (l0.length:Int) 0
theorem slices_Index_int_int.calls (k:Nat) (A0:Option Addr) (c0:Nat) (l0:List Int) (a1:Int) (r:Int) (w:World) (hr0:Kd.C (Kd.int .i64) w A0 l0.length l0) (hc0:l0.length<=c0) (h:slices_Index_int_int.f k l0 a1 = some r) :
  Calls Tryz.prog 166 #[.slice A0 l0.length c0,.int .i64 a1] w fun e w'=>e = .returned (.int .i64 r)/\Drawn0 w w':=by
 have HR0:=am_ hr0;have HC0:=am_ hc0;clear hr0 hc0;unfold slices_Index_int_int.f at h;have H:=h;clear h;have H':=am_ H;clear H;go_enter Tryz.func166,Tryz.ntmps166;go_wp2
 go_loopg [8] k (fun kq v8 w'=>∃ (x8_1:Int),v8 = .int .i64 x8_1/\Aside0 (slices_Index_int_int.l0 kq l0 a1 (l0.length:Int) x8_1 = some r)/\Aside0 (kq<=k)/\Drawn0 w w')
 case atStart=>exact ⟨(0),qc8f_,H',⟨Nat.le_refl _⟩,qffa_⟩
 case round =>
  clear H';obtain ⟨x8_1,rfl,HA,HK1,⟨m1,rfl⟩⟩:=hrel;cases gk with
  | zero=>exact n0_ HA.out
  | succ k1 =>
   have H:=HA.out;clear HA;simp only [slices_Index_int_int.l0] at H;revert H;refine ie_ (fun c3b0 H=>?_) fun c3b0 H=>?_
   ·
    revert H;refine id_ fun c4b0 H=>?_;revert H;refine id_ fun c5b0 H=>?_;revert H;refine ee_ (fun c6b0 c6b1 H=>?_) fun c6 c6b0 c6b1 H=>?_
    ·
     obtain rfl:=Option.some.inj H;obtain ⟨ad443,rfl,hx443_0,p443,q443⟩:=ri_ HR0.out x8_1;go_wp2;go_ret;exact ⟨qc8f_,qffa_⟩
    have H':=am_ H;clear H;obtain ⟨ad443,rfl,hx443_0,p443,q443⟩:=ri_ HR0.out x8_1;go_wp2;go_roundg k1
    case measure=>have:=HK1.out;omega
    case rel=>exact ⟨(wrap64 (x8_1 + 1)),qc8f_,H',⟨q1d0_ HK1.out⟩,qffa_⟩
   obtain rfl:=Option.some.inj H;go_wp2;go_ret;exact ⟨qc8f_,qffa_⟩
def slices_Contains_int_int.f (k:Nat) (l0:List Int) (a1:Int):Option (Bool):=(slices_Index_int_int.f k l0 a1).bind fun t444=>(some (decide (t444 >= 0)))
theorem slices_Contains_int_int.calls (k:Nat) (A0:Option Addr) (c0:Nat) (l0:List Int) (a1:Int) (r:Bool) (w:World) (hr0:Kd.C (Kd.int .i64) w A0 l0.length l0) (hc0:l0.length<=c0) (h:slices_Contains_int_int.f k l0 a1 = some r) :
  Calls Tryz.prog 96 #[.slice A0 l0.length c0,.int .i64 a1] w fun e w'=>e = .returned (.bool r)/\Drawn0 w w':=by
 have HR0:=am_ hr0;have HC0:=am_ hc0;clear hr0 hc0;unfold slices_Contains_int_int.f at h;have H:=h;clear h;obtain ⟨t444,A3,H⟩:=ob_ H;obtain rfl:=Option.some.inj H;go_enter Tryz.func96,Tryz.ntmps96;go_wp2_with (first | ((with_reducible refine gc_ 166 ?_);refine gl_ 7 Tryz.func166 #[.slice A0 l0.length c0,.int .i64 a1] ?_;(with_reducible refine (slices_Index_int_int.calls k _ _ l0 a1 t444 _ ?s1 ?s2 A3.out).mono ?_);(case s1=>exact q201_ HR0.out);(case s2=>exact HC0.out);rintro e w' ⟨rfl,⟨nd,rfl⟩⟩;refine ⟨_,rfl,?_⟩));go_ret;exact ⟨qc8f_,qffa_⟩
def impl_Table_cost.f (l0_0:List Int) (a1:Int):Option (Int):=if 0<=a1 then (if a1 < (l0_0.length:Int) then (if (l0_0.length:Int) = 0 then (none) else (some (Int.tmod (wrap64 ((wrap64 (a1 - (Int.tmod (rd l0_0 a1) (l0_0.length:Int)))) + (l0_0.length:Int))) (l0_0.length:Int)))) else (none)) else (none)
theorem impl_Table_cost.calls (A0_0:Option Addr) (c0_0:Nat) (l0_0:List Int) (a1:Int) (r:Int) (w:World) (hr0_0:Kd.C (Kd.int .i64) w A0_0 l0_0.length l0_0) (hc0_0:l0_0.length<=c0_0) (h:impl_Table_cost.f l0_0 a1 = some r) :
  Calls Tryz.prog 97 #[.agg #[.slice A0_0 l0_0.length c0_0],.int .i64 a1] w fun e w'=>e = .returned (.int .i64 r)/\Below w.heap.size w w':=by
 have hu34:=Tryz.underlying34;have HR0_0:=am_ hr0_0;have HC0_0:=am_ hc0_0;clear hr0_0 hc0_0;have HB:=am_ (Below.refl w.heap.size w);unfold impl_Table_cost.f at h;have H:=h;clear h;revert H;refine id_ fun c3b0 H=>?_;revert H;refine id_ fun c4b0 H=>?_;revert H;refine in_ fun c5 H=>?_;have c5b0:=beq_eq_false_iff_ne.mpr c5;have c5b1:=bne_iff_ne.mpr c5;have c5b2:¬ (l0_0 = []):=fun h_=>c5 (by rw [h_];rfl);obtain rfl:=Option.some.inj H;go_enter Tryz.func97,Tryz.ntmps97;go_wp2_with (first | ((with_reducible refine gd_ 2 ?_);refine bx_ #[.slice A0_0 l0_0.length c0_0] 34 ?_;intro gb445 hg w6 hbox hb;have BK445:=am_ (hbox);have GW445:=am_ ((by rw [hg];exact (below_size q0c4_):w.heap.size<=gb445));have GE445:=am_ ((by rw [hg];exact (below_size q0c4_):w.heap.size<=gb445));replace HB:=am_ (below_step q0c4_ hb);clear hb hbox hg;have hcz7_0:w6.cell? ⟨gb445,0,none⟩ = some (.slice A0_0 l0_0.length c0_0):=(blk_cell BK445.out 0).trans rfl;have hfz7_0:=blk_frozen BK445.out 0;have p446:0<=(a1:Int):=of_decide_eq_true qe84_;have q446:a1 < (l0_0.length:Int):=of_decide_eq_true qe84_;obtain ⟨ad446,e446,hx446_0⟩:=Kd.at_int HR0_0.out a1 p446 q446;cases e446;replace hx446_0:=(HB.out.cell (World.block_lt_of_cell? w _ hx446_0)).trans hx446_0;replace p446:=eq_true p446;replace q446:=eq_true q446));go_ret;exact ⟨qce7_,qfcd_ GE445.out⟩
mutual
def impl_isTable.j0:Nat->Bool->List Int->Option (Bool)
 | 0,_,_=>none
 | k + 1,x22,x448000=>if x22 = true then (some false) else (impl_isTable.l0 k x448000 (x448000.length:Int) 0 x448000)
def impl_isTable.l0:Nat->List Int->Int->Int->List Int->Option (Bool)
 | 0,_,_,_,_=>none
 | k + 1,x24,x25,x26,x448000=>if x26 < x25 then (if 0<=x26 then (if x26 < (x24.length:Int) then (if (rd x24 x26) < 0 then (impl_isTable.l0 k x24 x25 (wrap64 (x26 + 1)) x448000) else (if x26<=(x448000.length:Int) then ((slices_Contains_int_int.f k (x448000.take (x26:Int).toNat) (rd x24 x26)).bind fun t453=>(if t453 = true then (some false) else ((impl_Table_cost.f x448000 x26).bind fun t454=>(impl_isTable.l1 k (rd x24 x26) x24 x25 x26 t454 0 x448000)))) else (none))) else (none)) else (none)) else (some true)
def impl_isTable.l1:Nat->Int->List Int->Int->Int->Int->Int->List Int->Option (Bool)
 | 0,_,_,_,_,_,_,_=>none
 | k + 1,x4,x24,x25,x26,x41,x42,x448000=>if x42 < x41 then (if (x448000.length:Int) = 0 then (none) else (if 0<=(Int.tmod (wrap64 (x4 + x42)) (x448000.length:Int)) then (if (Int.tmod (wrap64 (x4 + x42)) (x448000.length:Int)) < (x448000.length:Int) then (if (rd x448000 (Int.tmod (wrap64 (x4 + x42)) (x448000.length:Int))) < 0 then (some false) else (impl_isTable.l1 k x4 x24 x25 x26 x41 (wrap64 (x42 + 1)) x448000)) else (none)) else (none))) else (impl_isTable.l0 k x24 x25 (wrap64 (x26 + 1)) x448000)
end
def impl_isTable.f (k:Nat) (l0_0:List Int):Option (Bool):=(impl_isSize.f (l0_0.length:Int)).bind fun t448=>(if t448 = true then ((impl_areBetween.f l0_0 (-1) 999).bind fun t449=>(if t449 = true then ((slices_Contains_int_int.f k l0_0 (-1)).bind fun t450=>(impl_isTable.j0 k (!t450) l0_0)) else (impl_isTable.j0 k true l0_0))) else (impl_isTable.j0 k true l0_0))
theorem impl_isTable.calls (k:Nat) (A0_0:Option Addr) (c0_0:Nat) (l0_0:List Int) (r:Bool) (w:World) (hr0_0:Kd.C (Kd.int .i64) w A0_0 l0_0.length l0_0) (hc0_0:l0_0.length<=c0_0) (h:impl_isTable.f k l0_0 = some r) :
  Calls Tryz.prog 61 #[.agg #[.slice A0_0 l0_0.length c0_0]] w fun e w'=>e = .returned (.bool r)/\Below w.heap.size w w':=by
 have hu34:=Tryz.underlying34;have HR0_0:=am_ hr0_0;have HC0_0:=am_ hc0_0;clear hr0_0 hc0_0;have HB:=am_ (Below.refl w.heap.size w);unfold impl_isTable.f at h;have H:=h;clear h;have HC2:=am_ H;clear H;go_enter Tryz.func61,Tryz.ntmps61;have zz_:=trivial
 repeat (clear zz_;go_upto_region 1 with (first | ((with_reducible refine gd_ 1 ?_);refine bx_ #[.slice A0_0 l0_0.length c0_0] 34 ?_;intro gb447 hg w3 hbox hb;have BK447:=am_ (hbox);have GW447:=am_ ((by rw [hg];exact (below_size q0c4_):w.heap.size<=gb447));have GE447:=am_ ((by rw [hg];exact (below_size q0c4_):w.heap.size<=gb447));replace HB:=am_ (below_step q0c4_ hb);clear hb hbox hg));try (go_quiet (fail);have zz_:=trivial))
 (try simp only [Act.put,List.setIfInBounds_toArray,List.set_cons_zero,List.set_cons_succ])
 go_cut [22] (fun v22 wc=>∃ (kq:Nat) (x22_1:Bool),v22 = .bool x22_1/\Aside0 (impl_isTable.j0 kq x22_1 l0_0 = some r)/\Aside0 (kq<=k)/\Aside0 (wc.heap[gb447]? = some (.cells #[(.slice A0_0 l0_0.length c0_0)] 34 (0,0)))/\Aside0 (Below w.heap.size w wc))
 case first =>
  have H:=HC2.out;clear HC2;obtain ⟨t448,A4,H⟩:=ob_ H;revert H;refine be_ (fun c5 H=>?_) fun c5 H=>?_
  ·
   subst c5;obtain ⟨t449,A6,H⟩:=ob_ H;revert H;refine be_ (fun c7 H=>?_) fun c7 H=>?_
   ·
    subst c7;obtain ⟨t450,A8,H⟩:=ob_ H;have H':=am_ H;clear H;have hcz9_0:w3.cell? ⟨gb447,0,none⟩ = some (.slice A0_0 l0_0.length c0_0):=(blk_cell BK447.out 0).trans rfl;have hfz9_0:=blk_frozen BK447.out 0;have zz_:=trivial
    repeat (clear zz_;go_wp2_with (first | (go_at_call 94;(with_reducible refine (impl_isSize.calls (l0_0.length:Int) true _ A4.out).mono ?_);rintro e w' ⟨rfl,⟨nd,rfl⟩⟩;(try exact q447_)) | (go_at_call 95;(with_reducible refine (impl_areBetween.calls _ _ l0_0 (-1) 999 true _ ?s1 ?s2 A6.out).mono ?_);(case s1=>exact q28c_ HR0_0.out GE447.out);(case s2=>exact HC0_0.out);rintro e w10 ⟨rfl,hb⟩;replace BK447:=am_ (blk_below (g:=gb447) (o:=.cells #[.slice A0_0 l0_0.length c0_0] 34 (0,0)) (q66c_ BK447.out) hb);replace HB:=am_ (below_step (qfcd_ GE447.out) hb);clear hb;have hcz11_0:w10.cell? ⟨gb447,0,none⟩ = some (.slice A0_0 l0_0.length c0_0):=(blk_cell BK447.out 0).trans rfl;have hfz11_0:=blk_frozen BK447.out 0) | (go_at_call 96;(with_reducible refine (slices_Contains_int_int.calls k _ _ l0_0 (-1) t450 _ ?s1 ?s2 A8.out).mono ?_);(case s1=>exact qe02_ HR0_0.out);(case s2=>exact HC0_0.out);rintro e w' ⟨rfl,⟨nd,rfl⟩⟩;(try exact q447_)));try (go_quiet (first | (go_at_call 94;(with_reducible refine (impl_isSize.calls (l0_0.length:Int) true _ A4.out).mono ?_);rintro e w' ⟨rfl,⟨nd,rfl⟩⟩;(try exact q447_)) | (go_at_call 96;(with_reducible refine (slices_Contains_int_int.calls k _ _ l0_0 (-1) t450 _ ?s1 ?s2 A8.out).mono ?_);(case s1=>exact qe02_ HR0_0.out);(case s2=>exact HC0_0.out);rintro e w' ⟨rfl,⟨nd,rfl⟩⟩;(try exact q447_)));have zz_:=trivial))
    go_meet
    case rel=>exact ⟨_,(!t450),qc8f_,H',⟨q821_⟩,⟨q66c_ BK447.out⟩,⟨qfcd_ GE447.out⟩⟩
   subst c7;have H':=am_ H;clear H;have hcz12_0:w3.cell? ⟨gb447,0,none⟩ = some (.slice A0_0 l0_0.length c0_0):=(blk_cell BK447.out 0).trans rfl;have hfz12_0:=blk_frozen BK447.out 0;have zz_:=trivial
   repeat (clear zz_;go_wp2_with (first | (go_at_call 94;(with_reducible refine (impl_isSize.calls (l0_0.length:Int) true _ A4.out).mono ?_);rintro e w' ⟨rfl,⟨nd,rfl⟩⟩;(try exact q447_)) | (go_at_call 95;(with_reducible refine (impl_areBetween.calls _ _ l0_0 (-1) 999 false _ ?s1 ?s2 A6.out).mono ?_);(case s1=>exact q28c_ HR0_0.out GE447.out);(case s2=>exact HC0_0.out);rintro e w13 ⟨rfl,hb⟩;replace BK447:=am_ (blk_below (g:=gb447) (o:=.cells #[.slice A0_0 l0_0.length c0_0] 34 (0,0)) (q66c_ BK447.out) hb);replace HB:=am_ (below_step (qfcd_ GE447.out) hb);clear hb));try (go_quiet ((go_at_call 94;(with_reducible refine (impl_isSize.calls (l0_0.length:Int) true _ A4.out).mono ?_);rintro e w' ⟨rfl,⟨nd,rfl⟩⟩;(try exact q447_)));have zz_:=trivial))
   go_meet
   case rel=>exact ⟨_,(true),qc8f_,H',⟨q821_⟩,⟨q66c_ BK447.out⟩,⟨qfcd_ GE447.out⟩⟩
  subst c5;have H':=am_ H;clear H;have hcz14_0:w3.cell? ⟨gb447,0,none⟩ = some (.slice A0_0 l0_0.length c0_0):=(blk_cell BK447.out 0).trans rfl;have hfz14_0:=blk_frozen BK447.out 0;have zz_:=trivial
  repeat (clear zz_;go_wp2_with (first | (go_at_call 94;(with_reducible refine (impl_isSize.calls (l0_0.length:Int) false _ A4.out).mono ?_);rintro e w' ⟨rfl,⟨nd,rfl⟩⟩;(try exact q447_)));try (go_quiet ((go_at_call 94;(with_reducible refine (impl_isSize.calls (l0_0.length:Int) false _ A4.out).mono ?_);rintro e w' ⟨rfl,⟨nd,rfl⟩⟩;(try exact q447_)));have zz_:=trivial))
  go_meet
  case rel=>exact ⟨_,(true),qc8f_,H',⟨q821_⟩,⟨q66c_ BK447.out⟩,⟨qfcd_ GE447.out⟩⟩
 case rest =>
  clear HC2;obtain ⟨kq,x22_1,rfl,HA,HJ1,BK447,HB⟩:=hcut;cases kq with
  | zero=>exact n0_ HA.out
  | succ kj1 =>
   have H:=HA.out;clear HA;simp only [impl_isTable.j0] at H;revert H;refine be_ (fun c15 H=>?_) fun c15 H=>?_
   ·
    subst c15;obtain rfl:=Option.some.inj H;go_wp2
    repeat (go_quiet (fail);try go_wp2)
    go_ret;exact ⟨qce7_,qfcd_ GE447.out⟩
   subst c15;have H':=am_ H;clear H;have hcz16_0:wc.cell? ⟨gb447,0,none⟩ = some (.slice A0_0 l0_0.length c0_0):=(blk_cell BK447.out 0).trans rfl;have hfz16_0:=blk_frozen BK447.out 0;go_wp2
   repeat (go_quiet (fail);try go_wp2)
   go_loopg [26] kj1 (fun kq v26 w'=>∃ (x26_2:Int),v26 = .int .i64 x26_2/\Aside0 (impl_isTable.l0 kq l0_0 (l0_0.length:Int) x26_2 l0_0 = some r)/\Aside0 (kq<=kj1)/\Aside0 (w'.heap[gb447]? = some (.cells #[(.slice A0_0 l0_0.length c0_0)] 34 (0,0)))/\Aside0 (Below w.heap.size w w'))
   case atStart=>exact ⟨(0),qc8f_,H',⟨Nat.le_refl _⟩,⟨q66c_ BK447.out⟩,⟨qfcd_ GE447.out⟩⟩
   case round =>
    clear H';obtain ⟨x26_2,rfl,HA,HK2,BK447,HB⟩:=hrel;cases gk with
    | zero=>exact n0_ HA.out
    | succ k2 =>
     have H:=HA.out;clear HA;simp only [impl_isTable.l0] at H;revert H;refine ie_ (fun c17b0 H=>?_) fun c17b0 H=>?_
     ·
      revert H;refine id_ fun c18b0 H=>?_;revert H;refine id_ fun c19b0 H=>?_;revert H;refine ie_ (fun c20b0 H=>?_) fun c20b0 H=>?_
      ·
       have H':=am_ H;clear H;obtain ⟨ad451,rfl,hx451_0,p451,q451⟩:=ri_ HR0_0.out x26_2
       (try (replace hx451_0:=(HB.out.cell (World.block_lt_of_cell? w _ hx451_0)).trans hx451_0))
       go_wp2
       repeat (go_quiet (fail);try go_wp2)
       go_roundg k2
       case measure=>have:=HJ1.out;have:=HK2.out;omega
       case rel=>exact ⟨(wrap64 (x26_2 + 1)),qc8f_,H',⟨q37b_ HJ1.out HK2.out⟩,⟨q66c_ BK447.out⟩,⟨qfcd_ GE447.out⟩⟩
      have c21b0:=eq_true (of_decide_eq_true qe84_:0<=x26_2);revert H;refine i2_ fun c22b0 c22b1 H=>?_;obtain ⟨t453,A23,H⟩:=ob_ H;revert H;refine be_ (fun c24 H=>?_) fun c24 H=>?_
      ·
       subst c24;obtain rfl:=Option.some.inj H;obtain ⟨ad451,rfl,hx451_0,p451,q451⟩:=ri_ HR0_0.out x26_2
       (try (replace hx451_0:=(HB.out.cell (World.block_lt_of_cell? w _ hx451_0)).trans hx451_0))
       have hcz25_0:wr.cell? ⟨gb447,0,none⟩ = some (.slice (some ad451) l0_0.length c0_0):=(blk_cell BK447.out 0).trans rfl;have hfz25_0:=blk_frozen BK447.out 0;obtain ⟨i026,hi026,_,hsz26,_⟩:=info_parts info3;obtain ⟨hcut26,hA26,hC26⟩:=print_take_of (P:=Tryz.prog) (Value.int .i64) 0 22 3 .i64 Tryz.underlying22 hi026 hsz26 (some ad451) c0_0 l0_0 x26_2 (of_decide_eq_true qe84_) (of_decide_eq_true qe84_) HC0_0.out
       have hlen26:(l0_0.take (x26_2:Int).toNat).length = (x26_2:Int).toNat:=by
        have h1:0<=(x26_2:Int):=of_decide_eq_true qe84_;have h2:(x26_2:Int)<=(l0_0.length:Int):=of_decide_eq_true qe84_;rw [List.length_take];omega
       have HR452:=am_ (Kd.C_of_reads (h1:=fun _=>rfl) (hA26 _ (Kd.reads_of_C HR0_0.out)));have HC452:=am_ hC26;clear hA26 hC26 hi026 hsz26;have zz_:=trivial
       repeat (clear zz_;go_wp2_with (first | (go_at_call 96;(try rw [<- hlen26]);(with_reducible refine (slices_Contains_int_int.calls k2 _ _ (l0_0.take (x26_2:Int).toNat) (rd l0_0 x26_2) true _ ?s1 ?s2 A23.out).mono ?_);(case s1=>exact qe02_ HR452.out);(case s2=>exact HC452.out);rintro e w' ⟨rfl,⟨nd,rfl⟩⟩;(try exact q447_)));try (go_quiet ((go_at_call 96;(try rw [<- hlen26]);(with_reducible refine (slices_Contains_int_int.calls k2 _ _ (l0_0.take (x26_2:Int).toNat) (rd l0_0 x26_2) true _ ?s1 ?s2 A23.out).mono ?_);(case s1=>exact qe02_ HR452.out);(case s2=>exact HC452.out);rintro e w' ⟨rfl,⟨nd,rfl⟩⟩;(try exact q447_)));have zz_:=trivial))
       go_ret;exact ⟨qce7_,qfcd_ GE447.out⟩
      subst c24;obtain ⟨t454,A27,H⟩:=ob_ H;have H':=am_ H;clear H;obtain ⟨ad451,rfl,hx451_0,p451,q451⟩:=ri_ HR0_0.out x26_2
      (try (replace hx451_0:=(HB.out.cell (World.block_lt_of_cell? w _ hx451_0)).trans hx451_0))
      have hcz28_0:wr.cell? ⟨gb447,0,none⟩ = some (.slice (some ad451) l0_0.length c0_0):=(blk_cell BK447.out 0).trans rfl;have hfz28_0:=blk_frozen BK447.out 0;obtain ⟨i029,hi029,_,hsz29,_⟩:=info_parts info3;obtain ⟨hcut29,hA29,hC29⟩:=print_take_of (P:=Tryz.prog) (Value.int .i64) 0 22 3 .i64 Tryz.underlying22 hi029 hsz29 (some ad451) c0_0 l0_0 x26_2 (of_decide_eq_true qe84_) (of_decide_eq_true qe84_) HC0_0.out
      have hlen29:(l0_0.take (x26_2:Int).toNat).length = (x26_2:Int).toNat:=by
       have h1:0<=(x26_2:Int):=of_decide_eq_true qe84_;have h2:(x26_2:Int)<=(l0_0.length:Int):=of_decide_eq_true qe84_;rw [List.length_take];omega
      have HR452:=am_ (Kd.C_of_reads (h1:=fun _=>rfl) (hA29 _ (Kd.reads_of_C HR0_0.out)));have HC452:=am_ hC29;clear hA29 hC29 hi029 hsz29;have zz_:=trivial
      repeat (clear zz_;go_wp2_with (first | (go_at_call 96;(try rw [<- hlen29]);(with_reducible refine (slices_Contains_int_int.calls k2 _ _ (l0_0.take (x26_2:Int).toNat) (rd l0_0 x26_2) false _ ?s1 ?s2 A23.out).mono ?_);(case s1=>exact qe02_ HR452.out);(case s2=>exact HC452.out);rintro e w' ⟨rfl,⟨nd,rfl⟩⟩;(try exact q447_)) | (go_at_call 97;(with_reducible refine (impl_Table_cost.calls _ _ l0_0 x26_2 t454 _ ?s1 ?s2 A27.out).mono ?_);(case s1=>exact q28c_ HR0_0.out GE447.out);(case s2=>exact HC0_0.out);rintro e w30 ⟨rfl,hb⟩;replace BK447:=am_ (blk_below (g:=gb447) (o:=.cells #[.slice (some ad451) l0_0.length c0_0] 34 (0,0)) (q66c_ BK447.out) hb);replace HB:=am_ (below_step (qfcd_ GE447.out) hb);clear hb));try (go_quiet ((go_at_call 96;(try rw [<- hlen29]);(with_reducible refine (slices_Contains_int_int.calls k2 _ _ (l0_0.take (x26_2:Int).toNat) (rd l0_0 x26_2) false _ ?s1 ?s2 A23.out).mono ?_);(case s1=>exact qe02_ HR452.out);(case s2=>exact HC452.out);rintro e w' ⟨rfl,⟨nd,rfl⟩⟩;(try exact q447_)));have zz_:=trivial))
      go_loopg [42] k2 (fun kq v42 w'=>∃ (x42_3:Int),v42 = .int .i64 x42_3/\Aside0 (impl_isTable.l1 kq (rd l0_0 x26_2) l0_0 (l0_0.length:Int) x26_2 t454 x42_3 l0_0 = some r)/\Aside0 (kq<=k2)/\Aside0 (w'.heap[gb447]? = some (.cells #[(.slice (some ad451) l0_0.length c0_0)] 34 (0,0)))/\Aside0 (Below w.heap.size w w'))
      case atStart=>exact ⟨(0),qc8f_,H',⟨Nat.le_refl _⟩,⟨q66c_ BK447.out⟩,⟨qfcd_ GE447.out⟩⟩
      case round =>
       clear H';obtain ⟨x42_3,rfl,HA,HK3,BK447,HB⟩:=hrel;cases gk with
       | zero=>exact n0_ HA.out
       | succ k3 =>
        have H:=HA.out;clear HA;simp only [impl_isTable.l1] at H;revert H;refine ie_ (fun c31b0 H=>?_) fun c31b0 H=>?_
        ·
         revert H;refine in_ fun c32 H=>?_;have c32b0:=beq_eq_false_iff_ne.mpr c32;have c32b1:=bne_iff_ne.mpr c32;have c32b2:¬ (l0_0 = []):=fun h_=>c32 (by rw [h_];rfl);obtain ⟨ji33,hji33⟩:∃ j_:Int,(Int.tmod (wrap64 ((rd l0_0 x26_2) + x42_3)) (l0_0.length:Int)) = j_:=⟨_,rfl⟩;replace H:(if 0<=(ji33) then (if (ji33) < (l0_0.length:Int) then (if (rd l0_0 (ji33)) < 0 then (some false) else (impl_isTable.l1 k3 (rd l0_0 x26_2) l0_0 (l0_0.length:Int) x26_2 t454 (wrap64 (x42_3 + 1)) l0_0)) else (none)) else (none)) = some r:=by first | (rw [hji33] at H;exact H) | (simp only [hji33] at H ⊢;exact H)
         revert H;refine id_ fun c34b0 H=>?_;revert H;refine id_ fun c35b0 H=>?_;revert H;refine ie_ (fun c36b0 H=>?_) fun c36b0 H=>?_
         ·
          obtain rfl:=Option.some.inj H;have hcz37_0:wr.cell? ⟨gb447,0,none⟩ = some (.slice (some ad451) l0_0.length c0_0):=(blk_cell BK447.out 0).trans rfl;have hfz37_0:=blk_frozen BK447.out 0;have p455:0<=((ji33):Int):=of_decide_eq_true qe84_;have q455:(ji33) < (l0_0.length:Int):=of_decide_eq_true qe84_;obtain ⟨ad455,e455,hx455_0⟩:=Kd.at_int HR0_0.out (ji33) p455 q455;obtain rfl:ad451 = ad455:=(by injection e455)
          (try (replace hx455_0:=(HB.out.cell (World.block_lt_of_cell? w _ hx455_0)).trans hx455_0))
          replace p455:=eq_true p455;replace q455:=eq_true q455;go_wp2
          repeat (go_quiet (fail);try go_wp2)
          go_ret;exact ⟨by first | rfl | (simp [errW_none,errW_some] <;> rfl) | (simp only [<- hji33];first | rfl | (simp [errW_none,errW_some] <;> rfl)) | (simp [*,errW_none,errW_some] <;> rfl),qfcd_ GE447.out⟩
         have H':=am_ H;clear H;have hcz38_0:wr.cell? ⟨gb447,0,none⟩ = some (.slice (some ad451) l0_0.length c0_0):=(blk_cell BK447.out 0).trans rfl;have hfz38_0:=blk_frozen BK447.out 0;have p455:0<=((ji33):Int):=of_decide_eq_true qe84_;have q455:(ji33) < (l0_0.length:Int):=of_decide_eq_true qe84_;obtain ⟨ad455,e455,hx455_0⟩:=Kd.at_int HR0_0.out (ji33) p455 q455;obtain rfl:ad451 = ad455:=(by injection e455)
         (try (replace hx455_0:=(HB.out.cell (World.block_lt_of_cell? w _ hx455_0)).trans hx455_0))
         replace p455:=eq_true p455;replace q455:=eq_true q455;go_wp2
         repeat (go_quiet (fail);try go_wp2)
         go_roundg k3
         case measure=>have:=HJ1.out;have:=HK2.out;have:=HK3.out;omega
         case rel=>exact ⟨(wrap64 (x42_3 + 1)),qc8f_,H',⟨q0e9_ HJ1.out HK2.out HK3.out⟩,⟨q66c_ BK447.out⟩,⟨qfcd_ GE447.out⟩⟩
        have H':=am_ H;clear H;go_wp2
        repeat (go_quiet (fail);try go_wp2)
        go_roundg k3
        case measure=>have:=HJ1.out;have:=HK2.out;have:=HK3.out;omega
        case rel=>exact ⟨(wrap64 (x26_2 + 1)),qc8f_,H',⟨q0e9_ HJ1.out HK2.out HK3.out⟩,⟨q66c_ BK447.out⟩,⟨qfcd_ GE447.out⟩⟩
     obtain rfl:=Option.some.inj H;go_wp2
     repeat (go_quiet (fail);try go_wp2)
     go_ret;exact ⟨qce7_,qfcd_ GE447.out⟩
def impl_total.l0:Nat->Int->List Int->Int->Int->Option (Int)
 | 0,_,_,_,_=>none
 | k + 1,x3,x6,x7,x8=>if x8 < x7 then (if 0<=x8 then (if x8 < (x6.length:Int) then (impl_total.l0 k (wrap64 (x3 + (rd x6 x8))) x6 x7 (wrap64 (x8 + 1))) else (none)) else (none)) else (some x3)
def impl_total.f (k:Nat) (l0:List Int):Option (Int):=impl_total.l0 k 0 l0 (l0.length:Int) 0
theorem impl_total.calls (k:Nat) (A0:Option Addr) (c0:Nat) (l0:List Int) (r:Int) (w:World) (hr0:Kd.C (Kd.int .i64) w A0 l0.length l0) (hc0:l0.length<=c0) (h:impl_total.f k l0 = some r) :
  Calls Tryz.prog 202 #[.slice A0 l0.length c0] w fun e w'=>e = .returned (.int .i64 r)/\Drawn0 w w':=by
 have HR0:=am_ hr0;have HC0:=am_ hc0;clear hr0 hc0;unfold impl_total.f at h;have H:=h;clear h;have H':=am_ H;clear H;go_enter Tryz.func202,Tryz.ntmps202;go_wp2
 go_loopg [3,8] k (fun kq v3 v8 w'=>∃ (x3_1:Int) (x8_1:Int),v3 = .int .i64 x3_1/\v8 = .int .i64 x8_1/\Aside0 (impl_total.l0 kq x3_1 l0 (l0.length:Int) x8_1 = some r)/\Aside0 (kq<=k)/\Drawn0 w w')
 case atStart=>exact ⟨(0),(0),qc8f_,qc8f_,H',⟨Nat.le_refl _⟩,qffa_⟩
 case round =>
  clear H';obtain ⟨x3_1,x8_1,rfl,rfl,HA,HK1,⟨m1,rfl⟩⟩:=hrel;cases gk with
  | zero=>exact n0_ HA.out
  | succ k1 =>
   have H:=HA.out;clear HA;simp only [impl_total.l0] at H;revert H;refine ie_ (fun c2b0 H=>?_) fun c2b0 H=>?_
   ·
    revert H;refine id_ fun c3b0 H=>?_;revert H;refine id_ fun c4b0 H=>?_;have H':=am_ H;clear H;obtain ⟨ad456,rfl,hx456_0,p456,q456⟩:=ri_ HR0.out x8_1;go_wp2;go_roundg k1
    case measure=>have:=HK1.out;omega
    case rel=>exact ⟨(wrap64 (x3_1 + (rd l0 x8_1))),(wrap64 (x8_1 + 1)),qc8f_,qc8f_,H',⟨q1d0_ HK1.out⟩,qffa_⟩
   obtain rfl:=Option.some.inj H;go_wp2;go_ret;exact ⟨qc8f_,qffa_⟩
mutual
def impl_JoinParking.j0:Nat->List Int->List Int->Bool->Option (List Int × Bool)
 | 0,_,_,_=>none
 | k + 1,x0,x1,x24=>if x24 = true then (some (([]:List Int),false)) else ((slices_Clone_int_int.f x0).bind fun t467=>(impl_JoinParking.l0 k x0 t467 x1 (x1.length:Int) 0))
def impl_JoinParking.l0:Nat->List Int->List Int->List Int->Int->Int->Option (List Int × Bool)
 | 0,_,_,_,_,_=>none
 | k + 1,x0,x6,x27,x28,x29=>if x29 < x28 then (if 0<=x29 then (if x29 < (x27.length:Int) then (if x6.length < 17592186044416 then (impl_JoinParking.l0 k x0 (x6 ++ [wrap64 ((rd x27 x29) + (x0.length:Int))]) x27 x28 (wrap64 (x29 + 1))) else (none)) else (none)) else (none)) else (some (x6,true))
end
def impl_JoinParking.f (k:Nat) (l0:List Int) (l1:List Int):Option (List Int × Bool):=(impl_isParking.f k l0).bind fun t465=>(if t465 = true then ((impl_isParking.f k l1).bind fun t466=>(if t466 = true then (impl_JoinParking.j0 k l0 l1 (decide ((wrap64 ((l0.length:Int) + (l1.length:Int))) > 8))) else (impl_JoinParking.j0 k l0 l1 true))) else (impl_JoinParking.j0 k l0 l1 true))
theorem impl_JoinParking.calls (k:Nat) (A0:Option Addr) (c0:Nat) (l0:List Int) (A1:Option Addr) (c1:Nat) (l1:List Int) (r1:List Int) (r2:Bool) (w:World) (hr0:Kd.C (Kd.int .i64) w A0 l0.length l0) (hc0:l0.length<=c0) (hr1:Kd.C (Kd.int .i64) w A1 l1.length l1) (hc1:l1.length<=c1) (h:impl_JoinParking.f k l0 l1 = some (r1,r2)) :
  Calls Tryz.prog 148 #[.slice A0 l0.length c0,.slice A1 l1.length c1] w fun e w'=>∃ v0_:Value,e = .returned (.tuple #[v0_,.bool r2])/\Kd.R (Kd.int .i64) 3 w' w.heap.size (fun _=>True) v0_ r1/\Below w.heap.size w w':=by
 have HR0:=am_ hr0;have HC0:=am_ hc0;clear hr0 hc0;have HR1:=am_ hr1;have HC1:=am_ hc1;clear hr1 hc1;have HB:=am_ (Below.refl w.heap.size w);unfold impl_JoinParking.f at h;have H:=h;clear h;have HC3:=am_ H;clear H;go_enter Tryz.func148,Tryz.ntmps148
 go_upto_region 1 with (fail)
 go_cut [24] (fun v24 wc=>∃ (kq:Nat) (x24_2:Bool),v24 = .bool x24_2/\Aside0 (impl_JoinParking.j0 kq l0 l1 x24_2 = some (r1,r2))/\Aside0 (kq<=k)/\Aside0 (Below w.heap.size w wc))
 case first =>
  have H:=HC3.out;clear HC3;obtain ⟨t465,A4,H⟩:=ob_ H;revert H;refine be_ (fun c5 H=>?_) fun c5 H=>?_
  ·
   subst c5;obtain ⟨t466,A6,H⟩:=ob_ H;revert H;refine be_ (fun c7 H=>?_) fun c7 H=>?_
   ·
    subst c7;have H':=am_ H;clear H;go_wp2_with (first | ((with_reducible refine gc_ 60 ?_);refine gl_ 10 Tryz.func60 #[.slice A0 l0.length c0] ?_;(with_reducible refine (impl_isParking.calls k _ _ l0 true _ ?s1 ?s2 A4.out).mono ?_);(case s1=>exact qe02_ HR0.out);(case s2=>exact HC0.out);rintro e w8 ⟨rfl,hb⟩;refine ⟨_,rfl,?_⟩;replace HB:=am_ (below_step q0c4_ hb);clear hb) | (go_at_call 60;(with_reducible refine (impl_isParking.calls k _ _ l1 true _ ?s1 ?s2 A6.out).mono ?_);(case s1=>exact qe02_ HR1.out);(case s2=>exact HC1.out);rintro e w9 ⟨rfl,hb⟩;replace HB:=am_ (below_step q0c4_ hb);clear hb));go_meet
    case rel=>exact ⟨_,(decide ((wrap64 ((l0.length:Int) + (l1.length:Int))) > 8)),qc8f_,H',⟨q821_⟩,⟨q0c4_⟩⟩
   subst c7;have H':=am_ H;clear H;go_wp2_with (first | ((with_reducible refine gc_ 60 ?_);refine gl_ 10 Tryz.func60 #[.slice A0 l0.length c0] ?_;(with_reducible refine (impl_isParking.calls k _ _ l0 true _ ?s1 ?s2 A4.out).mono ?_);(case s1=>exact qe02_ HR0.out);(case s2=>exact HC0.out);rintro e w10 ⟨rfl,hb⟩;refine ⟨_,rfl,?_⟩;replace HB:=am_ (below_step q0c4_ hb);clear hb) | (go_at_call 60;(with_reducible refine (impl_isParking.calls k _ _ l1 false _ ?s1 ?s2 A6.out).mono ?_);(case s1=>exact qe02_ HR1.out);(case s2=>exact HC1.out);rintro e w11 ⟨rfl,hb⟩;replace HB:=am_ (below_step q0c4_ hb);clear hb));go_meet
   case rel=>exact ⟨_,(true),qc8f_,H',⟨q821_⟩,⟨q0c4_⟩⟩
  subst c5;have H':=am_ H;clear H;go_wp2_with (first | ((with_reducible refine gc_ 60 ?_);refine gl_ 10 Tryz.func60 #[.slice A0 l0.length c0] ?_;(with_reducible refine (impl_isParking.calls k _ _ l0 false _ ?s1 ?s2 A4.out).mono ?_);(case s1=>exact qe02_ HR0.out);(case s2=>exact HC0.out);rintro e w12 ⟨rfl,hb⟩;refine ⟨_,rfl,?_⟩;replace HB:=am_ (below_step q0c4_ hb);clear hb));go_meet
  case rel=>exact ⟨_,(true),qc8f_,H',⟨q821_⟩,⟨q0c4_⟩⟩
 case rest =>
  clear HC3;obtain ⟨kq,x24_2,rfl,HA,HJ2,HB⟩:=hcut;cases kq with
  | zero=>exact n0_ HA.out
  | succ kj2 =>
   have H:=HA.out;clear HA;simp only [impl_JoinParking.j0] at H;revert H;refine be_ (fun c13 H=>?_) fun c13 H=>?_
   ·
    subst c13;obtain ⟨rfl,rfl⟩:=sp_ H;go_wp2;go_ret2;exact ⟨_,qce7_,qf62_,q0c4_⟩
   subst c13;obtain ⟨t467,A14,H⟩:=ob_ H;have H':=am_ H;clear H;go_wp2_with (first | ((with_reducible refine gc_ 53 ?_);refine gl_ 26 Tryz.func53 #[.slice A0 l0.length c0] ?_;(with_reducible refine (slices_Clone_int_int.calls _ _ l0 t467 _ ?s1 ?s2 A14.out).mono ?_);(case s1=>exact qe02_ HR0.out);(case s2=>exact HC0.out);rintro e w15 ⟨v468,rfl,ho0,hb⟩;refine ⟨_,rfl,?_⟩;have HO469:=am_ (Kd.R_lower ho0 (below_size q0c4_));replace HB:=am_ (below_step q0c4_ hb);clear hb ho0))
   go_loopg [6,29] kj2 (fun kq v6 v29 w'=>∃ (x6_2:List Int) (x29_2:Int),v29 = .int .i64 x29_2/\Aside0 (impl_JoinParking.l0 kq l0 x6_2 l1 (l1.length:Int) x29_2 = some (r1,r2))/\Aside0 (kq<=kj2)/\Aside0 (Kd.R (Kd.int .i64) 3 w' w.heap.size (fun _=>True) v6 x6_2)/\Aside0 (Below w.heap.size w w'))
   case atStart=>exact ⟨(t467),(0),qc8f_,H',⟨Nat.le_refl _⟩,⟨q9d5_ HO469.out⟩,⟨q0c4_⟩⟩
   case round =>
    clear H';obtain ⟨x6_2,x29_2,rfl,HA,HK2,HO_6,HB⟩:=hrel;cases gk with
    | zero=>exact n0_ HA.out
    | succ k2 =>
     have H:=HA.out;clear HA;simp only [impl_JoinParking.l0] at H;revert H;refine ie_ (fun c16b0 H=>?_) fun c16b0 H=>?_
     ·
      revert H;refine id_ fun c17b0 H=>?_;revert H;refine id_ fun c18b0 H=>?_;revert H;refine it_ fun c19 H=>?_;have LMc19:=am_ c19;clear c19;obtain ⟨y471,hy471⟩:=gn_ ((x6_2 ++ [wrap64 ((rd l1 x29_2) + (l0.length:Int))]):List Int);replace H:(impl_JoinParking.l0 k2 l0 y471 l1 (l1.length:Int) (wrap64 (x29_2 + 1))) = some (r1,r2):=rl_ hy471 H;have Ny471:=am_ hy471;clear hy471;have H':=am_ H;clear H;obtain ⟨ad470,rfl,hx470_0,p470,q470⟩:=ri_ HR1.out x29_2
      (try (replace hx470_0:=(HB.out.cell (World.block_lt_of_cell? w _ hx470_0)).trans hx470_0))
      go_wp2_with (first | ((with_reducible refine gate_builtin (b:=.append) (xs:=#[.tmp 33,.tmp 38]) rfl ?_);(try (refine gate_guard (by rfl) ?_;dsimp only));at_builtin;refine aI_ (w0:=w) (.tmp 33) (.tmp 38) u6 x6_2 (wrap64 ((rd l1 x29_2) + (l0.length:Int))) (fun _=>True) (fun _ _=>trivial) (q9d5_ HO_6.out) q0c4_ (by exact q1d0_ LMc19.out) ?_;intro v472 w20 ho hb hg hat;rw [<- Ny471.out] at ho;replace HB:=am_ (hb);have HO473:=am_ (ho);clear ho hb hg hat));go_roundg k2
      case measure=>have:=HJ2.out;have:=HK2.out;omega
      case rel=>exact ⟨(y471),(wrap64 (x29_2 + 1)),qc8f_,H',⟨q37b_ HJ2.out HK2.out⟩,⟨q9d5_ HO473.out⟩,⟨q0c4_⟩⟩
     obtain ⟨rfl,rfl⟩:=sp_ H;go_wp2;go_ret2;exact ⟨_,qce7_,q9d5_ HO_6.out,q0c4_⟩
def impl_isCircle.f (l0:List Int):Option (Bool):=(impl_isCars.f (l0.length:Int)).bind fun t474=>(if t474 = true then ((impl_areBetween.f l0 0 (l0.length:Int)).bind fun t475=>(some t475)) else (some false))
theorem impl_isCircle.calls (A0:Option Addr) (c0:Nat) (l0:List Int) (r:Bool) (w:World) (hr0:Kd.C (Kd.int .i64) w A0 l0.length l0) (hc0:l0.length<=c0) (h:impl_isCircle.f l0 = some r) :
  Calls Tryz.prog 207 #[.slice A0 l0.length c0] w fun e w'=>e = .returned (.bool r)/\Below w.heap.size w w':=by
 have HR0:=am_ hr0;have HC0:=am_ hc0;clear hr0 hc0;have HB:=am_ (Below.refl w.heap.size w);unfold impl_isCircle.f at h;have H:=h;clear h;obtain ⟨t474,A2,H⟩:=ob_ H;revert H;refine be_ (fun c3 H=>?_) fun c3 H=>?_
 ·
  subst c3;obtain ⟨t475,A4,H⟩:=ob_ H;obtain rfl:=Option.some.inj H;go_enter Tryz.func207,Tryz.ntmps207;go_wp2_with (first | ((with_reducible refine gc_ 100 ?_);refine gl_ 5 Tryz.func100 #[.int .i64 (l0.length:Int)] ?_;(with_reducible refine (impl_isCars.calls (l0.length:Int) true _ A2.out).mono ?_);rintro e w' ⟨rfl,⟨nd,rfl⟩⟩;refine ⟨_,rfl,?_⟩) | (go_at_call 95;(with_reducible refine (impl_areBetween.calls _ _ l0 0 (l0.length:Int) t475 _ ?s1 ?s2 A4.out).mono ?_);(case s1=>exact q201_ HR0.out);(case s2=>exact HC0.out);rintro e w5 ⟨rfl,hb⟩;replace HB:=am_ (below_step q0c4_ hb);clear hb));go_ret;exact ⟨qce7_,q0c4_⟩
 subst c3;obtain rfl:=Option.some.inj H;go_enter Tryz.func207,Tryz.ntmps207;go_wp2_with (first | ((with_reducible refine gc_ 100 ?_);refine gl_ 5 Tryz.func100 #[.int .i64 (l0.length:Int)] ?_;(with_reducible refine (impl_isCars.calls (l0.length:Int) false _ A2.out).mono ?_);rintro e w' ⟨rfl,⟨nd,rfl⟩⟩;refine ⟨_,rfl,?_⟩));go_ret;exact ⟨qce7_,q0c4_⟩
mutual
def impl_driveCircle.l0:Nat->Int->List Bool->List Int->List Int->Int->Int->Option (List Int)
 | 0,_,_,_,_,_,_=>none
 | k + 1,x1,x5,x6,x12,x13,x14=>if x14 < x13 then (if 0<=x14 then (if x14 < (x12.length:Int) then (impl_driveCircle.l1 k x1 x5 x6 (rd x12 x14) x12 x13 x14) else (none)) else (none)) else (some x6)
def impl_driveCircle.l1:Nat->Int->List Bool->List Int->Int->List Int->Int->Int->Option (List Int)
 | 0,_,_,_,_,_,_,_=>none
 | k + 1,x1,x5,x6,x8,x12,x13,x14=>if 0<=x8 then (if x8 < (x5.length:Int) then (if rdOf false x5 x8 = true then (if x1 = 0 then (none) else (impl_driveCircle.l1 k x1 x5 x6 (Int.tmod (wrap64 (x8 + 1)) x1) x12 x13 x14)) else (if x6.length < 17592186044416 then (impl_driveCircle.l0 k x1 (x5.set (x8:Int).toNat true) (x6 ++ [x8]) x12 x13 (wrap64 (x14 + 1))) else (none))) else (none)) else (none)
end
def impl_driveCircle.f (k:Nat) (l0:List Int) (a1:Int):Option (List Int):=if 0<=a1 then (if (a1:Int).toNat<=281474976710656 then (impl_driveCircle.l0 k a1 (List.replicate (a1:Int).toNat false) (([]:List Int)) l0 (l0.length:Int) 0) else (none)) else (none)
theorem impl_driveCircle.calls (k:Nat) (A0:Option Addr) (c0:Nat) (l0:List Int) (a1:Int) (r:List Int) (w:World) (hr0:Kd.C (Kd.int .i64) w A0 l0.length l0) (hc0:l0.length<=c0) (h:impl_driveCircle.f k l0 a1 = some r) :
  Calls Tryz.prog 237 #[.slice A0 l0.length c0,.int .i64 a1] w fun e w'=>∃ v0_:Value,e = .returned (v0_)/\Kd.R (Kd.int .i64) 3 w' w.heap.size (fun _=>True) v0_ r/\Below w.heap.size w w':=by
 have HR0:=am_ hr0;have HC0:=am_ hc0;clear hr0 hc0;have HB:=am_ (Below.refl w.heap.size w);unfold impl_driveCircle.f at h;have H:=h;clear h;revert H;refine i2_ fun c3b0 c3b1 H=>?_;revert H;refine i2_ fun c4b0 c4b1 H=>?_;obtain ⟨y476,hy476⟩:=gn_ ((List.replicate (a1:Int).toNat false):List Bool);replace H:(impl_driveCircle.l0 k a1 y476 (([]:List Int)) l0 (l0.length:Int) 0) = some r:=rl_ hy476 H;have Ny476:=am_ hy476;clear hy476;obtain ⟨y479,hy479⟩:=gn_ ((([]:List Int)):List Int);replace H:(impl_driveCircle.l0 k a1 y476 y479 l0 (l0.length:Int) 0) = some r:=rl_ hy479 H;have Ny479:=am_ hy479;clear hy479;have H':=am_ H;clear H;go_enter Tryz.func237,Tryz.ntmps237;go_wp2_with (first | ((with_reducible refine gd_ 10 ?_);refine Kd.R_make Kd.bool _ 4 rfl (N:=10) rfl 136 _ _ rfl a1 rfl rfl Tryz.underlying136 (.bool false) 1 info4 rfl (by decide) (by omega) false (ok:=fun _=>True) (okp:=fun _=>True) rfl (fun _ hk=>hk) trivial (of_decide_eq_true qe84_) (Nat.le_trans (Nat.mul_le_mul_right _ (of_decide_eq_true qe84_:a1.toNat<=281474976710656)) (by omega)) (Below.refl _ _) (Nat.le_refl _) ?_;intro v477 w5 ho6 hb hg_ hnew_;clear hg_ hnew_;(first | rw [<- Ny476.out] at ho6 | (simp only [Int.reduceToNat] at ho6;rw [<- Ny476.out] at ho6));have HO478:=am_ (Kd.R_lower ho6 (below_size q0c4_));replace HB:=am_ (below_step q0c4_ hb);clear hb ho6) | ((with_reducible refine gd_ 11 ?_);refine Kd.R_lit (Kd.int .i64) _ 3 ?hg (N:=11) ?hd (xs:=([]:List Int)) (inner:=[]) (ok:=fun _=>True) (okp:=fun _=>True) ?hr ?hp (fun _ hk=>hk) trivial (Below.refl _ _) (Nat.le_refl _) (by simp) ?_;(case hd=>rfl);(case hg=>rfl);(case hr=>exact qfba_);(case hp=>exact (Reps.none _ _));intro v480 w7 ho8 hb hg_ hnew_;clear hg_ hnew_;(first | rw [<- Ny479.out] at ho8 | (simp only [Int.reduceToNat] at ho8;rw [<- Ny479.out] at ho8));replace HO478:=am_ (Kd.R_below (q9d5_ HO478.out) hb);have HO481:=am_ (Kd.R_lower ho8 (below_size q0c4_));replace HB:=am_ (below_step q0c4_ hb);clear hb ho8))
 go_loopg [6,14] k (fun kq v6 v14 w'=>∃ (x5_1:List Bool) (x6_1:List Int) (x14_1:Int),v14 = .int .i64 x14_1/\Aside0 (impl_driveCircle.l0 kq a1 x5_1 x6_1 l0 (l0.length:Int) x14_1 = some r)/\Aside0 (kq<=k)/\Aside0 (Kd.R Kd.bool 4 w' w.heap.size (fun _=>True) v477 x5_1)/\Aside0 (Kd.R (Kd.int .i64) 3 w' w.heap.size (fun _=>True) v6 x6_1)/\Aside0 (Below w.heap.size w w'))
 case atStart=>exact ⟨(y476),(y479),(0),qc8f_,H',⟨Nat.le_refl _⟩,⟨q9d5_ HO478.out⟩,⟨q9d5_ HO481.out⟩,⟨q0c4_⟩⟩
 case round =>
  clear H';obtain ⟨x5_1,x6_1,x14_1,rfl,HA,HK1,HO_5,HO_6,HB⟩:=hrel;cases gk with
  | zero=>exact n0_ HA.out
  | succ k1 =>
   have H:=HA.out;clear HA;simp only [impl_driveCircle.l0] at H;revert H;refine ie_ (fun c9b0 H=>?_) fun c9b0 H=>?_
   ·
    revert H;refine id_ fun c10b0 H=>?_;revert H;refine id_ fun c11b0 H=>?_;have H':=am_ H;clear H;obtain ⟨ad482,rfl,hx482_0,p482,q482⟩:=ri_ HR0.out x14_1
    (try (replace hx482_0:=(HB.out.cell (World.block_lt_of_cell? w _ hx482_0)).trans hx482_0))
    go_wp2
    go_loopg [8] k1 (fun kq v8 w'=>∃ (x8_2:Int),v8 = .int .i64 x8_2/\Aside0 (impl_driveCircle.l1 kq a1 x5_1 x6_1 x8_2 l0 (l0.length:Int) x14_1 = some r)/\Aside0 (kq<=k1)/\Aside0 (Kd.R Kd.bool 4 w' w.heap.size (fun _=>True) v477 x5_1)/\Aside0 (Kd.R (Kd.int .i64) 3 w' w.heap.size (fun _=>True) u6 x6_1)/\Aside0 (Below w.heap.size w w'))
    case atStart=>exact ⟨(rd l0 x14_1),qc8f_,H',⟨Nat.le_refl _⟩,⟨q9d5_ HO_5.out⟩,⟨q9d5_ HO_6.out⟩,⟨q0c4_⟩⟩
    case round =>
     clear H';obtain ⟨x8_2,rfl,HA,HK2,HO_5,HO_6,HB⟩:=hrel;cases gk with
     | zero=>exact n0_ HA.out
     | succ k2 =>
      have H:=HA.out;clear HA;simp only [impl_driveCircle.l1] at H;revert H;refine id_ fun c12b0 H=>?_;revert H;refine id_ fun c13b0 H=>?_;obtain ⟨bq14,hbq14⟩:∃ b_:Bool,b_ = (rdOf false x5_1 x8_2):=⟨_,rfl⟩;replace H:(if bq14 = true then (if a1 = 0 then (none) else (impl_driveCircle.l1 k2 a1 x5_1 x6_1 (Int.tmod (wrap64 (x8_2 + 1)) a1) l0 (l0.length:Int) x14_1)) else (if x6_1.length < 17592186044416 then (impl_driveCircle.l0 k2 a1 (x5_1.set (x8_2:Int).toNat true) (x6_1 ++ [x8_2]) l0 (l0.length:Int) (wrap64 (x14_1 + 1))) else (none))) = some r:=by rw [<- hbq14] at H;exact H
      have Nbq14:=am_ hbq14;clear hbq14;revert H;refine be_ (fun c15 H=>?_) fun c15 H=>?_
      ·
       subst c15;revert H;refine in_ fun c16 H=>?_;have c16b0:=beq_eq_false_iff_ne.mpr c16;have c16b1:=bne_iff_ne.mpr c16;have H':=am_ H;clear H;obtain ⟨Ao17,co17,eo17⟩:=Kd.R_slice HO_5.out;subst eo17;obtain ⟨ad483,rfl,hx483_0,p483,q483⟩:=rb_ (rr_ HO_5.out) x8_2
       (try rw [<- Nbq14.out] at hx483_0)
       go_wp2;go_roundg k2
       case measure=>have:=HK1.out;have:=HK2.out;omega
       case rel=>exact ⟨(Int.tmod (wrap64 (x8_2 + 1)) a1),qc8f_,H',⟨q37b_ HK1.out HK2.out⟩,⟨q9d5_ HO_5.out⟩,⟨q9d5_ HO_6.out⟩,⟨q0c4_⟩⟩
      subst c15;obtain ⟨y484,hy484⟩:=gn_ ((x5_1.set (x8_2:Int).toNat true):List Bool);replace H:(if x6_1.length < 17592186044416 then (impl_driveCircle.l0 k2 a1 y484 (x6_1 ++ [x8_2]) l0 (l0.length:Int) (wrap64 (x14_1 + 1))) else (none)) = some r:=rl_ hy484 H;have Ny484:=am_ hy484;clear hy484;revert H;refine it_ fun c19 H=>?_;have LMc19:=am_ c19;clear c19;obtain ⟨y485,hy485⟩:=gn_ ((x6_1 ++ [x8_2]):List Int);replace H:(impl_driveCircle.l0 k2 a1 y484 y485 l0 (l0.length:Int) (wrap64 (x14_1 + 1))) = some r:=rl_ hy485 H;have Ny485:=am_ hy485;clear hy485;have H':=am_ H;clear H;obtain ⟨Ao20,co20,eo20⟩:=Kd.R_slice HO_5.out;subst eo20;obtain ⟨ad483,rfl,hx483_0,p483,q483⟩:=rb_ (rr_ HO_5.out) x8_2
      (try rw [<- Nbq14.out] at hx483_0)
      have p18:0<=(x8_2:Int):=of_decide_eq_true qe84_;have q18:(x8_2:Int) < ((x5_1.length:Int):Int):=of_decide_eq_true qe84_;obtain ⟨go18,co18,eo18,gb18,gl18,cl18,HG18⟩:=Kd.R_form HO_5.out (by omega)
      (first | cases eo18 | (injection eo18 with ea_ en_ ec_;(first | subst ea_ | (injection ea_ with ea_;subst ea_));subst ec_;clear en_))
      have GB18:=am_ gb18;have GG18:=am_ HG18;clear gb18 gl18 HG18
      (first | simp only [add_plain] at hx483_0 | skip)
      obtain ⟨hx18_0,hf18_0⟩:=Kd.R_celln false HO_5.out (x8_2:Int) p18 q18;replace p18:=eq_true p18;replace q18:=eq_true q18;have HP21:=Kd.R_putg HO_5.out (x8_2:Int) true;go_wp2_with (first | ((with_reducible refine gate_store (t:=4) (p:=28) rfl ?_);refine store_event (t:=4) (p:=28) (v:=?vo_w22) (w1:=(wr.setCell ⟨go18,(x8_2:Int).toNat,none⟩ (.bool true))) ?hg ?ho ?hn ?hr ?_;(case ho=>rfl);(case hg=>rfl);(case hn=>rfl);(case hr=>exact qfba_);intro w22 hw;have hg:wr.grownBy w22 (some go18):=(by rw [hw];exact HP21.2);have hp_:Kd.R Kd.bool 4 w22 w.heap.size (fun _=>True) (.slice (some ⟨go18,0,none⟩) x5_1.length co20) y484:=(by rw [hw,Ny484.out];exact HP21.1);clear HP21;replace HO_6:=am_ (Kd.R_over' (v:=(.slice (some ⟨go18,0,none⟩) x5_1.length co20)) (q9d5_ HO_6.out) (Kd.R_typed HO_5.out) (by decide) hg);replace HO_5:=am_ (hp_);replace HB:=am_ ((by rw [hw];exact below_set (HB.out) GB18.out:Below w.heap.size w w22));clear hg hw hp_) | ((with_reducible refine gate_builtin (b:=.append) (xs:=#[.tmp 29,.tmp 31]) rfl ?_);at_builtin;refine aI_ (w0:=w) (.tmp 29) (.tmp 31) u6 x6_1 x8_2 (fun _=>True) (fun _ _=>trivial) (q9d5_ HO_6.out) q0c4_ (by exact q1d0_ LMc19.out) ?_;intro v486 w23 ho hb hg hat;rw [<- Ny485.out] at ho;replace HO_5:=am_ (Kd.R_over' (q9d5_ HO_5.out) (Kd.R_typed (q9d5_ HO_6.out)) (by decide) hg);replace HB:=am_ (hb);have HO487:=am_ (ho);clear ho hb hg hat));go_roundg k2
      case measure=>have:=HK1.out;have:=HK2.out;omega
      case rel=>exact ⟨(y484),(y485),(wrap64 (x14_1 + 1)),qc8f_,H',⟨q37b_ HK1.out HK2.out⟩,⟨q9d5_ HO_5.out⟩,⟨q9d5_ HO487.out⟩,⟨q0c4_⟩⟩
   obtain rfl:=Option.some.inj H;go_wp2;go_ret;exact ⟨_,qce7_,q9d5_ HO_6.out,q0c4_⟩
def impl_freeOnCircle.l0:Nat->List Int->Int->Option (Int)
 | 0,_,_=>none
 | k + 1,x3,x4=>(slices_Contains_int_int.f k x3 x4).bind fun t491=>(if t491 = true then (impl_freeOnCircle.l0 k x3 (wrap64 (x4 + 1))) else (some x4))
def impl_freeOnCircle.f (k:Nat) (l0:List Int):Option (Int):=(impl_driveCircle.f k l0 (wrap64 ((l0.length:Int) + 1))).bind fun t488=>(impl_freeOnCircle.l0 k t488 0)
theorem impl_freeOnCircle.calls (k:Nat) (A0:Option Addr) (c0:Nat) (l0:List Int) (r:Int) (w:World) (hr0:Kd.C (Kd.int .i64) w A0 l0.length l0) (hc0:l0.length<=c0) (h:impl_freeOnCircle.f k l0 = some r) :
  Calls Tryz.prog 208 #[.slice A0 l0.length c0] w fun e w'=>e = .returned (.int .i64 r)/\Below w.heap.size w w':=by
 have HR0:=am_ hr0;have HC0:=am_ hc0;clear hr0 hc0;have HB:=am_ (Below.refl w.heap.size w);unfold impl_freeOnCircle.f at h;have H:=h;clear h;obtain ⟨t488,A2,H⟩:=ob_ H;have H':=am_ H;clear H;go_enter Tryz.func208,Tryz.ntmps208;go_wp2_with (first | ((with_reducible refine gc_ 237 ?_);refine gl_ 9 Tryz.func237 #[.slice A0 l0.length c0,.int .i64 (wrap64 ((l0.length:Int) + 1))] ?_;(with_reducible refine (impl_driveCircle.calls k _ _ l0 (wrap64 ((l0.length:Int) + 1)) t488 _ ?s1 ?s2 A2.out).mono ?_);(case s1=>exact q201_ HR0.out);(case s2=>exact HC0.out);rintro e w3 ⟨v489,rfl,ho0,hb⟩;refine ⟨_,rfl,?_⟩;have HO490:=am_ (Kd.R_lower ho0 (below_size q0c4_));replace HB:=am_ (below_step q0c4_ hb);clear hb ho0))
 go_loopg [4] k (fun kq v4 w'=>∃ (x4_1:Int),v4 = .int .i64 x4_1/\Aside0 (impl_freeOnCircle.l0 kq t488 x4_1 = some r)/\Aside0 (kq<=k)/\Aside0 (Kd.R (Kd.int .i64) 3 w' w.heap.size (fun _=>True) v489 t488)/\Aside0 (Below w.heap.size w w'))
 case atStart=>exact ⟨(0),qc8f_,H',⟨Nat.le_refl _⟩,⟨q9d5_ HO490.out⟩,⟨q0c4_⟩⟩
 case round =>
  clear H';obtain ⟨x4_1,rfl,HA,HK1,HO_3,HB⟩:=hrel;cases gk with
  | zero=>exact n0_ HA.out
  | succ k1 =>
   have H:=HA.out;clear HA;simp only [impl_freeOnCircle.l0] at H;obtain ⟨t491,A4,H⟩:=ob_ H;revert H;refine be_ (fun c5 H=>?_) fun c5 H=>?_
   ·
    subst c5;have H':=am_ H;clear H;obtain ⟨Ao6,co6,eo6⟩:=Kd.R_slice HO_3.out;subst eo6;go_wp2_with (first | ((with_reducible refine gc_ 96 ?_);refine gl_ 12 Tryz.func96 #[.slice Ao6 t488.length co6,.int .i64 x4_1] ?_;(with_reducible refine (slices_Contains_int_int.calls k1 _ _ t488 x4_1 true _ ?s1 ?s2 A4.out).mono ?_);(case s1=>exact q5a8_ HO_3.out);(case s2=>exact (Kd.R_reads' HO_3.out).2.1);rintro e w' ⟨rfl,⟨nd,rfl⟩⟩;refine ⟨_,rfl,?_⟩));go_roundg k1
    case measure=>have:=HK1.out;omega
    case rel=>exact ⟨(wrap64 (x4_1 + 1)),qc8f_,H',⟨q1d0_ HK1.out⟩,⟨q9d5_ HO_3.out⟩,⟨q0c4_⟩⟩
   subst c5;obtain rfl:=Option.some.inj H;obtain ⟨Ao7,co7,eo7⟩:=Kd.R_slice HO_3.out;subst eo7;go_wp2_with (first | ((with_reducible refine gc_ 96 ?_);refine gl_ 12 Tryz.func96 #[.slice Ao7 t488.length co7,.int .i64 x4_1] ?_;(with_reducible refine (slices_Contains_int_int.calls k1 _ _ t488 x4_1 false _ ?s1 ?s2 A4.out).mono ?_);(case s1=>exact q5a8_ HO_3.out);(case s2=>exact (Kd.R_reads' HO_3.out).2.1);rintro e w' ⟨rfl,⟨nd,rfl⟩⟩;refine ⟨_,rfl,?_⟩));go_ret;exact ⟨qce7_,q0c4_⟩
def impl_turn.l0:Nat->Int->Int->List Int->List Int->Int->Int->Option (List Int)
 | 0,_,_,_,_,_,_=>none
 | k + 1,x1,x2,x7,x11,x12,x13=>if x13 < x12 then (if 0<=x13 then (if x13 < (x11.length:Int) then (if x1 = 0 then (none) else (if x7.length < 17592186044416 then (impl_turn.l0 k x1 x2 (x7 ++ [Int.tmod (wrap64 ((Int.tmod (wrap64 ((rd x11 x13) + x2)) x1) + x1)) x1]) x11 x12 (wrap64 (x13 + 1))) else (none))) else (none)) else (none)) else (some x7)
def impl_turn.f (k:Nat) (l0:List Int) (a1:Int) (a2:Int):Option (List Int):=impl_turn.l0 k a1 a2 (([]:List Int)) l0 (l0.length:Int) 0
theorem impl_turn.calls (k:Nat) (A0:Option Addr) (c0:Nat) (l0:List Int) (a1:Int) (a2:Int) (r:List Int) (w:World) (hr0:Kd.C (Kd.int .i64) w A0 l0.length l0) (hc0:l0.length<=c0) (h:impl_turn.f k l0 a1 a2 = some r) :
  Calls Tryz.prog 209 #[.slice A0 l0.length c0,.int .i64 a1,.int .i64 a2] w fun e w'=>∃ v0_:Value,e = .returned (v0_)/\Kd.R (Kd.int .i64) 3 w' w.heap.size (fun _=>True) v0_ r/\Below w.heap.size w w':=by
 have HR0:=am_ hr0;have HC0:=am_ hc0;clear hr0 hc0;have HB:=am_ (Below.refl w.heap.size w);unfold impl_turn.f at h;have H:=h;clear h;obtain ⟨y492,hy492⟩:=gn_ ((([]:List Int)):List Int);replace H:(impl_turn.l0 k a1 a2 y492 l0 (l0.length:Int) 0) = some r:=rl_ hy492 H;have Ny492:=am_ hy492;clear hy492;have H':=am_ H;clear H;go_enter Tryz.func209,Tryz.ntmps209;go_wp2_with (first | ((with_reducible refine gd_ 10 ?_);refine Kd.R_lit (Kd.int .i64) _ 3 ?hg (N:=10) ?hd (xs:=([]:List Int)) (inner:=[]) (ok:=fun _=>True) (okp:=fun _=>True) ?hr ?hp (fun _ hk=>hk) trivial (Below.refl _ _) (Nat.le_refl _) (by simp) ?_;(case hd=>rfl);(case hg=>rfl);(case hr=>exact qfba_);(case hp=>exact (Reps.none _ _));intro v493 w4 ho5 hb hg_ hnew_;clear hg_ hnew_;(first | rw [<- Ny492.out] at ho5 | (simp only [Int.reduceToNat] at ho5;rw [<- Ny492.out] at ho5));have HO494:=am_ (Kd.R_lower ho5 (below_size q0c4_));replace HB:=am_ (below_step q0c4_ hb);clear hb ho5))
 go_loopg [7,13] k (fun kq v7 v13 w'=>∃ (x7_1:List Int) (x13_1:Int),v13 = .int .i64 x13_1/\Aside0 (impl_turn.l0 kq a1 a2 x7_1 l0 (l0.length:Int) x13_1 = some r)/\Aside0 (kq<=k)/\Aside0 (Kd.R (Kd.int .i64) 3 w' w.heap.size (fun _=>True) v7 x7_1)/\Aside0 (Below w.heap.size w w'))
 case atStart=>exact ⟨(y492),(0),qc8f_,H',⟨Nat.le_refl _⟩,⟨q9d5_ HO494.out⟩,⟨q0c4_⟩⟩
 case round =>
  clear H';obtain ⟨x7_1,x13_1,rfl,HA,HK1,HO_7,HB⟩:=hrel;cases gk with
  | zero=>exact n0_ HA.out
  | succ k1 =>
   have H:=HA.out;clear HA;simp only [impl_turn.l0] at H;revert H;refine ie_ (fun c6b0 H=>?_) fun c6b0 H=>?_
   ·
    revert H;refine id_ fun c7b0 H=>?_;revert H;refine id_ fun c8b0 H=>?_;revert H;refine in_ fun c9 H=>?_;have c9b0:=beq_eq_false_iff_ne.mpr c9;have c9b1:=bne_iff_ne.mpr c9;revert H;refine it_ fun c10 H=>?_;have LMc10:=am_ c10;clear c10;obtain ⟨y496,hy496⟩:=gn_ ((x7_1 ++ [Int.tmod (wrap64 ((Int.tmod (wrap64 ((rd l0 x13_1) + a2)) a1) + a1)) a1]):List Int);replace H:(impl_turn.l0 k1 a1 a2 y496 l0 (l0.length:Int) (wrap64 (x13_1 + 1))) = some r:=rl_ hy496 H;have Ny496:=am_ hy496;clear hy496;have H':=am_ H;clear H;obtain ⟨ad495,rfl,hx495_0,p495,q495⟩:=ri_ HR0.out x13_1
    (try (replace hx495_0:=(HB.out.cell (World.block_lt_of_cell? w _ hx495_0)).trans hx495_0))
    go_wp2_with (first | ((with_reducible refine gate_builtin (b:=.append) (xs:=#[.tmp 17,.tmp 27]) rfl ?_);at_builtin;refine aI_ (w0:=w) (.tmp 17) (.tmp 27) u7 x7_1 (Int.tmod (wrap64 ((Int.tmod (wrap64 ((rd l0 x13_1) + a2)) a1) + a1)) a1) (fun _=>True) (fun _ _=>trivial) (q9d5_ HO_7.out) q0c4_ (by exact q1d0_ LMc10.out) ?_;intro v497 w11 ho hb hg hat;rw [<- Ny496.out] at ho;replace HB:=am_ (hb);have HO498:=am_ (ho);clear ho hb hg hat));go_roundg k1
    case measure=>have:=HK1.out;omega
    case rel=>exact ⟨(y496),(wrap64 (x13_1 + 1)),qc8f_,H',⟨q1d0_ HK1.out⟩,⟨q9d5_ HO498.out⟩,⟨q0c4_⟩⟩
   obtain rfl:=Option.some.inj H;go_wp2;go_ret;exact ⟨_,qce7_,q9d5_ HO_7.out,q0c4_⟩
def impl_ParkingOfClass.f (k:Nat) (l0:List Int):Option (List Int × Int × Bool):=(impl_isCircle.f l0).bind fun t499=>(if t499 = true then ((impl_freeOnCircle.f k l0).bind fun t500=>((impl_turn.f k l0 (wrap64 ((l0.length:Int) + 1)) (wrap64 ((l0.length:Int) - t500))).bind fun t501=>(some (t501,wrap64 ((l0.length:Int) - t500),true)))) else (some (([]:List Int),0,false)))
theorem impl_ParkingOfClass.calls (k:Nat) (A0:Option Addr) (c0:Nat) (l0:List Int) (r1:List Int) (r2:Int) (r3:Bool) (w:World) (hr0:Kd.C (Kd.int .i64) w A0 l0.length l0) (hc0:l0.length<=c0) (h:impl_ParkingOfClass.f k l0 = some (r1,r2,r3)) :
  Calls Tryz.prog 149 #[.slice A0 l0.length c0] w fun e w'=>∃ v0_:Value,e = .returned (.tuple #[v0_,.int .i64 r2,.bool r3])/\Kd.R (Kd.int .i64) 3 w' w.heap.size (fun _=>True) v0_ r1/\Below w.heap.size w w':=by
 have HR0:=am_ hr0;have HC0:=am_ hc0;clear hr0 hc0;have HB:=am_ (Below.refl w.heap.size w);unfold impl_ParkingOfClass.f at h;have H:=h;clear h;obtain ⟨t499,A2,H⟩:=ob_ H;revert H;refine be_ (fun c3 H=>?_) fun c3 H=>?_
 ·
  subst c3;obtain ⟨t500,A4,H⟩:=ob_ H;obtain ⟨t501,A5,H⟩:=ob_ H;obtain ⟨rfl,rfl,rfl⟩:=st_ H;go_enter Tryz.func149,Tryz.ntmps149;go_wp2_with (first | ((with_reducible refine gc_ 207 ?_);refine gl_ 7 Tryz.func207 #[.slice A0 l0.length c0] ?_;(with_reducible refine (impl_isCircle.calls _ _ l0 true _ ?s1 ?s2 A2.out).mono ?_);(case s1=>exact q201_ HR0.out);(case s2=>exact HC0.out);rintro e w6 ⟨rfl,hb⟩;refine ⟨_,rfl,?_⟩;replace HB:=am_ (below_step q0c4_ hb);clear hb) | ((with_reducible refine gc_ 208 ?_);refine gl_ 12 Tryz.func208 #[.slice A0 l0.length c0] ?_;(with_reducible refine (impl_freeOnCircle.calls k _ _ l0 t500 _ ?s1 ?s2 A4.out).mono ?_);(case s1=>exact qe02_ HR0.out);(case s2=>exact HC0.out);rintro e w7 ⟨rfl,hb⟩;refine ⟨_,rfl,?_⟩;replace HB:=am_ (below_step q0c4_ hb);clear hb) | ((with_reducible refine gc_ 209 ?_);refine gl_ 19 Tryz.func209 #[.slice A0 l0.length c0,.int .i64 (wrap64 ((l0.length:Int) + 1)),.int .i64 (wrap64 ((l0.length:Int) - t500))] ?_;(with_reducible refine (impl_turn.calls k _ _ l0 (wrap64 ((l0.length:Int) + 1)) (wrap64 ((l0.length:Int) - t500)) t501 _ ?s1 ?s2 A5.out).mono ?_);(case s1=>exact qe02_ HR0.out);(case s2=>exact HC0.out);rintro e w8 ⟨v502,rfl,ho0,hb⟩;refine ⟨_,rfl,?_⟩;have HO503:=am_ (Kd.R_lower ho0 (below_size q0c4_));replace HB:=am_ (below_step q0c4_ hb);clear hb ho0));go_ret3;exact ⟨_,qce7_,q9d5_ HO503.out,q0c4_⟩
 subst c3;obtain ⟨rfl,rfl,rfl⟩:=st_ H;go_enter Tryz.func149,Tryz.ntmps149;go_wp2_with (first | ((with_reducible refine gc_ 207 ?_);refine gl_ 7 Tryz.func207 #[.slice A0 l0.length c0] ?_;(with_reducible refine (impl_isCircle.calls _ _ l0 false _ ?s1 ?s2 A2.out).mono ?_);(case s1=>exact q201_ HR0.out);(case s2=>exact HC0.out);rintro e w9 ⟨rfl,hb⟩;refine ⟨_,rfl,?_⟩;replace HB:=am_ (below_step q0c4_ hb);clear hb));go_ret3;exact ⟨_,qce7_,qf62_,q0c4_⟩
def impl_CountParking.f (k:Nat) (a0:Int):Option (Int × Bool):=(impl_isCars.f a0).bind fun t504=>(if t504 = true then ((impl_countParking.f k a0).bind fun t505=>(some (t505,true))) else (some (0,false)))
theorem impl_CountParking.calls (k:Nat) (a0:Int) (r1:Int) (r2:Bool) (w:World) (h:impl_CountParking.f k a0 = some (r1,r2)) :
  Calls Tryz.prog 151 #[.int .i64 a0] w fun e w'=>e = .returned (.tuple #[.int .i64 r1,.bool r2])/\Below w.heap.size w w':=by
 have HB:=am_ (Below.refl w.heap.size w);unfold impl_CountParking.f at h;have H:=h;clear h;obtain ⟨t504,A2,H⟩:=ob_ H;revert H;refine be_ (fun c3 H=>?_) fun c3 H=>?_
 ·
  subst c3;obtain ⟨t505,A4,H⟩:=ob_ H;obtain ⟨rfl,rfl⟩:=sp_ H;go_enter Tryz.func151,Tryz.ntmps151;go_wp2_with (first | ((with_reducible refine gc_ 100 ?_);refine gl_ 5 Tryz.func100 #[.int .i64 a0] ?_;(with_reducible refine (impl_isCars.calls a0 true _ A2.out).mono ?_);rintro e w' ⟨rfl,⟨nd,rfl⟩⟩;refine ⟨_,rfl,?_⟩) | ((with_reducible refine gc_ 102 ?_);refine gl_ 8 Tryz.func102 #[.int .i64 a0] ?_;(with_reducible refine (impl_countParking.calls k a0 t505 _ A4.out).mono ?_);rintro e w5 ⟨rfl,hb⟩;refine ⟨_,rfl,?_⟩;replace HB:=am_ (below_step q0c4_ hb);clear hb));go_ret2;exact ⟨qce7_,q0c4_⟩
 subst c3;obtain ⟨rfl,rfl⟩:=sp_ H;go_enter Tryz.func151,Tryz.ntmps151;go_wp2_with (first | ((with_reducible refine gc_ 100 ?_);refine gl_ 5 Tryz.func100 #[.int .i64 a0] ?_;(with_reducible refine (impl_isCars.calls a0 false _ A2.out).mono ?_);rintro e w' ⟨rfl,⟨nd,rfl⟩⟩;refine ⟨_,rfl,?_⟩));go_ret2;exact ⟨qce7_,q0c4_⟩
def impl_isTried.f (a0:Int):Option (Bool):=(impl_between.f a0 1 5).bind fun t506=>(some t506)
theorem impl_isTried.calls (a0:Int) (r:Bool) (w:World) (h:impl_isTried.f a0 = some r) :
  Calls Tryz.prog 211 #[.int .i64 a0] w fun e w'=>e = .returned (.bool r)/\Drawn0 w w':=by
 unfold impl_isTried.f at h;have H:=h;clear h;obtain ⟨t506,A2,H⟩:=ob_ H;obtain rfl:=Option.some.inj H;go_enter Tryz.func211,Tryz.ntmps211;go_wp2_with (first | ((with_reducible refine gc_ 101 ?_);refine gl_ 4 Tryz.func101 #[.int .i64 a0,.int .i64 1,.int .i64 5] ?_;(with_reducible refine (impl_between.calls a0 1 5 t506 _ A2.out).mono ?_);rintro e w' ⟨rfl,⟨nd,rfl⟩⟩;refine ⟨_,rfl,?_⟩));go_ret;exact ⟨qc8f_,qffa_⟩
def impl_isBack.f (a0:Int):Option (Bool):=(impl_between.f a0 0 8).bind fun t507=>(some t507)
theorem impl_isBack.calls (a0:Int) (r:Bool) (w:World) (h:impl_isBack.f a0 = some r) :
  Calls Tryz.prog 212 #[.int .i64 a0] w fun e w'=>e = .returned (.bool r)/\Drawn0 w w':=by
 unfold impl_isBack.f at h;have H:=h;clear h;obtain ⟨t507,A2,H⟩:=ob_ H;obtain rfl:=Option.some.inj H;go_enter Tryz.func212,Tryz.ntmps212;go_wp2_with (first | ((with_reducible refine gc_ 101 ?_);refine gl_ 4 Tryz.func101 #[.int .i64 a0,.int .i64 0,.int .i64 8] ?_;(with_reducible refine (impl_between.calls a0 0 8 t507 _ A2.out).mono ?_);rintro e w' ⟨rfl,⟨nd,rfl⟩⟩;refine ⟨_,rfl,?_⟩));go_ret;exact ⟨qc8f_,qffa_⟩
def impl_Table_copied.f (l0_0:List Int):Option (List Int):=(slices_Clone_int_int.f l0_0).bind fun t517=>(some t517)
theorem impl_Table_copied.calls (A0_0:Option Addr) (c0_0:Nat) (l0_0:List Int) (r:List Int) (w:World) (hr0_0:Kd.C (Kd.int .i64) w A0_0 l0_0.length l0_0) (hc0_0:l0_0.length<=c0_0) (h:impl_Table_copied.f l0_0 = some r) :
  Calls Tryz.prog 54 #[.agg #[.slice A0_0 l0_0.length c0_0]] w fun e w'=>∃ v0_:Value,e = .returned (.agg #[v0_])/\Kd.R (Kd.int .i64) 3 w' w.heap.size (fun _=>True) v0_ r/\Below w.heap.size w w':=by
 have hu34:=Tryz.underlying34;have HR0_0:=am_ hr0_0;have HC0_0:=am_ hc0_0;clear hr0_0 hc0_0;have HB:=am_ (Below.refl w.heap.size w);unfold impl_Table_copied.f at h;have H:=h;clear h;obtain ⟨t517,A2,H⟩:=ob_ H;obtain rfl:=Option.some.inj H;go_enter Tryz.func54,Tryz.ntmps54;go_wp2_with (first | ((with_reducible refine gd_ 1 ?_);refine bx_ #[.slice A0_0 l0_0.length c0_0] 34 ?_;intro gb515 hg w3 hbox hb;have BK515:=am_ (hbox);have GW515:=am_ ((by rw [hg];exact (below_size q0c4_):w.heap.size<=gb515));have GE515:=am_ ((by rw [hg];exact (below_size q0c4_):w.heap.size<=gb515));replace HB:=am_ (below_step q0c4_ hb);clear hb hbox hg) | ((with_reducible refine gd_ 2 ?_);refine bx_ #[.slice none 0 0] 34 ?_;intro gb516 hg w4 hbox hb;have BK516:=am_ (hbox);have GW516:=am_ ((by rw [hg];exact (below_size (qfcd_ GE515.out)):w.heap.size<=gb516));have GE516:=am_ ((by rw [hg];exact (below_size (qfcd_ GE515.out)):w.heap.size<=gb516));have NB515_516:=am_ ((by rw [hg];exact Nat.ne_of_lt (blk_lt (g:=gb515) (o:=.cells #[.slice A0_0 l0_0.length c0_0] 34 (0,0)) (q66c_ BK515.out)):gb515 ≠ gb516));have NB516_515:=am_ ((by rw [hg];exact Nat.ne_of_gt (blk_lt (g:=gb515) (o:=.cells #[.slice A0_0 l0_0.length c0_0] 34 (0,0)) (q66c_ BK515.out)):gb516 ≠ gb515));replace BK515:=am_ (blk_below (g:=gb515) (o:=.cells #[.slice A0_0 l0_0.length c0_0] 34 (0,0)) (q66c_ BK515.out) hb);replace HB:=am_ (below_step (qfcd_ GE515.out) hb);clear hb hbox hg;have hnb5:=NB515_516.out;have hnc5:=NB516_515.out;have hcz6_0:w4.cell? ⟨gb515,0,none⟩ = some (.slice A0_0 l0_0.length c0_0):=(blk_cell BK515.out 0).trans rfl;have hfz6_0:=blk_frozen BK515.out 0) | ((with_reducible refine gc_ 53 ?_);refine gl_ 5 Tryz.func53 #[.slice A0_0 l0_0.length c0_0] ?_;(with_reducible refine (slices_Clone_int_int.calls _ _ l0_0 t517 _ ?s1 ?s2 A2.out).mono ?_);(case s1=>exact qe02_ HR0_0.out);(case s2=>exact HC0_0.out);rintro e w7 ⟨v518,rfl,ho0,hb⟩;refine ⟨_,rfl,?_⟩;have HO519:=am_ (Kd.R_lower ho0 (below_size (qa3a_ GE515.out GE516.out)));replace BK515:=am_ (blk_below (g:=gb515) (o:=.cells #[.slice A0_0 l0_0.length c0_0] 34 (0,0)) (q66c_ BK515.out) hb);replace BK516:=am_ (blk_below (g:=gb516) (o:=.cells #[.slice none 0 0] 34 (0,0)) (q66c_ BK516.out) hb);replace HB:=am_ (below_step (qa3a_ GE515.out GE516.out) hb);clear hb ho0;obtain ⟨Ao8,co8,eo8⟩:=Kd.R_slice HO519.out;subst eo8;have hcz9_0:w7.cell? ⟨gb516,0,none⟩ = some (.slice none 0 0):=(blk_cell BK516.out 0).trans rfl;have hfz9_0:=blk_frozen BK516.out 0));refine bodyPost_ret (results_cell_row rfl _ _ gb516 34 #[.slice Ao8 t517.length co8] (0,0) _ rfl (q75f_ BK516.out) Tryz.underlying34 rfl (by kernel_rfl)) rfl ?_;exact ⟨_,qce7_,by (with_reducible repeat (first | apply Kd.R_alloc | apply Kd.R_drewN | apply Kd.R_drew));exact Kd.R_mono (Kd.R_far (p:=⟨gb516,0,none⟩) (Kd.R_types HO519.out BK516.out (by decide)) (fun _ hk=>hk.2) (.slice Ao8 t517.length co8)) (fun _ hk=>trivial),qa3a_ GE515.out GE516.out⟩
def impl_isKey.f (a0:Int):Option (Bool):=(impl_between.f a0 0 999).bind fun t520=>(some t520)
theorem impl_isKey.calls (a0:Int) (r:Bool) (w:World) (h:impl_isKey.f a0 = some r) :
  Calls Tryz.prog 216 #[.int .i64 a0] w fun e w'=>e = .returned (.bool r)/\Drawn0 w w':=by
 unfold impl_isKey.f at h;have H:=h;clear h;obtain ⟨t520,A2,H⟩:=ob_ H;obtain rfl:=Option.some.inj H;go_enter Tryz.func216,Tryz.ntmps216;go_wp2_with (first | ((with_reducible refine gc_ 101 ?_);refine gl_ 4 Tryz.func101 #[.int .i64 a0,.int .i64 0,.int .i64 999] ?_;(with_reducible refine (impl_between.calls a0 0 999 t520 _ A2.out).mono ?_);rintro e w' ⟨rfl,⟨nd,rfl⟩⟩;refine ⟨_,rfl,?_⟩));go_ret;exact ⟨qc8f_,qffa_⟩
def impl_Table_insert.l0:Nat->Int->Int->List Int->Option (Int × List Int)
 | 0,_,_,_=>none
 | k + 1,x1,x5,x522000=>if 0<=x5 then (if x5 < (x522000.length:Int) then (if (rd x522000 x5) >= 0 then (if (x522000.length:Int) = 0 then (none) else (impl_Table_insert.l0 k x1 (Int.tmod (wrap64 (x5 + 1)) (x522000.length:Int)) x522000)) else (some (x5,(x522000.set (x5:Int).toNat x1)))) else (none)) else (none)
def impl_Table_insert.f (k:Nat) (l0_0:List Int) (a1:Int):Option (Int × List Int):=if (l0_0.length:Int) = 0 then (none) else (impl_Table_insert.l0 k a1 (Int.tmod a1 (l0_0.length:Int)) l0_0)
theorem impl_Table_insert.calls (k:Nat) (P0_0_:Nat->Prop) (u9000_:Value) (l0_0:List Int) (a1:Int) (r1:Int) (r2:List Int) (w0 w:World) (hB:Below w0.heap.size w0 w) (ho0_0:Kd.R (Kd.int .i64) 3 w w0.heap.size P0_0_ u9000_ l0_0) (h:impl_Table_insert.f k l0_0 a1 = some (r1,r2)) :
  Calls Tryz.prog 218 #[.agg #[u9000_],.int .i64 a1] w fun e w'=>e = .returned (.int .i64 r1)/\Kd.R (Kd.int .i64) 3 w' w0.heap.size (fun k_=>(P0_0_ k_ \/ w.heap.size<=k_)) u9000_ r2/\Below w0.heap.size w0 w'/\Kept w w' (fun k_=>P0_0_ k_):=by
 have hu34:=Tryz.underlying34;have HO0_0:=am_ (show Kd.R (Kd.int .i64) 3 w w0.heap.size (fun k_=>(P0_0_ k_ \/ w.heap.size<=k_)) u9000_ l0_0 from Kd.R_mono ho0_0 (fun k_ hk=>(.inl hk)));have HK:=am_ (Kept.refl w (fun k_=>P0_0_ k_));have HW0:=am_ hB.size;have HB:=am_ hB;clear hB;unfold impl_Table_insert.f at h;have H:=h;clear h;revert H;refine in_ fun c3 H=>?_;have c3b0:=beq_eq_false_iff_ne.mpr c3;have c3b1:=bne_iff_ne.mpr c3;have c3b2:¬ (l0_0 = []):=fun h_=>c3 (by rw [h_];rfl);have H':=am_ H;clear H;obtain ⟨Ao4,co4,eo4⟩:=Kd.R_slice HO0_0.out;subst eo4;go_enter Tryz.func218,Tryz.ntmps218;go_wp2_with (first | ((with_reducible refine gd_ 2 ?_);refine bx_ #[.slice Ao4 l0_0.length co4] 34 ?_;intro gb521 hg w5 hbox hb;replace HO0_0:=am_ (Kd.R_below (q9d5_ HO0_0.out) hb);have BK521:=am_ (hbox);have GW521:=am_ ((by rw [hg];exact (by first | exact HK.out.1 | exact (show Kept w _ (fun k_=>P0_0_ k_) from qf72_).1):w.heap.size<=gb521));replace HK:=am_ (Kept.below (S:=(fun k_=>P0_0_ k_)) qf72_ hb);have GE521:=am_ ((by rw [hg];exact (below_size q0c4_):w0.heap.size<=gb521));replace HB:=am_ (below_step q0c4_ hb);clear hb hbox hg;have hcz6_0:w5.cell? ⟨gb521,0,none⟩ = some (.slice Ao4 l0_0.length co4):=(blk_cell BK521.out 0).trans rfl;have hfz6_0:=blk_frozen BK521.out 0))
 go_loopg [5] k (fun kq v5 w'=>∃ (x5_1:Int),v5 = .int .i64 x5_1/\Aside0 (impl_Table_insert.l0 kq a1 x5_1 l0_0 = some (r1,r2))/\Aside0 (kq<=k)/\Aside0 (Kd.R (Kd.int .i64) 3 w' w0.heap.size (fun k_=>(P0_0_ k_ \/ w.heap.size<=k_)) (.slice Ao4 l0_0.length co4) l0_0)/\Aside0 (w'.heap[gb521]? = some (.cells #[(.slice Ao4 l0_0.length co4)] 34 (0,0)))/\Aside0 (Kept w w' (fun k_=>P0_0_ k_))/\Aside0 (Below w0.heap.size w0 w'))
 case atStart=>exact ⟨(Int.tmod a1 (l0_0.length:Int)),qc8f_,H',⟨Nat.le_refl _⟩,⟨q9d5_ HO0_0.out⟩,⟨q66c_ BK521.out⟩,⟨qc97_ GW521.out⟩,⟨qfcd_ GE521.out⟩⟩
 case round =>
  clear H';obtain ⟨x5_1,rfl,HA,HK1,HO_522000,BK521,HK,HB⟩:=hrel;cases gk with
  | zero=>exact n0_ HA.out
  | succ k1 =>
   have H:=HA.out;clear HA;simp only [impl_Table_insert.l0] at H;revert H;refine id_ fun c7b0 H=>?_;revert H;refine id_ fun c8b0 H=>?_;revert H;refine ie_ (fun c9b0 H=>?_) fun c9b0 H=>?_
   ·
    revert H;refine in_ fun c10 H=>?_;have c10b0:=beq_eq_false_iff_ne.mpr c10;have c10b1:=bne_iff_ne.mpr c10;have c10b2:¬ (l0_0 = []):=fun h_=>c10 (by rw [h_];rfl);have H':=am_ H;clear H;have hcz11_0:wr.cell? ⟨gb521,0,none⟩ = some (.slice Ao4 l0_0.length co4):=(blk_cell BK521.out 0).trans rfl;have hfz11_0:=blk_frozen BK521.out 0;obtain ⟨ad522,rfl,hx522_0,p522,q522⟩:=ri_ (rr_ HO_522000.out) x5_1;go_wp2;go_roundg k1
    case measure=>have:=HK1.out;omega
    case rel=>exact ⟨(Int.tmod (wrap64 (x5_1 + 1)) (l0_0.length:Int)),qc8f_,H',⟨q1d0_ HK1.out⟩,⟨q9d5_ HO_522000.out⟩,⟨q66c_ BK521.out⟩,⟨qc97_ GW521.out⟩,⟨qfcd_ GE521.out⟩⟩
   obtain ⟨y523,hy523⟩:=gn_ ((l0_0.set (x5_1:Int).toNat a1):List Int);replace H:(some (x5_1,y523)) = some (r1,r2):=rl_ hy523 H;have Ny523:=am_ hy523;clear hy523;obtain ⟨rfl,rfl⟩:=sp_ H;have hcz13_0:wr.cell? ⟨gb521,0,none⟩ = some (.slice Ao4 l0_0.length co4):=(blk_cell BK521.out 0).trans rfl;have hfz13_0:=blk_frozen BK521.out 0;obtain ⟨ad522,rfl,hx522_0,p522,q522⟩:=ri_ (rr_ HO_522000.out) x5_1;have p12:0<=(x5_1:Int):=of_decide_eq_true qe84_;have q12:(x5_1:Int) < ((l0_0.length:Int):Int):=of_decide_eq_true qe84_;obtain ⟨go12,co12,eo12,gb12,gl12,cl12,HG12⟩:=Kd.R_form HO_522000.out (by omega)
   (first | cases eo12 | (injection eo12 with ea_ en_ ec_;(first | subst ea_ | (injection ea_ with ea_;subst ea_));subst ec_;clear en_))
   have GB12:=am_ gb12;have GG12:=am_ HG12;clear gb12 gl12 HG12;have HMgo12:=am_ (show (P0_0_ go12 \/ w.heap.size<=go12) from (HO_522000.out.1 _ rfl))
   (first | simp only [add_plain] at hx522_0 | skip)
   obtain ⟨hx12_0,hf12_0⟩:=Kd.R_celln 0 HO_522000.out (x5_1:Int) p12 q12;replace p12:=eq_true p12;replace q12:=eq_true q12;have HP14:=Kd.R_putg HO_522000.out (x5_1:Int) a1;go_wp2_with (first | ((with_reducible refine gate_store (t:=3) (p:=27) rfl ?_);refine store_event (t:=3) (p:=27) (v:=?vo_w15) (w1:=(wr.setCell ⟨go12,(x5_1:Int).toNat,none⟩ (.int .i64 a1))) ?hg ?ho ?hn ?hr ?_;(case ho=>rfl);(case hg=>rfl);(case hn=>rfl);(case hr=>exact qfba_);intro w15 hw;have hg:wr.grownBy w15 (some go12):=(by rw [hw];exact HP14.2);have hp_:Kd.R (Kd.int .i64) 3 w15 w0.heap.size (fun k_=>(P0_0_ k_ \/ w.heap.size<=k_)) (.slice (some ⟨go12,0,none⟩) l0_0.length co4) y523:=(by rw [hw,Ny523.out];exact HP14.1);clear HP14;replace BK521:=am_ (blk_grown (g:=gb521) (o:=.cells #[.slice (some ⟨go12,0,none⟩) l0_0.length co4] 34 (0,0)) (q66c_ BK521.out) hg (Kd.R_ne HO_522000.out BK521.out (by decide)));replace HK:=am_ (Kept.of_grown (S:=(fun k_=>P0_0_ k_)) hg (qc97_ GW521.out) (fun k_ e_=>(HO_522000.out.1 k_ e_)));replace HO_522000:=am_ (hp_);replace HB:=am_ ((by rw [hw];exact below_set (HB.out) GB12.out:Below w0.heap.size w0 w15));clear hg hw hp_));go_ret;exact ⟨qce7_,q9d5_ HO_522000.out,qfcd_ GE521.out,qc97_ GW521.out⟩
end Go.Proofs.YtjdlhefjgceabaaGreatDoor.PAll

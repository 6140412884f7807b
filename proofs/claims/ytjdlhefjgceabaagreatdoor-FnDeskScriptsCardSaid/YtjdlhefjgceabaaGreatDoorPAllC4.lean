import Derived.Test.YtjdlhefjgceabaaGreatDoorPAllB4
set_option linter.unusedVariables false
set_option linter.unusedSimpArgs false
namespace Go.Proofs.YtjdlhefjgceabaaGreatDoor.PAll
open Go.RowKit Hand YtjdlhefjgceabaaGreatDoorW.PrintWords YtjdlhefjgceabaaGreatDoorW.PrintLast YtjdlhefjgceabaaGreatDoorW.PrintMore
attribute [local go_sem] l8 mF lZ mo mr mK nI mQ
set_option maxHeartbeats 8000000
set_option maxRecDepth 100000
mutual
def bH.l0:Nat->List Int->Int->List Int->Int->Int->Option (Int)
 | 0,_,_,_,_,_=>none
 | k+1,x0,x5,x6,x22,x23=>if x23<x22 then ((pK.f x0 x23).bind λt358=>(if 0<=(wrap64 (x5+1))then (if (wrap64 (x5+1):Int).toNat<=35184372088832 then (bH.l1 k x0 x5 t358 (List.replicate (wrap64 (x5+1):Int).toNat 0) x22 x23 x6 (x6.length:Int) 0 x23)else (none))else (none)))else (if 0<=x5 then (if x5<(x6.length:Int)then (some (rd x6 x5))else (none))else (none))
def bH.l1:Nat->List Int->Int->Int->List Int->Int->Int->List Int->Int->Int->Int->Option (Int)
 | 0,_,_,_,_,_,_,_,_,_,_=>none
 | k+1,x0,x5,x8,x9,x22,x23,x32,x33,x34,x358000=>if x34<x33 then (if 0<=x34 then (if x34<(x32.length:Int)then (bH.l2 k x0 x5 x8 x9 x34 (rd x32 x34) 0 x22 x23 x32 x33 x34 x358000)else (none))else (none))else (bH.l0 k x0 x5 x9 x22 (wrap64 (x23+1)))
def bH.l2:Nat->List Int->Int->Int->List Int->Int->Int->Int->Int->Int->List Int->Int->Int->Int->Option (Int)
 | 0,_,_,_,_,_,_,_,_,_,_,_,_,_=>none
 | k+1,x0,x5,x8,x9,x10,x11,x12,x22,x23,x32,x33,x34,x358000=>if (wrap64 (x10+x12))<=x5 then (if (wrap64 ((wrap64 (x8+x10))+x12))>x358000 then (if 0<=(wrap64 (x10+x12))then (if (wrap64 (x10+x12))<(x9.length:Int)then ((fQ.f k (wrap64 (x5 - x10)) x12).bind λt364=>(bH.l2 k x0 x5 x8 (x9.set ((wrap64 (x10+x12)):Int).toNat (wrap64 ((rd x9 (wrap64 (x10+x12)))+(wrap64 (x11 * t364))))) x10 x11 (wrap64 (x12+1)) x22 x23 x32 x33 x34 x358000))else (none))else (none))else (bH.l2 k x0 x5 x8 x9 x10 x11 (wrap64 (x12+1)) x22 x23 x32 x33 x34 x358000))else (bH.l1 k x0 x5 x8 x9 x22 x23 x32 x33 (wrap64 (x34+1)) x358000)
end
def bH.f(k:Nat)(l0:List Int)(a1:Int):Option (Int):=if 0<=(wrap64 ((wrap64 (a1 - (l0.length:Int)))+1))then (if (wrap64 ((wrap64 (a1 - (l0.length:Int)))+1):Int).toNat<=35184372088832 then ((some (List.replicate (wrap64 ((wrap64 (a1 - (l0.length:Int)))+1):Int).toNat 0:List Int)).bind λy352=>(if 0<(y352.length:Int)then (bH.l0 k l0 (wrap64 (a1 - (l0.length:Int))) (y352.set (0:Int).toNat 1) a1 0)else (none)))else (none))else (none)
def bH.T7:Bool × List (List Nat × List Nat):=(true,[([],[]),([],[]),([0,1],[0,1]),([],[]),([3],[3]),([4,4],[4]),([2,2,0,1,2],[2]),([5,6,0,1,2,3,4,5,6],[5])])
def bH.B7:List Nat:=[0,0,3,0,8,24,7,127]
theorem bH.tab7:dQ .any (opsOf Tryz.f104 7)=bH.T7:=by kernel_rfl
theorem bH.bits7:jv bH.T7.2 bH.B7=true:=by kernel_rfl
def bH.T15:Bool × List (List Nat × List Nat):=(true,[([],[]),([],[]),([],[]),([1,2],[1,2]),([0,3],[0,3]),([4],[4]),([],[]),([],[]),([],[]),([7,8],[7,8]),([],[]),([9,10],[9,10]),([6,11],[6,11]),([5,12],[5,12]),([0,3,0,1,2,3,4,5,6,7,8,9,10,11,12,13],[0,3]),([14,13,11,0,1,2,3,4,5,6,7,8,9,10,11,12,13],[13,14])])
def bH.B15:List Nat:=[0,0,0,6,15,31,0,0,0,384,0,1920,4032,8191,16383,32767]
theorem bH.tab15:dQ .any (opsOf Tryz.f104 15)=bH.T15:=by kernel_rfl
theorem bH.bits15:jv bH.T15.2 bH.B15=true:=by kernel_rfl
theorem bH.calls(k:Nat)(A0:Option Addr)(c0:Nat)(l0:List Int)(a1:Int)(r:Int)(w:World)(hr0:Kd.C (Kd.int .i64) w A0 l0.length l0)(hc0:l0.length<=c0)(h:bH.f k l0 a1=some r) :
  Calls Tryz.prog 104 #[.slice A0 l0.length c0,.int .i64 a1] w λe w'=>e=.returned (.int .i64 r)/\Below w.heap.size w w':=by
 have HR0:=aa hr0;have HC0:=aa hc0;clear hr0 hc0;have HB:=aa (Below.refl w.heap.size w);unfold bH.f at h;have H:=h;clear h;obtain ⟨ji3,hji3⟩:∃j_:Int,(wrap64 ((wrap64 (a1 - (l0.length:Int)))+1))=j_:=⟨_,rfl⟩;replace H:(if 0<=(ji3)then (if (ji3:Int).toNat<=35184372088832 then ((some (List.replicate (ji3:Int).toNat 0:List Int)).bind λy352=>(if 0<(y352.length:Int)then (bH.l0 k l0 (wrap64 (a1 - (l0.length:Int))) (y352.set (0:Int).toNat 1) a1 0)else (none)))else (none))else (none))=some r:=sS;have hji3w:(IntKind.i64.wrap ((wrap64 (a1 - (l0.length:Int)))+1))=ji3:=(cO _).trans hji3;revert H;refine dI λc4b0 c4b1 H=>?_;revert H;refine dI λc5b0 c5b1 H=>?_;obtain ⟨y352,hy352⟩:=bv ((List.replicate (ji3:Int).toNat 0):List Int);replace H:(if 0<(y352.length:Int)then (bH.l0 k l0 (wrap64 (a1 - (l0.length:Int))) (y352.set (0:Int).toNat 1) a1 0)else (none))=some r:=bu hy352 H;have Ny352:=aa hy352;clear hy352;revert H;refine bZ λc6 H=>?_;have c6b0:=decide_eq_true c6;have c6b1:decide (0<y352.length)=true:=decide_eq_true (by omega);clear c6;obtain ⟨y355,hy355⟩:=bv ((y352.set (0:Int).toNat 1):List Int);replace H:(bH.l0 k l0 (wrap64 (a1 - (l0.length:Int))) y355 a1 0)=some r:=bu hy355 H;have Ny355:=aa hy355;clear hy355;have H':=aa H;clear H;go_enter Tryz.func104,Tryz.ntmps104;go_wp2_with (first|((with_reducible refine dm 19 ?_);refine Kd.R_make (Kd.int .i64) _ 3 rfl (N:=19) rfl 22 _ _ rfl ji3 rfl rfl Tryz.underlying22 (.int .i64 0) 8 info3 rfl (by decide) (by omega) 0 (ok:=λ_=>True) (okp:=λ_=>True) rfl (λ_ hk=>hk) trivial (of_decide_eq_true aD) (Nat.le_trans (Nat.mul_le_mul_right _ (of_decide_eq_true aD:ji3.toNat<=35184372088832)) (by omega)) (Below.refl _ _) (Nat.le_refl _) ?_;intro v353 w8 ho9 hb hg_ hnew_;clear hg_ hnew_;(first|rw[<- Ny352.out]at ho9|(simp only[Int.reduceToNat]at ho9;rw[<- Ny352.out]at ho9));have HO354:=aa (Kd.R_lower ho9 (ay af));replace HB:=aa (aj af hb);clear hb ho9;have p7:0<=(0:Int):=(by omega);have q7:(0:Int)<((y352.length:Int):Int):=of_decide_eq_true aD;have qi7:(0<y352.length)=True:=eq_true (by omega);obtain ⟨go7,co7,eo7,gb7,gl7,cl7,HG7⟩:=Kd.R_form HO354.out (by omega);(first|cases eo7|(injection eo7 with ea_ en_ ec_;(first|subst ea_|(injection ea_ with ea_;subst ea_));subst ec_;clear en_));have GB7:=aa gb7;have GG7:=aa HG7;clear gb7 gl7 HG7;obtain ⟨hx7_0,hf7_0⟩:=Kd.R_celln 0 HO354.out (0:Int) p7 q7;(try rw[show ((0:Int)).toNat=0 from rfl]at hx7_0);(try simp only[Nat.reduceMul,Nat.zero_mul,Nat.zero_add,Nat.reduceAdd]at hx7_0);(try rw[show ((0:Int)).toNat=0 from rfl]at hf7_0);(try simp only[Nat.reduceMul,Nat.zero_mul,Nat.zero_add,Nat.reduceAdd]at hf7_0);replace p7:=eq_true p7;replace q7:=eq_true q7;obtain ⟨hy10_,hz10_⟩:=Kd.R_celln 0 HO354.out (0:Int) (by omega) (of_decide_eq_true aD);(try simp only[Int.reduceToNat,Int.toNat_zero,Int.toNat_ofNat,Nat.reduceMul,Nat.zero_mul,Nat.zero_add]at hy10_ hz10_);(try rw[show ((0:Int)).toNat=0 from rfl]at hy10_);(try rw[show ((0:Int)).toNat=0 from rfl]at hz10_);have HP10:=Kd.R_putg HO354.out (0:Int) 1)|((with_reducible refine jh (t:=3) (p:=21) rfl ?_);refine jF (t:=3) (p:=21) (v:=?vo_w11) (w1:=(w8.setCell ⟨go7,(0:Int).toNat,none⟩ (.int .i64 1))) ?hg ?ho ?hn ?hr ?_;(case ho=>rfl);(case hg=>rfl);(case hn=>rfl);(case hr=>exact eO);intro w11 hw;have hg:w8.grownBy w11 (some go7):=(by rw[hw];exact HP10.2);have hp_:Kd.R (Kd.int .i64) 3 w11 w.heap.size (λ_=>True) (.slice (some ⟨go7,0,none⟩) y352.length co7) y355:=(by rw[hw,Ny355.out];exact HP10.1);clear HP10;replace HO354:=aa (hp_);replace HB:=aa ((by rw[hw];exact bf (HB.out) GB7.out:Below w.heap.size w w11));clear hg hw hp_))
 go_loopg [6,23] k (λkq v6 v23 w'=>∃ (x6_1:List Int) (x23_1:Int),v23=.int .i64 x23_1/\ae (bH.l0 kq l0 (wrap64 (a1 - (l0.length:Int))) x6_1 a1 x23_1=some r)/\ae (kq<=k)/\ae (Kd.R (Kd.int .i64) 3 w' w.heap.size (λ_=>True) v6 x6_1)/\ae (Below w.heap.size w w'))
 case atStart=>exact ⟨(y355),(0),ag,H',⟨Nat.le_refl _⟩,⟨ai HO354.out⟩,⟨af⟩⟩
 case round =>
  clear H';obtain ⟨x6_1,x23_1,rfl,HA,HK1,HO_6,HB⟩:=hrel;cases gk with
  | zero=>exact ak HA.out
  | succ k1 =>
   have H:=HA.out;clear HA;simp only[bH.l0]at H;revert H;refine bi (λc12b0 H=>?_) λc12b0 H=>?_
   ·
    obtain ⟨t358,A13,H⟩:=aA H;replace H:(if 0<=(ji3)then (if (ji3:Int).toNat<=35184372088832 then (bH.l1 k1 l0 (wrap64 (a1 - (l0.length:Int))) t358 (List.replicate (ji3:Int).toNat 0) a1 x23_1 x6_1 (x6_1.length:Int) 0 x23_1)else (none))else (none))=some r:=sS
    (try rw[hji3]at A13)
    revert H;refine dI λc14b0 c14b1 H=>?_;revert H;refine dI λc15b0 c15b1 H=>?_;obtain ⟨y359,hy359⟩:=bv ((List.replicate (ji3:Int).toNat 0):List Int);replace H:(bH.l1 k1 l0 (wrap64 (a1 - (l0.length:Int))) t358 y359 a1 x23_1 x6_1 (x6_1.length:Int) 0 x23_1)=some r:=bu hy359 H;have Ny359:=aa hy359;clear hy359;have H':=aa H;clear H
    try go_wp2_with (first|((with_reducible refine dm 7 ?_);refine fJ #[.int .i64 0] 3 ?_;intro gb357 hg w16 hbox hb;replace HO_6:=aa (Kd.R_below (Kd.R_elderB (ai HO_6.out) gb357 (Nat.le_of_eq hg.symm)) hb);have BK357:=aa (hbox);have GW357:=aa ((by rw[hg];exact (ay af):w.heap.size<=gb357));have GE357:=aa ((by rw[hg];exact (ay af):w.heap.size<=gb357));replace HB:=aa (aj af hb);clear hb hbox hg;have hcz17_0:w16.cell? ⟨gb357,0,none⟩=some (.int .i64 0):=(ah BK357.out 0).trans rfl;have hfz17_0:=au BK357.out 0))
    have ak:ae (Kd.R (Kd.int .i64) 3 (w16.setCell ⟨gb357,0,none⟩ (.int .i64 x23_1)) w.heap.size (λk_=>k_≠gb357) u6 x6_1):=⟨by (with_reducible repeat (first|apply Kd.R_alloc|apply Kd.R_drewN|apply Kd.R_drew));exact Kd.R_mono (Kd.R_far (p:=⟨gb357,0,none⟩) (Kd.R_mono HO_6.out (λk_ hk=>(⟨hk,hk.2⟩:_/\k_≠gb357))) (λ_ hk=>hk.2) (.int .i64 x23_1)) (λ_ hk=>hk.1.2)⟩;have n1_:ae ((w16.setCell ⟨gb357,0,none⟩ (.int .i64 x23_1)).heap[gb357]?=some (.cells #[.int .i64 x23_1] 3 (0,0))):=⟨by (with_reducible repeat (first|refine di ?_ _|refine bS ?_|refine bq ?_ _));refine dV (cs:=#[.int .i64 0]) ?_ 0 _ rfl;(with_reducible repeat (first|refine di ?_ _|refine bS ?_|refine bq ?_ _));exact BK357.out⟩;have n2_:ae (Below w.heap.size w (w16.setCell ⟨gb357,0,none⟩ (.int .i64 x23_1))):=⟨aY GE357.out⟩
    (try clear HO_6)
    (try clear BK357)
    (try clear HB)
    generalize (w16.setCell ⟨gb357,0,none⟩ (.int .i64 x23_1))=w18 at ak n1_ n2_ ⊢;have HO_6:=ak;have BK357:=n1_;have HB:=n2_;clear ak n1_ n2_;have ak:=aa (Kd.R_drew HO_6.out);have n1_:=aa (bS BK357.out);have n2_:=aa (dw HB.out);clear HO_6 BK357 HB;have HO_6:=ak;have BK357:=n1_;have HB:=n2_;clear ak n1_ n2_;refine jf (n:=8) (S:=λw'=>True) (ds:=[]) (fe 8 0) (by kernel_rfl) rfl (by kernel_rfl) trivial (λhHeld=>?_);refine j5 bH.tab7 bH.bits7 (λHT_ HW_=>?_)
    generalize w18.drew=w19 at HO_6 BK357 HB hHeld ⊢;refine aK 0 26 8 1 ?_;refine aK 1 27 8 3 ?_;refine aK 3 29 8 11 ?_;refine aK 4 30 8 27 ?_;refine wo (σ:=Value) 1 #[true,true,true,true,true,true,true,false] (λs_=>[(28,.int .i64 t358),(31,s_),(8,.int .i64 t358)]) (λs_ w'=>(Kd.R (Kd.int .i64) 3 w' w.heap.size (λk_=>some k_≠(u6:Value).ownBlock/\k_≠gb357) s_ y359)/\(Kd.R (Kd.int .i64) 3 w' w.heap.size (λk_=>some k_≠(s_:Value).ownBlock/\k_≠gb357) u6 x6_1)/\(w'.heap[gb357]?=some (.cells #[.int .i64 x23_1] 3 (0,0)))/\(Below w.heap.size w w')) ?_ ?_;rotate_left
    ·
     intro hCont;refine uz (i:=2) (j:=5) (Ni:=some 28) (Nj:=some 31) #[true,true,true,true,true,false,false,false] #[true,true,false,true,true,true,false,false] rfl rfl rfl rfl (ul HT_.out (by kernel_rfl)) (by decide) (by decide) (λK hK=>?_) (λK hK=>?_)
     ·
      skip
      refine gq Tryz.func172 (by kernel_rfl) rfl #[.slice A0 l0.length c0,.func (.func 173) #[] #[.pointer (some ⟨gb357,0,none⟩)]] (by rfl) rfl rfl g_ ?_
      with_reducible refine (pK.calls _ _ l0 gb357 x23_1 t358 _ ?s1 ?s2 ?s3 A13.out).mono ?_
      (case s1=>exact bQ HR0.out)
      (case s2=>exact HC0.out)
      (case s3=>exact aJ BK357.out)
      rintro e w' ⟨rfl,⟨nd,rfl⟩⟩;refine ⟨_,rfl,?_⟩;refine hK.out _ _ trivial (λhHeld=>?_);clear hK K;refine eG ?_;refine aK 6 8 8 95 ?_;refine fV 5 (some 31) 8 127 λK hK=>?_;refine Kd.R_make_step (Kd.int .i64) _ 3 (by rfl) (N:=31) rfl 22 _ _ rfl ji3 rfl rfl Tryz.underlying22 (.int .i64 0) 8 info3 rfl (by decide) (by omega) 0 (ok:=λ_=>True) (okp:=λ_=>True) rfl (λ_ hk=>hk) trivial (of_decide_eq_true aD) (Nat.le_trans (Nat.mul_le_mul_right _ (of_decide_eq_true aD:ji3.toNat<=35184372088832)) (by omega)) (Below.refl _ _) (Nat.le_refl _) ?_;intro v360 w20 ho21 hb hg_ hnew_;clear hg_ hnew_
      (first|rw[<- Ny359.out]at ho21|(simp only[Int.reduceToNat]at ho21;rw[<- Ny359.out]at ho21))
      have ak:=aa (Kd.R_elder' (ai HO_6.out) (Kd.R_base ho21) hb);have n1_:=aa (Kd.R_lower (Kd.R_newB (Kd.R_new' ho21 (Kd.R_lt (ai HO_6.out))) (g:=gb357) (o:=.cells #[.int .i64 x23_1] 3 (0,0)) (aJ BK357.out)) (ay (aY GE357.out)));have n2_:=aa (aI (g:=gb357) (o:=.cells #[.int .i64 x23_1] 3 (0,0)) (aJ BK357.out) hb);have n3_:=aa (aj (aY GE357.out) hb);clear HO_6 BK357 HB;have HO_6:=ak;have HO361:=n1_;have BK357:=n2_;have HB:=n3_;clear ak n1_ n2_ n3_ hb ho21;refine hK.out _ _ trivial (λhHeld=>?_);clear hK K;refine eG ?_;exact ll qN (hCont (v360) _ ⟨(wD HO361.out),(zO HO_6.out),(aJ BK357.out),(aY GE357.out)⟩)
     ·
      skip
      refine Kd.R_make_step (Kd.int .i64) _ 3 (by rfl) (N:=31) rfl 22 _ _ rfl ji3 rfl rfl Tryz.underlying22 (.int .i64 0) 8 info3 rfl (by decide) (by omega) 0 (ok:=λ_=>True) (okp:=λ_=>True) rfl (λ_ hk=>hk) trivial (of_decide_eq_true aD) (Nat.le_trans (Nat.mul_le_mul_right _ (of_decide_eq_true aD:ji3.toNat<=35184372088832)) (by omega)) (Below.refl _ _) (Nat.le_refl _) ?_;intro v360 w20 ho21 hb hg_ hnew_;clear hg_ hnew_
      (first|rw[<- Ny359.out]at ho21|(simp only[Int.reduceToNat]at ho21;rw[<- Ny359.out]at ho21))
      have ak:=aa (Kd.R_elder' (ai HO_6.out) (Kd.R_base ho21) hb);have n1_:=aa (Kd.R_lower (Kd.R_newB (Kd.R_new' ho21 (Kd.R_lt (ai HO_6.out))) (g:=gb357) (o:=.cells #[.int .i64 x23_1] 3 (0,0)) (aJ BK357.out)) (ay (aY GE357.out)));have n2_:=aa (aI (g:=gb357) (o:=.cells #[.int .i64 x23_1] 3 (0,0)) (aJ BK357.out) hb);have n3_:=aa (aj (aY GE357.out) hb);clear HO_6 BK357 HB;have HO_6:=ak;have HO361:=n1_;have BK357:=n2_;have HB:=n3_;clear ak n1_ n2_ n3_ hb ho21;refine hK.out _ _ trivial (λhHeld=>?_);clear hK K;refine eG ?_;refine fV 2 (some 28) 8 63 λK hK=>?_;refine gq Tryz.func172 (by kernel_rfl) rfl #[.slice A0 l0.length c0,.func (.func 173) #[] #[.pointer (some ⟨gb357,0,none⟩)]] (by rfl) rfl rfl g_ ?_
      with_reducible refine (pK.calls _ _ l0 gb357 x23_1 t358 _ ?s1 ?s2 ?s3 A13.out).mono ?_
      (case s1=>exact bQ HR0.out)
      (case s2=>exact HC0.out)
      (case s3=>exact aJ BK357.out)
      rintro e w' ⟨rfl,⟨nd,rfl⟩⟩;refine ⟨_,rfl,?_⟩;refine hK.out _ _ trivial (λhHeld=>?_);clear hK K;refine eG ?_;refine aK 6 8 8 127 ?_;exact ll qN (hCont (v360) _ ⟨(wD HO361.out),(zO HO_6.out),(aJ BK357.out),(aY GE357.out)⟩)
    rintro v360 w22 ⟨h0_,h1_,h2_,h3_⟩;have ak:ae (Kd.R (Kd.int .i64) 3 w22 w.heap.size (λk_=>some k_≠(u6:Value).ownBlock/\k_≠gb357) v360 y359):=⟨h0_⟩;have n1_:ae (Kd.R (Kd.int .i64) 3 w22 w.heap.size (λk_=>some k_≠(v360:Value).ownBlock/\k_≠gb357) u6 x6_1):=⟨h1_⟩;have n2_:ae (w22.heap[gb357]?=some (.cells #[.int .i64 x23_1] 3 (0,0))):=⟨h2_⟩;have n3_:ae (Below w.heap.size w w22):=⟨h3_⟩;clear HO_6 BK357 HB h0_ h1_ h2_ h3_;have HO361:=ak;have HO_6:=n1_;have BK357:=n2_;have HB:=n3_;clear ak n1_ n2_ n3_;have hHeld:=trivial;refine ll (a':=?_) ?_ ?_;rotate_left
    ·
     simp only[o6,Act.put,List.setIfInBounds_toArray,List.set_cons_zero,List.set_cons_succ];rfl
    refine aK 7 9 8 255 ?_;refine iQ (jm HT_.out (by kernel_rfl)) ?_;obtain ⟨Ao23,co23,eo23⟩:=Kd.R_slice HO_6.out;subst eo23
    try go_wp2
    go_loopg [34] k1 (λkq v34 w'=>∃ (x9_2:List Int) (x34_2:Int),v34=.int .i64 x34_2/\ae (bH.l1 kq l0 (wrap64 (a1 - (l0.length:Int))) t358 x9_2 a1 x23_1 x6_1 (x6_1.length:Int) x34_2 x23_1=some r)/\ae (kq<=k1)/\ae (Kd.R (Kd.int .i64) 3 w' w.heap.size (λk_=>some k_≠((.slice Ao23 x6_1.length co23):Value).ownBlock/\k_≠gb357) v360 x9_2)/\ae (Kd.R (Kd.int .i64) 3 w' w.heap.size (λk_=>some k_≠(v360:Value).ownBlock/\k_≠gb357) (.slice Ao23 x6_1.length co23) x6_1)/\ae (w'.heap[gb357]?=some (.cells #[.int .i64 x23_1] 3 (0,0)))/\ae (Below w.heap.size w w'))
    case atStart=>exact ⟨(y359),(0),ag,H',⟨Nat.le_refl _⟩,⟨ai HO361.out⟩,⟨ai HO_6.out⟩,⟨aJ BK357.out⟩,⟨aY GE357.out⟩⟩
    case round =>
     clear H';obtain ⟨x9_2,x34_2,rfl,HA,HK2,HO_9,HO_32,BK357,HB⟩:=hrel;cases gk with
     | zero=>exact ak HA.out
     | succ k2 =>
      have H:=HA.out;clear HA;simp only[bH.l1]at H;revert H;refine bi (λc24b0 H=>?_) λc24b0 H=>?_
      ·
       revert H;refine aX λc25b0 H=>?_;revert H;refine aX λc26b0 H=>?_;have H':=aa H;clear H;obtain ⟨ad362,rfl,hx362_0,p362,q362⟩:=bW (f_ HO_32.out) x34_2;go_wp2
       go_loopg [12] k2 (λkq v12 w'=>∃ (x9_3:List Int) (x12_3:Int),v12=.int .i64 x12_3/\ae (bH.l2 kq l0 (wrap64 (a1 - (l0.length:Int))) t358 x9_3 x34_2 (rd x6_1 x34_2) x12_3 a1 x23_1 x6_1 (x6_1.length:Int) x34_2 x23_1=some r)/\ae (kq<=k2)/\ae (Kd.R (Kd.int .i64) 3 w' w.heap.size (λk_=>some k_≠((.slice (some ad362) x6_1.length co23):Value).ownBlock/\k_≠gb357) v360 x9_3)/\ae (Kd.R (Kd.int .i64) 3 w' w.heap.size (λk_=>some k_≠(v360:Value).ownBlock/\k_≠gb357) (.slice (some ad362) x6_1.length co23) x6_1)/\ae (w'.heap[gb357]?=some (.cells #[.int .i64 x23_1] 3 (0,0)))/\ae (Below w.heap.size w w'))
       case atStart=>exact ⟨(x9_2),(0),ag,H',⟨Nat.le_refl _⟩,⟨ai HO_9.out⟩,⟨ai HO_32.out⟩,⟨aJ BK357.out⟩,⟨aY GE357.out⟩⟩
       case round =>
        clear H';obtain ⟨x9_3,x12_3,rfl,HA,HK3,HO_9,HO_32,BK357,HB⟩:=hrel;cases gk with
        | zero=>exact ak HA.out
        | succ k3 =>
         have H:=HA.out;clear HA;simp only[bH.l2]at H;revert H;refine bi (λc27b0 H=>?_) λc27b0 H=>?_
         ·
          revert H;refine bi (λc28b0 H=>?_) λc28b0 H=>?_
          ·
           obtain ⟨ji29,hji29⟩:∃j_:Int,(wrap64 (x34_2+x12_3))=j_:=⟨_,rfl⟩;replace H:(if 0<=(ji29)then (if (ji29)<(x9_3.length:Int)then ((fQ.f k3 (wrap64 ((wrap64 (a1 - (l0.length:Int))) - x34_2)) x12_3).bind λt364=>(bH.l2 k3 l0 (wrap64 (a1 - (l0.length:Int))) t358 (x9_3.set ((ji29):Int).toNat (wrap64 ((rd x9_3 (ji29))+(wrap64 ((rd x6_1 x34_2) * t364))))) x34_2 (rd x6_1 x34_2) (wrap64 (x12_3+1)) a1 x23_1 x6_1 (x6_1.length:Int) x34_2 x23_1))else (none))else (none))=some r:=by first|(rw[hji29]at H;exact H)|(simp only[hji29]at H ⊢;exact H)
           (try rw[hji29]at c27b0)
           have hji29w:(IntKind.i64.wrap (x34_2+x12_3))=ji29:=(cO _).trans hji29;revert H;refine aX λc30b0 H=>?_;revert H;refine aX λc31b0 H=>?_;obtain ⟨t364,A32,H⟩:=aA H;obtain ⟨y365,hy365⟩:=bv ((x9_3.set ((ji29):Int).toNat (wrap64 ((rd x9_3 (ji29))+(wrap64 ((rd x6_1 x34_2) * t364))))):List Int);replace H:(bH.l2 k3 l0 (wrap64 (a1 - (l0.length:Int))) t358 y365 x34_2 (rd x6_1 x34_2) (wrap64 (x12_3+1)) a1 x23_1 x6_1 (x6_1.length:Int) x34_2 x23_1)=some r:=bu hy365 H;have Ny365:=aa hy365;clear hy365;have H':=aa H;clear H;have hcz34_0:wr.cell? ⟨gb357,0,none⟩=some (.int .i64 x23_1):=(ah BK357.out 0).trans rfl;have hfz34_0:=au BK357.out 0
           try go_wp2
           have ak:=aa (Kd.R_drew HO_9.out);have n1_:=aa (Kd.R_drew HO_32.out);have n2_:=aa (bS BK357.out);have n3_:=aa (dw HB.out);clear HO_9 HO_32 BK357 HB;have HO_9:=ak;have HO_32:=n1_;have BK357:=n2_;have HB:=n3_;clear ak n1_ n2_ n3_;obtain ⟨Ao36,co36,eo36⟩:=Kd.R_slice HO_9.out
           (first|subst eo36|(injection eo36 with f1_ f2_ f3_;have f4_:=f1_.symm;have f5_:=f3_.symm;clear f1_ f2_ f3_;subst f4_;subst f5_))
           obtain ⟨ad363,rfl,hx363_0,p363,q363⟩:=bW (f_ HO_9.out) (ji29);refine jf (n:=16) (S:=λw'=>w'.cell? (ad363.add ((ji29)).toNat)=some (.int .i64 (rd x9_3 (ji29)))) (ds:=[15]) (fe 16 0) (by kernel_rfl) rfl (by kernel_rfl) (hx363_0) (λhHeld=>?_);refine j5 bH.tab15 bH.bits15 (λHT_ HW_=>?_)
           generalize wr.drew=w35 at HO_9 HO_32 BK357 HB hx363_0 hHeld ⊢;refine aK 0 53 16 1 ?_;refine aK 1 54 16 3 ?_;refine aK 2 55 16 7 ?_;refine aK 3 56 16 15 ?_;refine aK 4 57 16 31 ?_;refine aK 6 59 16 95 ?_;refine aK 7 60 16 223 ?_;refine aK 8 61 16 479 ?_;refine aK 9 62 16 991 ?_;refine aK 10 63 16 2015 ?_;refine il 5 58 16 2047 ?_;refine fV 11 (some 64) 16 4095 λK hK=>?_;refine gq Tryz.func174 (by kernel_rfl) rfl #[.int .i64 (wrap64 ((wrap64 (a1 - (l0.length:Int))) - x34_2)),.int .i64 x12_3] (by rfl) rfl rfl g_ ?_
           with_reducible refine (fQ.calls k3 (wrap64 ((wrap64 (a1 - (l0.length:Int))) - x34_2)) x12_3 t364 _ A32.out).mono ?_
           rintro e w' ⟨rfl,⟨nd,rfl⟩⟩;refine ⟨_,rfl,?_⟩;have p33:0<=((ji29):Int):=of_decide_eq_true aD;have q33:((ji29):Int)<((x9_3.length:Int):Int):=of_decide_eq_true aD;obtain ⟨go33,co33,eo33,gb33,gl33,cl33,HG33⟩:=Kd.R_form HO_9.out (by omega)
           (first|cases eo33|(injection eo33 with ea_ en_ ec_;(first|subst ea_|(injection ea_ with ea_;subst ea_));subst ec_;clear en_))
           have GB33:=aa gb33;have GG33:=aa HG33;clear gb33 gl33 HG33
           (first|simp only[add_plain]at hx363_0|skip)
           obtain ⟨hx33_0,hf33_0⟩:=Kd.R_celln 0 HO_9.out ((ji29):Int) p33 q33;replace p33:=eq_true p33;replace q33:=eq_true q33;have HP37:=Kd.R_putn HO_9.out ((ji29):Int) (wrap64 ((rd x9_3 (ji29))+(wrap64 ((rd x6_1 x34_2) * t364))));rw[<- Ny365.out]at HP37;have HQ37:=aa HP37;clear HP37;refine hK.out _ _ (hHeld) (λhHeld=>?_);clear hK K;refine eG ?_;refine aK 12 65 16 8191 ?_;refine aK 13 66 16 16383 ?_;refine aK 14 67 16 32767 ?_;refine rH 15 none 16 65535 λK hK=>?_;refine qi (w1:=?_) (by rfl) rfl ?_ ?_;rotate_left
           ·
            go_simp;rfl
           refine hK.out _ _ ?_;clear hK K;refine iQ (jm HT_.out (by kernel_rfl)) ?_
           try go_wp2
           go_roundg k3
           case measure=>have:=HK1.out;have:=HK2.out;have:=HK3.out;omega
           case rel=>exact ⟨(y365),(wrap64 (x12_3+1)),ag,H',⟨kU HK1.out HK2.out HK3.out⟩,⟨ai HQ37.out⟩,⟨by (with_reducible repeat (first|apply Kd.R_alloc|apply Kd.R_drewN|apply Kd.R_drew));exact Kd.R_mono (Kd.R_far (p:=⟨go33,((ji29):Int).toNat,none⟩) (Kd.R_mono HO_32.out (λk_ hk=>(⟨hk,λe_=>hk.1 (by rw[e_];rfl)⟩:_/\k_≠go33))) (λ_ hk=>hk.2) (.int .i64 (wrap64 ((rd x9_3 (ji29))+(wrap64 ((rd x6_1 x34_2) * t364)))))) (λ_ hk=>⟨hk.1.1,hk.1.2⟩)⟩,⟨by (with_reducible repeat (first|refine di ?_ _|refine bS ?_|refine bq ?_ _));refine fZ ?_ (by have h_:=Kd.R_away HO_9.out (λ_ hk=>hk.2);intro e_;exact h_ (by rw[e_];rfl)) _;(with_reducible repeat (first|refine di ?_ _|refine bS ?_|refine bq ?_ _));exact BK357.out⟩,⟨dM GB33.out GE357.out⟩⟩
          have H':=aa H;clear H;have hcz38_0:wr.cell? ⟨gb357,0,none⟩=some (.int .i64 x23_1):=(ah BK357.out 0).trans rfl;have hfz38_0:=au BK357.out 0;go_wp2;go_roundg k3
          case measure=>have:=HK1.out;have:=HK2.out;have:=HK3.out;omega
          case rel=>exact ⟨(x9_3),(wrap64 (x12_3+1)),ag,H',⟨kU HK1.out HK2.out HK3.out⟩,⟨ai HO_9.out⟩,⟨ai HO_32.out⟩,⟨aJ BK357.out⟩,⟨aY GE357.out⟩⟩
         have H':=aa H;clear H;go_wp2;go_roundg k3
         case measure=>have:=HK1.out;have:=HK2.out;have:=HK3.out;omega
         case rel=>exact ⟨(x9_3),(wrap64 (x34_2+1)),ag,H',⟨kU HK1.out HK2.out HK3.out⟩,⟨ai HO_9.out⟩,⟨ai HO_32.out⟩,⟨aJ BK357.out⟩,⟨aY GE357.out⟩⟩
      have H':=aa H;clear H;go_wp2;go_roundg k2
      case measure=>have:=HK1.out;have:=HK2.out;omega
      case rel=>exact ⟨(x9_2),(wrap64 (x23_1+1)),ag,H',⟨dR HK1.out HK2.out⟩,⟨kJ HO_9.out⟩,⟨aY GE357.out⟩⟩
   obtain ⟨ji39,hji39⟩:∃j_:Int,(wrap64 (a1 - (l0.length:Int)))=j_:=⟨_,rfl⟩;replace H:(if 0<=(ji39)then (if (ji39)<(x6_1.length:Int)then (some (rd x6_1 (ji39)))else (none))else (none))=some r:=by first|(rw[hji39]at H;exact H)|(simp only[hji39]at H ⊢;exact H)
   have hji39w:(IntKind.i64.wrap (a1 - (l0.length:Int)))=ji39:=(cO _).trans hji39;revert H;refine aX λc40b0 H=>?_;revert H;refine aX λc41b0 H=>?_;obtain rfl:=Option.some.inj H;obtain ⟨Ao42,co42,eo42⟩:=Kd.R_slice HO_6.out;subst eo42;obtain ⟨ad356,rfl,hx356_0,p356,q356⟩:=bW (f_ HO_6.out) (ji39);go_wp2;go_ret;exact ⟨by first|rfl|(simp[ig,ic] <;> rfl)|(simp only[<- hji3,<- hji39];first|rfl|(simp[ig,ic] <;> rfl))|(simp[*,ig,ic] <;> rfl),af⟩
mutual
def fD.l0:Nat->Int->Int->List Int->Option (List Int)
 | 0,_,_,_=>none
 | k+1,x0,x1,x5=>if (x5.length:Int)<x0 then (fD.l1 k x0 x1 x5 0)else (some x5)
def fD.l1:Nat->Int->Int->List Int->Int->Option (List Int)
 | 0,_,_,_,_=>none
 | k+1,x0,x1,x5,x6=>(iw.f x5).bind λt369=>(if t369.length<17592186044416 then ((bH.f k (t369++[x6]) x0).bind λt375=>(if x1<t375 then (if x5.length<17592186044416 then (fD.l0 k x0 x1 (x5++[x6]))else (none))else (fD.l1 k x0 (wrap64 (x1 - t375)) x5 (wrap64 (x6+1)))))else (none))
end
def fD.f(k:Nat)(a0:Int)(a1:Int):Option (List Int):=fD.l0 k a0 a1 (([]:List Int))
theorem fD.calls(k:Nat)(a0:Int)(a1:Int)(r:List Int)(w:World)(h:fD.f k a0 a1=some r) :
  Calls Tryz.prog 103 #[.int .i64 a0,.int .i64 a1] w λe w'=>∃v0_:Value,e=.returned (v0_)/\Kd.R (Kd.int .i64) 3 w' w.heap.size (λ_=>True) v0_ r/\Below w.heap.size w w':=by
 have HB:=aa (Below.refl w.heap.size w);unfold fD.f at h;have H:=h;clear h;obtain ⟨y366,hy366⟩:=bv ((([]:List Int)):List Int);replace H:(fD.l0 k a0 a1 y366)=some r:=bu hy366 H;have Ny366:=aa hy366;clear hy366;have H':=aa H;clear H;go_enter Tryz.func103,Tryz.ntmps103;go_wp2_with (first|((with_reducible refine dm 8 ?_);refine Kd.R_lit (Kd.int .i64) _ 3 ?hg (N:=8) ?hd (xs:=([]:List Int)) (inner:=[]) (ok:=λ_=>True) (okp:=λ_=>True) ?hr ?hp (λ_ hk=>hk) trivial (Below.refl _ _) (Nat.le_refl _) (by simp) ?_;(case hd=>rfl);(case hg=>rfl);(case hr=>exact eO);(case hp=>exact (bG.none _ _));intro v367 w3 ho4 hb hg_ hnew_;clear hg_ hnew_;(first|rw[<- Ny366.out]at ho4|(simp only[Int.reduceToNat]at ho4;rw[<- Ny366.out]at ho4));have HO368:=aa (Kd.R_lower ho4 (ay af));replace HB:=aa (aj af hb);clear hb ho4))
 go_loopg [1,5] k (λkq v1 v5 w'=>∃ (x1_1:Int) (x5_1:List Int),v1=.int .i64 x1_1/\ae (fD.l0 kq a0 x1_1 x5_1=some r)/\ae (kq<=k)/\ae (Kd.R (Kd.int .i64) 3 w' w.heap.size (λ_=>True) v5 x5_1)/\ae (Below w.heap.size w w'))
 case atStart=>exact ⟨(a1),(y366),ag,H',⟨Nat.le_refl _⟩,⟨ai HO368.out⟩,⟨af⟩⟩
 case round =>
  clear H';obtain ⟨x1_1,x5_1,rfl,HA,HK1,HO_5,HB⟩:=hrel;cases gk with
  | zero=>exact ak HA.out
  | succ k1 =>
   have H:=HA.out;clear HA;simp only[fD.l0]at H;revert H;refine bi (λc5b0 H=>?_) λc5b0 H=>?_
   ·
    have H':=aa H;clear H;obtain ⟨Ao6,co6,eo6⟩:=Kd.R_slice HO_5.out;subst eo6;go_wp2
    go_loopg [1,6] k1 (λkq v1 v6 w'=>∃ (x1_2:Int) (x6_2:Int),v1=.int .i64 x1_2/\v6=.int .i64 x6_2/\ae (fD.l1 kq a0 x1_2 x5_1 x6_2=some r)/\ae (kq<=k1)/\ae (Kd.R (Kd.int .i64) 3 w' w.heap.size (λ_=>True) (.slice Ao6 x5_1.length co6) x5_1)/\ae (Below w.heap.size w w'))
    case atStart=>exact ⟨(x1_1),(0),ag,ag,H',⟨Nat.le_refl _⟩,⟨ai HO_5.out⟩,⟨af⟩⟩
    case round =>
     clear H';obtain ⟨x1_2,x6_2,rfl,rfl,HA,HK2,HO_5,HB⟩:=hrel;cases gk with
     | zero=>exact ak HA.out
     | succ k2 =>
      have H:=HA.out;clear HA;simp only[fD.l1]at H;obtain ⟨t369,A7,H⟩:=aA H;revert H;refine bZ λc8 H=>?_;have LMc8:=aa c8;clear c8;obtain ⟨y372,hy372⟩:=bv ((t369++[x6_2]):List Int);replace H:((bH.f k2 y372 a0).bind λt375=>(if x1_2<t375 then (if x5_1.length<17592186044416 then (fD.l0 k2 a0 x1_2 (x5_1++[x6_2]))else (none))else (fD.l1 k2 a0 (wrap64 (x1_2 - t375)) x5_1 (wrap64 (x6_2+1)))))=some r:=bu hy372 H
      have Ny372:=aa hy372;clear hy372;obtain ⟨t375,A9,H⟩:=aA H;revert H;refine bi (λc10b0 H=>?_) λc10b0 H=>?_
      ·
       revert H;refine bZ λc11 H=>?_;have LMc11:=aa c11;clear c11;obtain ⟨y376,hy376⟩:=bv ((x5_1++[x6_2]):List Int);replace H:(fD.l0 k2 a0 x1_2 y376)=some r:=bu hy376 H;have Ny376:=aa hy376;clear hy376;have H':=aa H;clear H;go_wp2_with (first|((with_reducible refine av 53 ?_);refine ax 14 Tryz.func53 #[.slice Ao6 x5_1.length co6] ?_;(with_reducible refine (iw.calls _ _ x5_1 t369 _ ?s1 ?s2 A7.out).mono ?_);(case s1=>exact eH HO_5.out);(case s2=>exact (Kd.R_reads' HO_5.out).2.1);rintro e w12 ⟨v370,rfl,ho0,hb⟩;refine ⟨_,rfl,?_⟩;have HO371:=aa (Kd.R_lower (Kd.R_new' ho0 (Kd.R_lt (ai HO_5.out))) (ay af));replace HO_5:=aa (Kd.R_elder' (ai HO_5.out) (Kd.R_base ho0) hb);replace HB:=aa (aj af hb);clear hb ho0)|((with_reducible refine dE (b:=.append) (xs:=#[.tmp 14,.tmp 16]) rfl ?_);at_builtin;refine eQ (w0:=w) (.tmp 14) (.tmp 16) v370 t369 x6_2 (λk_=>some k_≠(.slice Ao6 x5_1.length co6:Value).ownBlock) (λk_ hk=>Kd.fresh' (Kd.R_lt (ai HO_5.out)) k_ hk) (lC HO371.out) af (by exact bB LMc8.out) ?_;intro v373 w13 ho hb hg hat;rw[<- Ny372.out]at ho;replace HO_5:=aa (Kd.R_after (ok:=(λ_=>True)) (ai HO_5.out) hg hat);replace HB:=aa (hb);have HO374:=aa (ho);clear ho hb hg hat;obtain ⟨Ao14,co14,eo14⟩:=Kd.R_slice HO374.out;subst eo14)|((with_reducible refine av 104 ?_);refine ax 19 Tryz.func104 #[.slice Ao14 y372.length co14,.int .i64 a0] ?_;(with_reducible refine (bH.calls k2 _ _ y372 a0 t375 _ ?s1 ?s2 A9.out).mono ?_);(case s1=>exact eH HO374.out);(case s2=>exact (Kd.R_reads' HO374.out).2.1);rintro e w15 ⟨rfl,hb⟩;refine ⟨_,rfl,?_⟩;replace HO_5:=aa (Kd.R_below (ai HO_5.out) hb);replace HO374:=aa (Kd.R_below (ai HO374.out) hb);replace HB:=aa (aj af hb);clear hb)|((with_reducible refine dE (b:=.append) (xs:=#[.tmp 28,.tmp 30]) rfl ?_);at_builtin;refine eQ (w0:=w) (.tmp 28) (.tmp 30) (.slice Ao6 x5_1.length co6) x5_1 x6_2 (λk_=>some k_≠(.slice Ao14 y372.length co14:Value).ownBlock) (λk_ hk=>Kd.fresh' (Kd.R_lt (ai HO374.out)) k_ hk) (lC HO_5.out) af (by exact bB LMc11.out) ?_;intro v377 w16 ho hb hg hat;rw[<- Ny376.out]at ho;replace HO374:=aa (Kd.R_after (ok:=(λ_=>True)) (xy HO374.out) hg hat);replace HB:=aa (hb);have HO378:=aa (ho);clear ho hb hg hat));go_roundg k2
       case measure=>have:=HK1.out;have:=HK2.out;omega
       case rel=>exact ⟨(x1_2),(y376),ag,H',⟨dR HK1.out HK2.out⟩,⟨kJ HO378.out⟩,⟨af⟩⟩
      have H':=aa H;clear H;go_wp2_with (first|((with_reducible refine av 53 ?_);refine ax 14 Tryz.func53 #[.slice Ao6 x5_1.length co6] ?_;(with_reducible refine (iw.calls _ _ x5_1 t369 _ ?s1 ?s2 A7.out).mono ?_);(case s1=>exact eH HO_5.out);(case s2=>exact (Kd.R_reads' HO_5.out).2.1);rintro e w17 ⟨v370,rfl,ho0,hb⟩;refine ⟨_,rfl,?_⟩;have HO371:=aa (Kd.R_lower (Kd.R_new' ho0 (Kd.R_lt (ai HO_5.out))) (ay af));replace HO_5:=aa (Kd.R_elder' (ai HO_5.out) (Kd.R_base ho0) hb);replace HB:=aa (aj af hb);clear hb ho0)|((with_reducible refine dE (b:=.append) (xs:=#[.tmp 14,.tmp 16]) rfl ?_);at_builtin;refine eQ (w0:=w) (.tmp 14) (.tmp 16) v370 t369 x6_2 (λk_=>some k_≠(.slice Ao6 x5_1.length co6:Value).ownBlock) (λk_ hk=>Kd.fresh' (Kd.R_lt (ai HO_5.out)) k_ hk) (lC HO371.out) af (by exact bB LMc8.out) ?_;intro v373 w18 ho hb hg hat;rw[<- Ny372.out]at ho;replace HO_5:=aa (Kd.R_after (ok:=(λ_=>True)) (ai HO_5.out) hg hat);replace HB:=aa (hb);have HO374:=aa (ho);clear ho hb hg hat;obtain ⟨Ao19,co19,eo19⟩:=Kd.R_slice HO374.out;subst eo19)|((with_reducible refine av 104 ?_);refine ax 19 Tryz.func104 #[.slice Ao19 y372.length co19,.int .i64 a0] ?_;(with_reducible refine (bH.calls k2 _ _ y372 a0 t375 _ ?s1 ?s2 A9.out).mono ?_);(case s1=>exact eH HO374.out);(case s2=>exact (Kd.R_reads' HO374.out).2.1);rintro e w20 ⟨rfl,hb⟩;refine ⟨_,rfl,?_⟩;replace HO_5:=aa (Kd.R_below (ai HO_5.out) hb);replace HO374:=aa (Kd.R_below (ai HO374.out) hb);replace HB:=aa (aj af hb);clear hb));go_roundg k2
      case measure=>have:=HK1.out;have:=HK2.out;omega
      case rel=>exact ⟨(wrap64 (x1_2 - t375)),(wrap64 (x6_2+1)),ag,ag,H',⟨dR HK1.out HK2.out⟩,⟨kJ HO_5.out⟩,⟨af⟩⟩
   obtain rfl:=Option.some.inj H;obtain ⟨Ao21,co21,eo21⟩:=Kd.R_slice HO_5.out;subst eo21;go_wp2;go_ret;exact ⟨_,aU,ai HO_5.out,af⟩
def mi.f(k:Nat)(a0:Int)(a1:Int):Option (List Int × Bool):=(ji.f a0).bind λt379=>(if t379=true then ((jC.f k a0).bind λt380=>((gB.f a1 0 (wrap64 (t380 - 1))).bind λt381=>(if t381=true then ((fD.f k a0 a1).bind λt382=>(some (t382,true)))else (some (([]:List Int),false)))))else (some (([]:List Int),false)))
theorem mi.calls(k:Nat)(a0:Int)(a1:Int)(r1:List Int)(r2:Bool)(w:World)(h:mi.f k a0 a1=some (r1,r2)) :
  Calls Tryz.prog 63 #[.int .i64 a0,.int .i64 a1] w λe w'=>∃v0_:Value,e=.returned (.tuple #[v0_,.bool r2])/\Kd.R (Kd.int .i64) 3 w' w.heap.size (λ_=>True) v0_ r1/\Below w.heap.size w w':=by
 have HB:=aa (Below.refl w.heap.size w);unfold mi.f at h;have H:=h;clear h;obtain ⟨t379,A3,H⟩:=aA H;revert H;refine bA (λc4 H=>?_) λc4 H=>?_
 ·
  subst c4;obtain ⟨t380,A5,H⟩:=aA H;obtain ⟨t381,A6,H⟩:=aA H;revert H;refine bA (λc7 H=>?_) λc7 H=>?_
  ·
   subst c7;obtain ⟨t382,A8,H⟩:=aA H;obtain ⟨rfl,rfl⟩:=dB H;go_enter Tryz.func63,Tryz.ntmps63;go_wp2_with (first|((with_reducible refine av 100 ?_);refine ax 7 Tryz.func100 #[.int .i64 a0] ?_;(with_reducible refine (ji.calls a0 true _ A3.out).mono ?_);rintro e w' ⟨rfl,⟨nd,rfl⟩⟩;refine ⟨_,rfl,?_⟩)|(go_at_call 102;(with_reducible refine (jC.calls k a0 t380 _ A5.out).mono ?_);rintro e w9 ⟨rfl,hb⟩;replace HB:=aa (aj af hb);clear hb)|(go_at_call 101;(with_reducible refine (gB.calls a1 0 (wrap64 (t380 - 1)) true _ A6.out).mono ?_);rintro e w' ⟨rfl,⟨nd,rfl⟩⟩)|((with_reducible refine av 103 ?_);refine ax 19 Tryz.func103 #[.int .i64 a0,.int .i64 a1] ?_;(with_reducible refine (fD.calls k a0 a1 t382 _ A8.out).mono ?_);rintro e w10 ⟨v383,rfl,ho0,hb⟩;refine ⟨_,rfl,?_⟩;have HO384:=aa (Kd.R_lower ho0 (ay af));replace HB:=aa (aj af hb);clear hb ho0));go_ret2;exact ⟨_,aU,ai HO384.out,af⟩
  subst c7;obtain ⟨rfl,rfl⟩:=dB H;go_enter Tryz.func63,Tryz.ntmps63;go_wp2_with (first|((with_reducible refine av 100 ?_);refine ax 7 Tryz.func100 #[.int .i64 a0] ?_;(with_reducible refine (ji.calls a0 true _ A3.out).mono ?_);rintro e w' ⟨rfl,⟨nd,rfl⟩⟩;refine ⟨_,rfl,?_⟩)|(go_at_call 102;(with_reducible refine (jC.calls k a0 t380 _ A5.out).mono ?_);rintro e w11 ⟨rfl,hb⟩;replace HB:=aa (aj af hb);clear hb)|(go_at_call 101;(with_reducible refine (gB.calls a1 0 (wrap64 (t380 - 1)) false _ A6.out).mono ?_);rintro e w' ⟨rfl,⟨nd,rfl⟩⟩));go_ret2;exact ⟨_,aU,d9,af⟩
 subst c4;obtain ⟨rfl,rfl⟩:=dB H;go_enter Tryz.func63,Tryz.ntmps63;go_wp2_with (first|((with_reducible refine av 100 ?_);refine ax 7 Tryz.func100 #[.int .i64 a0] ?_;(with_reducible refine (ji.calls a0 false _ A3.out).mono ?_);rintro e w' ⟨rfl,⟨nd,rfl⟩⟩;refine ⟨_,rfl,?_⟩));go_ret2;exact ⟨_,aU,d9,af⟩
def mI.f(l0:List Int):Option (Bool):=if (l0.length:Int)<=8 then ((iE.f l0 0 99).bind λt385=>(some t385))else (some false)
theorem mI.calls(A0:Option Addr)(c0:Nat)(l0:List Int)(r:Bool)(w:World)(hr0:Kd.C (Kd.int .i64) w A0 l0.length l0)(hc0:l0.length<=c0)(h:mI.f l0=some r) :
  Calls Tryz.prog 92 #[.slice A0 l0.length c0] w λe w'=>e=.returned (.bool r)/\Below w.heap.size w w':=by
 have HR0:=aa hr0;have HC0:=aa hc0;clear hr0 hc0;have HB:=aa (Below.refl w.heap.size w);unfold mI.f at h;have H:=h;clear h
 by_cases c2:(l0.length:Int)<=8
 ·
  rw[if_pos c2]at H;have c2b0:=decide_eq_true c2;have c2b1:decide (l0.length<=8)=true:=decide_eq_true (by omega);clear c2;obtain ⟨t385,A3,H⟩:=aA H;obtain rfl:=Option.some.inj H;go_enter Tryz.func92,Tryz.ntmps92;go_wp2_with (first|(go_at_call 95;(with_reducible refine (iE.calls _ _ l0 0 99 t385 _ ?s1 ?s2 A3.out).mono ?_);(case s1=>exact dU HR0.out);(case s2=>exact HC0.out);rintro e w4 ⟨rfl,hb⟩;replace HB:=aa (aj af hb);clear hb));go_ret;exact ⟨aU,af⟩
 rw[if_neg c2]at H;have c2b0:=decide_eq_false c2;have c2b1:decide (l0.length<=8)=false:=decide_eq_false (by omega);clear c2;obtain rfl:=Option.some.inj H;go_enter Tryz.func92,Tryz.ntmps92;go_wp2;go_ret;exact ⟨aU,af⟩
mutual
def dL.l0:Nat->Int->List Bool->List Int->List Int->Int->Int->Option (List Int × Bool)
 | 0,_,_,_,_,_,_=>none
 | k+1,x1,x6,x7,x13,x14,x15=>if x15<x14 then (if 0<=x15 then (if x15<(x13.length:Int)then (dL.l1 k x1 x6 x7 (rd x13 x15) x13 x14 x15)else (none))else (none))else (some (x7,true))
def dL.l1:Nat->Int->List Bool->List Int->Int->List Int->Int->Int->Option (List Int × Bool)
 | 0,_,_,_,_,_,_,_=>none
 | k+1,x1,x6,x7,x9,x13,x14,x15=>if x9<x1 then (if 0<=x9 then (if x9<(x6.length:Int)then (if dS false x6 x9=true then (dL.l1 k x1 x6 x7 (wrap64 (x9+1)) x13 x14 x15)else (if x9 >= x1 then (some (([]:List Int),false))else (if x7.length<17592186044416 then (dL.l0 k x1 (x6.set (x9:Int).toNat true) (x7++[x9]) x13 x14 (wrap64 (x15+1)))else (none))))else (none))else (none))else (if x9 >= x1 then (some (([]:List Int),false))else (if 0<=x9 then (if x9<(x6.length:Int)then (if x7.length<17592186044416 then (dL.l0 k x1 (x6.set (x9:Int).toNat true) (x7++[x9]) x13 x14 (wrap64 (x15+1)))else (none))else (none))else (none)))
end
def dL.f(k:Nat)(l0:List Int)(a1:Int):Option (List Int × Bool):=if 0<=a1 then (if (a1:Int).toNat<=281474976710656 then (dL.l0 k a1 (List.replicate (a1:Int).toNat false) (([]:List Int)) l0 (l0.length:Int) 0)else (none))else (none)
theorem dL.calls(k:Nat)(A0:Option Addr)(c0:Nat)(l0:List Int)(a1:Int)(r1:List Int)(r2:Bool)(w:World)(hr0:Kd.C (Kd.int .i64) w A0 l0.length l0)(hc0:l0.length<=c0)(h:dL.f k l0 a1=some (r1,r2)) :
  Calls Tryz.prog 93 #[.slice A0 l0.length c0,.int .i64 a1] w λe w'=>∃v0_:Value,e=.returned (.tuple #[v0_,.bool r2])/\Kd.R (Kd.int .i64) 3 w' w.heap.size (λ_=>True) v0_ r1/\Below w.heap.size w w':=by
 have HR0:=aa hr0;have HC0:=aa hc0;clear hr0 hc0;have HB:=aa (Below.refl w.heap.size w);unfold dL.f at h;have H:=h;clear h;revert H;refine dI λc3b0 c3b1 H=>?_;revert H;refine dI λc4b0 c4b1 H=>?_;obtain ⟨y386,hy386⟩:=bv ((List.replicate (a1:Int).toNat false):List Bool);replace H:(dL.l0 k a1 y386 (([]:List Int)) l0 (l0.length:Int) 0)=some (r1,r2):=bu hy386 H;have Ny386:=aa hy386;clear hy386;obtain ⟨y389,hy389⟩:=bv ((([]:List Int)):List Int);replace H:(dL.l0 k a1 y386 y389 l0 (l0.length:Int) 0)=some (r1,r2):=bu hy389 H;have Ny389:=aa hy389;clear hy389;have H':=aa H;clear H;go_enter Tryz.func93,Tryz.ntmps93;go_wp2_with (first|((with_reducible refine dm 11 ?_);refine Kd.R_make Kd.bool _ 4 rfl (N:=11) rfl 136 _ _ rfl a1 rfl rfl Tryz.underlying136 (.bool false) 1 ui rfl (by decide) (by omega) false (ok:=λ_=>True) (okp:=λ_=>True) rfl (λ_ hk=>hk) trivial (of_decide_eq_true aD) (Nat.le_trans (Nat.mul_le_mul_right _ (of_decide_eq_true aD:a1.toNat<=281474976710656)) (by omega)) (Below.refl _ _) (Nat.le_refl _) ?_;intro v387 w5 ho6 hb hg_ hnew_;clear hg_ hnew_;(first|rw[<- Ny386.out]at ho6|(simp only[Int.reduceToNat]at ho6;rw[<- Ny386.out]at ho6));have HO388:=aa (Kd.R_lower ho6 (ay af));replace HB:=aa (aj af hb);clear hb ho6)|((with_reducible refine dm 12 ?_);refine Kd.R_lit (Kd.int .i64) _ 3 ?hg (N:=12) ?hd (xs:=([]:List Int)) (inner:=[]) (ok:=λ_=>True) (okp:=λ_=>True) ?hr ?hp (λ_ hk=>hk) trivial (Below.refl _ _) (Nat.le_refl _) (by simp) ?_;(case hd=>rfl);(case hg=>rfl);(case hr=>exact eO);(case hp=>exact (bG.none _ _));intro v390 w7 ho8 hb hg_ hnew_;clear hg_ hnew_;(first|rw[<- Ny389.out]at ho8|(simp only[Int.reduceToNat]at ho8;rw[<- Ny389.out]at ho8));replace HO388:=aa (Kd.R_below (ai HO388.out) hb);have HO391:=aa (Kd.R_lower ho8 (ay af));replace HB:=aa (aj af hb);clear hb ho8))
 go_loopg [7,15] k (λkq v7 v15 w'=>∃ (x6_1:List Bool) (x7_1:List Int) (x15_1:Int),v15=.int .i64 x15_1/\ae (dL.l0 kq a1 x6_1 x7_1 l0 (l0.length:Int) x15_1=some (r1,r2))/\ae (kq<=k)/\ae (Kd.R Kd.bool 4 w' w.heap.size (λ_=>True) v387 x6_1)/\ae (Kd.R (Kd.int .i64) 3 w' w.heap.size (λ_=>True) v7 x7_1)/\ae (Below w.heap.size w w'))
 case atStart=>exact ⟨(y386),(y389),(0),ag,H',⟨Nat.le_refl _⟩,⟨ai HO388.out⟩,⟨ai HO391.out⟩,⟨af⟩⟩
 case round =>
  clear H';obtain ⟨x6_1,x7_1,x15_1,rfl,HA,HK1,HO_6,HO_7,HB⟩:=hrel;cases gk with
  | zero=>exact ak HA.out
  | succ k1 =>
   have H:=HA.out;clear HA;simp only[dL.l0]at H;revert H;refine bi (λc9b0 H=>?_) λc9b0 H=>?_
   ·
    revert H;refine aX λc10b0 H=>?_;revert H;refine aX λc11b0 H=>?_;have H':=aa H;clear H;obtain ⟨ad392,rfl,hx392_0,p392,q392⟩:=bW HR0.out x15_1
    (try (replace hx392_0:=(HB.out.cell (World.block_lt_of_cell? w _ hx392_0)).trans hx392_0))
    go_wp2
    go_loopg [9] k1 (λkq v9 w'=>∃ (x9_2:Int),v9=.int .i64 x9_2/\ae (dL.l1 kq a1 x6_1 x7_1 x9_2 l0 (l0.length:Int) x15_1=some (r1,r2))/\ae (kq<=k1)/\ae (Kd.R Kd.bool 4 w' w.heap.size (λ_=>True) v387 x6_1)/\ae (Kd.R (Kd.int .i64) 3 w' w.heap.size (λ_=>True) u7 x7_1)/\ae (Below w.heap.size w w'))
    case atStart=>exact ⟨(rd l0 x15_1),ag,H',⟨Nat.le_refl _⟩,⟨ai HO_6.out⟩,⟨ai HO_7.out⟩,⟨af⟩⟩
    case round =>
     clear H';obtain ⟨x9_2,rfl,HA,HK2,HO_6,HO_7,HB⟩:=hrel;cases gk with
     | zero=>exact ak HA.out
     | succ k2 =>
      have H:=HA.out;clear HA;simp only[dL.l1]at H;revert H;refine bi (λc12b0 H=>?_) λc12b0 H=>?_
      ·
       revert H;refine aX λc13b0 H=>?_;revert H;refine aX λc14b0 H=>?_;obtain ⟨bq15,hbq15⟩:∃b_:Bool,b_=(dS false x6_1 x9_2):=⟨_,rfl⟩;replace H:(if bq15=true then (dL.l1 k2 a1 x6_1 x7_1 (wrap64 (x9_2+1)) l0 (l0.length:Int) x15_1)else (if x9_2 >= a1 then (some (([]:List Int),false))else (if x7_1.length<17592186044416 then (dL.l0 k2 a1 (x6_1.set (x9_2:Int).toNat true) (x7_1++[x9_2]) l0 (l0.length:Int) (wrap64 (x15_1+1)))else (none))))=some (r1,r2):=by rw[<- hbq15]at H;exact H
       have Nbq15:=aa hbq15;clear hbq15;revert H;refine bA (λc16 H=>?_) λc16 H=>?_
       ·
        subst c16;have H':=aa H;clear H;obtain ⟨Ao17,co17,eo17⟩:=Kd.R_slice HO_6.out;subst eo17;obtain ⟨ad393,rfl,hx393_0,p393,q393⟩:=lJ (f_ HO_6.out) x9_2
        (try rw[<- Nbq15.out]at hx393_0)
        go_wp2;go_roundg k2
        case measure=>have:=HK1.out;have:=HK2.out;omega
        case rel=>exact ⟨(wrap64 (x9_2+1)),ag,H',⟨dR HK1.out HK2.out⟩,⟨ai HO_6.out⟩,⟨ai HO_7.out⟩,⟨af⟩⟩
       subst c16;revert H;refine bi (λc18b0 H=>?_) λc18b0 H=>?_
       ·
        obtain ⟨rfl,rfl⟩:=dB H;obtain ⟨Ao19,co19,eo19⟩:=Kd.R_slice HO_6.out;subst eo19;obtain ⟨ad393,rfl,hx393_0,p393,q393⟩:=lJ (f_ HO_6.out) x9_2
        (try rw[<- Nbq15.out]at hx393_0)
        go_wp2;go_ret2;exact ⟨_,aU,d9,af⟩
       obtain ⟨y394,hy394⟩:=bv ((x6_1.set (x9_2:Int).toNat true):List Bool);replace H:(if x7_1.length<17592186044416 then (dL.l0 k2 a1 y394 (x7_1++[x9_2]) l0 (l0.length:Int) (wrap64 (x15_1+1)))else (none))=some (r1,r2):=bu hy394 H;have Ny394:=aa hy394;clear hy394;revert H;refine bZ λc21 H=>?_;have LMc21:=aa c21;clear c21;obtain ⟨y395,hy395⟩:=bv ((x7_1++[x9_2]):List Int);replace H:(dL.l0 k2 a1 y394 y395 l0 (l0.length:Int) (wrap64 (x15_1+1)))=some (r1,r2):=bu hy395 H;have Ny395:=aa hy395;clear hy395;have H':=aa H;clear H;obtain ⟨Ao22,co22,eo22⟩:=Kd.R_slice HO_6.out;subst eo22;obtain ⟨ad393,rfl,hx393_0,p393,q393⟩:=lJ (f_ HO_6.out) x9_2
       (try rw[<- Nbq15.out]at hx393_0)
       have p20:0<=(x9_2:Int):=of_decide_eq_true aD;have q20:(x9_2:Int)<((x6_1.length:Int):Int):=of_decide_eq_true aD;obtain ⟨go20,co20,eo20,gb20,gl20,cl20,HG20⟩:=Kd.R_form HO_6.out (by omega)
       (first|cases eo20|(injection eo20 with ea_ en_ ec_;(first|subst ea_|(injection ea_ with ea_;subst ea_));subst ec_;clear en_))
       have GB20:=aa gb20;have GG20:=aa HG20;clear gb20 gl20 HG20
       (first|simp only[add_plain]at hx393_0|skip)
       obtain ⟨hx20_0,hf20_0⟩:=Kd.R_celln false HO_6.out (x9_2:Int) p20 q20;replace p20:=eq_true p20;replace q20:=eq_true q20;have HP23:=Kd.R_putg HO_6.out (x9_2:Int) true;go_wp2_with (first|((with_reducible refine jh (t:=4) (p:=35) rfl ?_);refine jF (t:=4) (p:=35) (v:=?vo_w24) (w1:=(wr.setCell ⟨go20,(x9_2:Int).toNat,none⟩ (.bool true))) ?hg ?ho ?hn ?hr ?_;(case ho=>rfl);(case hg=>rfl);(case hn=>rfl);(case hr=>exact eO);intro w24 hw;have hg:wr.grownBy w24 (some go20):=(by rw[hw];exact HP23.2);have hp_:Kd.R Kd.bool 4 w24 w.heap.size (λ_=>True) (.slice (some ⟨go20,0,none⟩) x6_1.length co22) y394:=(by rw[hw,Ny394.out];exact HP23.1);clear HP23;replace HO_7:=aa (Kd.R_over' (v:=(.slice (some ⟨go20,0,none⟩) x6_1.length co22)) (ai HO_7.out) (Kd.R_typed HO_6.out) (by decide) hg);replace HO_6:=aa (hp_);replace HB:=aa ((by rw[hw];exact bf (HB.out) GB20.out:Below w.heap.size w w24));clear hg hw hp_)|((with_reducible refine dE (b:=.append) (xs:=#[.tmp 36,.tmp 38]) rfl ?_);at_builtin;refine eQ (w0:=w) (.tmp 36) (.tmp 38) u7 x7_1 x9_2 (λ_=>True) (λ_ _=>trivial) (ai HO_7.out) af (by exact bB LMc21.out) ?_;intro v396 w25 ho hb hg hat;rw[<- Ny395.out]at ho;replace HO_6:=aa (Kd.R_over' (ai HO_6.out) (Kd.R_typed (ai HO_7.out)) (by decide) hg);replace HB:=aa (hb);have HO397:=aa (ho);clear ho hb hg hat));go_roundg k2
       case measure=>have:=HK1.out;have:=HK2.out;omega
       case rel=>exact ⟨(y394),(y395),(wrap64 (x15_1+1)),ag,H',⟨dR HK1.out HK2.out⟩,⟨ai HO_6.out⟩,⟨ai HO397.out⟩,⟨af⟩⟩
      revert H;refine bi (λc26b0 H=>?_) λc26b0 H=>?_
      ·
       obtain ⟨rfl,rfl⟩:=dB H;go_wp2;go_ret2;exact ⟨_,aU,d9,af⟩
      revert H;refine aX λc27b0 H=>?_;revert H;refine aX λc28b0 H=>?_;obtain ⟨y398,hy398⟩:=bv ((x6_1.set (x9_2:Int).toNat true):List Bool);replace H:(if x7_1.length<17592186044416 then (dL.l0 k2 a1 y398 (x7_1++[x9_2]) l0 (l0.length:Int) (wrap64 (x15_1+1)))else (none))=some (r1,r2):=bu hy398 H;have Ny398:=aa hy398;clear hy398;revert H;refine bZ λc30 H=>?_;have LMc30:=aa c30;clear c30;obtain ⟨y399,hy399⟩:=bv ((x7_1++[x9_2]):List Int);replace H:(dL.l0 k2 a1 y398 y399 l0 (l0.length:Int) (wrap64 (x15_1+1)))=some (r1,r2):=bu hy399 H;have Ny399:=aa hy399;clear hy399;have H':=aa H;clear H;have p29:0<=(x9_2:Int):=of_decide_eq_true aD;have q29:(x9_2:Int)<((x6_1.length:Int):Int):=of_decide_eq_true aD;obtain ⟨go29,co29,eo29,gb29,gl29,cl29,HG29⟩:=Kd.R_form HO_6.out (by omega)
      (first|cases eo29|(injection eo29 with ea_ en_ ec_;(first|subst ea_|(injection ea_ with ea_;subst ea_));subst ec_;clear en_))
      have GB29:=aa gb29;have GG29:=aa HG29;clear gb29 gl29 HG29;obtain ⟨hx29_0,hf29_0⟩:=Kd.R_celln false HO_6.out (x9_2:Int) p29 q29;replace p29:=eq_true p29;replace q29:=eq_true q29;have HP31:=Kd.R_putg HO_6.out (x9_2:Int) true;go_wp2_with (first|((with_reducible refine jh (t:=4) (p:=35) rfl ?_);refine jF (t:=4) (p:=35) (v:=?vo_w32) (w1:=(wr.setCell ⟨go29,(x9_2:Int).toNat,none⟩ (.bool true))) ?hg ?ho ?hn ?hr ?_;(case ho=>rfl);(case hg=>rfl);(case hn=>rfl);(case hr=>exact eO);intro w32 hw;have hg:wr.grownBy w32 (some go29):=(by rw[hw];exact HP31.2);have hp_:Kd.R Kd.bool 4 w32 w.heap.size (λ_=>True) (.slice (some ⟨go29,0,none⟩) x6_1.length co29) y398:=(by rw[hw,Ny398.out];exact HP31.1);clear HP31;replace HO_7:=aa (Kd.R_over' (v:=(.slice (some ⟨go29,0,none⟩) x6_1.length co29)) (ai HO_7.out) (Kd.R_typed HO_6.out) (by decide) hg);replace HO_6:=aa (hp_);replace HB:=aa ((by rw[hw];exact bf (HB.out) GB29.out:Below w.heap.size w w32));clear hg hw hp_)|((with_reducible refine dE (b:=.append) (xs:=#[.tmp 36,.tmp 38]) rfl ?_);at_builtin;refine eQ (w0:=w) (.tmp 36) (.tmp 38) u7 x7_1 x9_2 (λ_=>True) (λ_ _=>trivial) (ai HO_7.out) af (by exact bB LMc30.out) ?_;intro v400 w33 ho hb hg hat;rw[<- Ny399.out]at ho;replace HO_6:=aa (Kd.R_over' (ai HO_6.out) (Kd.R_typed (ai HO_7.out)) (by decide) hg);replace HB:=aa (hb);have HO401:=aa (ho);clear ho hb hg hat));go_roundg k2
      case measure=>have:=HK1.out;have:=HK2.out;omega
      case rel=>exact ⟨(y398),(y399),(wrap64 (x15_1+1)),ag,H',⟨dR HK1.out HK2.out⟩,⟨ai HO_6.out⟩,⟨ai HO401.out⟩,⟨af⟩⟩
   obtain ⟨rfl,rfl⟩:=dB H;go_wp2;go_ret2;exact ⟨_,aU,ai HO_7.out,af⟩
def fT.f(k:Nat)(l0:List Int):Option (Bool):=(mI.f l0).bind λt402=>(if t402=true then ((dL.f k l0 (l0.length:Int)).bind λbt403=>(some bt403.2))else (some false))
theorem fT.calls(k:Nat)(A0:Option Addr)(c0:Nat)(l0:List Int)(r:Bool)(w:World)(hr0:Kd.C (Kd.int .i64) w A0 l0.length l0)(hc0:l0.length<=c0)(h:fT.f k l0=some r) :
  Calls Tryz.prog 60 #[.slice A0 l0.length c0] w λe w'=>e=.returned (.bool r)/\Below w.heap.size w w':=by
 have HR0:=aa hr0;have HC0:=aa hc0;clear hr0 hc0;have HB:=aa (Below.refl w.heap.size w);unfold fT.f at h;have H:=h;clear h;obtain ⟨t402,A2,H⟩:=aA H;revert H;refine bA (λc3 H=>?_) λc3 H=>?_
 ·
  subst c3;obtain ⟨⟨t403,t404⟩,A4,H⟩:=aA H;dsimp only at H;obtain rfl:=Option.some.inj H;go_enter Tryz.func60,Tryz.ntmps60;go_wp2_with (first|((with_reducible refine av 92 ?_);refine ax 6 Tryz.func92 #[.slice A0 l0.length c0] ?_;(with_reducible refine (mI.calls _ _ l0 true _ ?s1 ?s2 A2.out).mono ?_);(case s1=>exact dU HR0.out);(case s2=>exact HC0.out);rintro e w5 ⟨rfl,hb⟩;refine ⟨_,rfl,?_⟩;replace HB:=aa (aj af hb);clear hb)|((with_reducible refine av 93 ?_);refine ax 12 Tryz.func93 #[.slice A0 l0.length c0,.int .i64 (l0.length:Int)] ?_;(with_reducible refine (dL.calls k _ _ l0 (l0.length:Int) t403 t404 _ ?s1 ?s2 A4.out).mono ?_);(case s1=>exact bQ HR0.out);(case s2=>exact HC0.out);rintro e w6 ⟨v405,rfl,ho0,hb⟩;refine ⟨_,rfl,?_⟩;have HO406:=aa (Kd.R_lower ho0 (ay af));replace HB:=aa (aj af hb);clear hb ho0));go_ret;exact ⟨aU,af⟩
 subst c3;obtain rfl:=Option.some.inj H;go_enter Tryz.func60,Tryz.ntmps60;go_wp2_with (first|((with_reducible refine av 92 ?_);refine ax 6 Tryz.func92 #[.slice A0 l0.length c0] ?_;(with_reducible refine (mI.calls _ _ l0 false _ ?s1 ?s2 A2.out).mono ?_);(case s1=>exact dU HR0.out);(case s2=>exact HC0.out);rintro e w7 ⟨rfl,hb⟩;refine ⟨_,rfl,?_⟩;replace HB:=aa (aj af hb);clear hb));go_ret;exact ⟨aU,af⟩
mutual
def fu.l0:Nat->List Int->Int->List Int->Int->Int->Option (Int)
 | 0,_,_,_,_,_=>none
 | k+1,x0,x3,x7,x8,x9=>if x9<x8 then (if 0<=x9 then (if x9<(x7.length:Int)then (fu.l1 k x0 x3 x9 x7 x8 x9 (rd x7 x9) 0)else (none))else (none))else (some x3)
def fu.l1:Nat->List Int->Int->Int->List Int->Int->Int->Int->Int->Option (Int)
 | 0,_,_,_,_,_,_,_,_=>none
 | k+1,x0,x3,x4,x7,x8,x9,x14,x15=>if x15<x14 then (if 0<=x4 then (if x4<=(x0.length:Int)then ((iw.f (x0.take (x4:Int).toNat)).bind λt409=>(if t409.length<17592186044416 then ((bH.f k (t409++[x15]) (x0.length:Int)).bind λt415=>(fu.l1 k x0 (wrap64 (x3+t415)) x4 x7 x8 x9 x14 (wrap64 (x15+1))))else (none)))else (none))else (none))else (fu.l0 k x0 x3 x7 x8 (wrap64 (x9+1)))
end
def fu.f(k:Nat)(l0:List Int):Option (Int):=fu.l0 k l0 0 l0 (l0.length:Int) 0
theorem fu.calls(k:Nat)(A0:Option Addr)(c0:Nat)(l0:List Int)(r:Int)(w:World)(hr0:Kd.C (Kd.int .i64) w A0 l0.length l0)(hc0:l0.length<=c0)(h:fu.f k l0=some r) :
  Calls Tryz.prog 64 #[.slice A0 l0.length c0] w λe w'=>e=.returned (.int .i64 r)/\Below w.heap.size w w':=by
 have HR0:=aa hr0;have HC0:=aa hc0;clear hr0 hc0;have HB:=aa (Below.refl w.heap.size w);unfold fu.f at h;have H:=h;clear h;have H':=aa H;clear H;go_enter Tryz.func64,Tryz.ntmps64;go_wp2
 go_loopg [3,9] k (λkq v3 v9 w'=>∃ (x3_1:Int) (x9_1:Int),v3=.int .i64 x3_1/\v9=.int .i64 x9_1/\ae (fu.l0 kq l0 x3_1 l0 (l0.length:Int) x9_1=some r)/\ae (kq<=k)/\ae (Below w.heap.size w w'))
 case atStart=>exact ⟨(0),(0),ag,ag,H',⟨Nat.le_refl _⟩,⟨af⟩⟩
 case round =>
  clear H';obtain ⟨x3_1,x9_1,rfl,rfl,HA,HK1,HB⟩:=hrel;cases gk with
  | zero=>exact ak HA.out
  | succ k1 =>
   have H:=HA.out;clear HA;simp only[fu.l0]at H;revert H;refine bi (λc2b0 H=>?_) λc2b0 H=>?_
   ·
    revert H;refine aX λc3b0 H=>?_;revert H;refine aX λc4b0 H=>?_;have H':=aa H;clear H;obtain ⟨ad407,rfl,hx407_0,p407,q407⟩:=bW HR0.out x9_1
    (try (replace hx407_0:=(HB.out.cell (World.block_lt_of_cell? w _ hx407_0)).trans hx407_0))
    go_wp2
    go_loopg [3,15] k1 (λkq v3 v15 w'=>∃ (x3_2:Int) (x15_2:Int),v3=.int .i64 x3_2/\v15=.int .i64 x15_2/\ae (fu.l1 kq l0 x3_2 x9_1 l0 (l0.length:Int) x9_1 (rd l0 x9_1) x15_2=some r)/\ae (kq<=k1)/\ae (Below w.heap.size w w'))
    case atStart=>exact ⟨(x3_1),(0),ag,ag,H',⟨Nat.le_refl _⟩,⟨af⟩⟩
    case round =>
     clear H';obtain ⟨x3_2,x15_2,rfl,rfl,HA,HK2,HB⟩:=hrel;cases gk with
     | zero=>exact ak HA.out
     | succ k2 =>
      have H:=HA.out;clear HA;simp only[fu.l1]at H;revert H;refine bi (λc5b0 H=>?_) λc5b0 H=>?_
      ·
       revert H;refine dI λc6b0 c6b1 H=>?_;revert H;refine dI λc7b0 c7b1 H=>?_;obtain ⟨t409,A8,H⟩:=aA H;revert H;refine bZ λc9 H=>?_;have LMc9:=aa c9;clear c9;obtain ⟨y412,hy412⟩:=bv ((t409++[x15_2]):List Int);replace H:((bH.f k2 y412 (l0.length:Int)).bind λt415=>(fu.l1 k2 l0 (wrap64 (x3_2+t415)) x9_1 l0 (l0.length:Int) x9_1 (rd l0 x9_1) (wrap64 (x15_2+1))))=some r:=bu hy412 H;have Ny412:=aa hy412;clear hy412;obtain ⟨t415,A10,H⟩:=aA H;have H':=aa H;clear H;obtain ⟨i011,hi011,_,hsz11,_⟩:=info_parts info3;obtain ⟨hcut11,hA11,hC11⟩:=mE (P:=Tryz.prog) (Value.int .i64) 0 22 3 .i64 Tryz.underlying22 hi011 hsz11 (some ad407) c0 l0 x9_1 (of_decide_eq_true aD) (of_decide_eq_true aD) HC0.out;have HR408:=aa (Kd.C_of_reads (h1:=λ_=>rfl) (hA11 _ (Kd.reads_of_C HR0.out)));have HC408:=aa hC11;clear hA11 hC11 hi011 hsz11;go_wp2_with (first|((with_reducible refine av 53 ?_);refine oL (some 22) rfl rfl Tryz.func53 (by kernel_rfl) rfl #[.slice (some ad407) (l0.take (x9_1:Int).toNat).length c0] rfl (by (try simp only[List.map_toArray,List.map_cons,List.map_nil]);first|done|(rw[show (l0.take (x9_1:Int).toNat).length=x9_1.toNat from (by rw[List.length_take];have h_:(x9_1:Int)<=(l0.length:Int):=of_decide_eq_true aD;omega)] <;> rfl)|rfl|(simp only[List.length_drop,List.length_take];rfl)) ?_;(with_reducible refine (iw.calls _ _ (l0.take (x9_1:Int).toNat) t409 _ ?s1 ?s2 A8.out).mono ?_);(case s1=>exact bQ HR408.out);(case s2=>exact HC408.out);rintro e w12 ⟨v410,rfl,ho0,hb⟩;refine ⟨_,rfl,?_⟩;have HO411:=aa (Kd.R_lower ho0 (ay af));replace HB:=aa (aj af hb);clear hb ho0)|((with_reducible refine dE (b:=.append) (xs:=#[.tmp 22,.tmp 24]) rfl ?_);at_builtin;refine eQ (w0:=w) (.tmp 22) (.tmp 24) v410 t409 x15_2 (λ_=>True) (λ_ _=>trivial) (ai HO411.out) af (by exact bB LMc9.out) ?_;intro v413 w13 ho hb hg hat;rw[<- Ny412.out]at ho;replace HB:=aa (hb);have HO414:=aa (ho);clear ho hb hg hat;obtain ⟨Ao14,co14,eo14⟩:=Kd.R_slice HO414.out;subst eo14)|((with_reducible refine av 104 ?_);refine ax 28 Tryz.func104 #[.slice Ao14 y412.length co14,.int .i64 (l0.length:Int)] ?_;(with_reducible refine (bH.calls k2 _ _ y412 (l0.length:Int) t415 _ ?s1 ?s2 A10.out).mono ?_);(case s1=>exact eH HO414.out);(case s2=>exact (Kd.R_reads' HO414.out).2.1);rintro e w15 ⟨rfl,hb⟩;refine ⟨_,rfl,?_⟩;replace HO414:=aa (Kd.R_below (ai HO414.out) hb);replace HB:=aa (aj af hb);clear hb));go_roundg k2
       case measure=>have:=HK1.out;have:=HK2.out;omega
       case rel=>exact ⟨(wrap64 (x3_2+t415)),(wrap64 (x15_2+1)),ag,ag,H',⟨dR HK1.out HK2.out⟩,⟨af⟩⟩
      have H':=aa H;clear H;go_wp2;go_roundg k2
      case measure=>have:=HK1.out;have:=HK2.out;omega
      case rel=>exact ⟨(x3_2),(wrap64 (x9_1+1)),ag,ag,H',⟨dR HK1.out HK2.out⟩,⟨af⟩⟩
   obtain rfl:=Option.some.inj H;go_wp2;go_ret;exact ⟨aU,af⟩
def oP.f(k:Nat)(l0:List Int):Option (List Int × Bool):=(fT.f k l0).bind λt416=>(if t416=true then ((fu.f k l0).bind λt417=>((mi.f k (l0.length:Int) (wrap64 (t417+1))).bind λbt418=>(some (bt418.1,bt418.2))))else (some (([]:List Int),false)))
theorem oP.calls(k:Nat)(A0:Option Addr)(c0:Nat)(l0:List Int)(r1:List Int)(r2:Bool)(w:World)(hr0:Kd.C (Kd.int .i64) w A0 l0.length l0)(hc0:l0.length<=c0)(h:oP.f k l0=some (r1,r2)) :
  Calls Tryz.prog 33 #[.slice A0 l0.length c0] w λe w'=>∃v0_:Value,e=.returned (.tuple #[v0_,.bool r2])/\Kd.R (Kd.int .i64) 3 w' w.heap.size (λ_=>True) v0_ r1/\Below w.heap.size w w':=by
 have HR0:=aa hr0;have HC0:=aa hc0;clear hr0 hc0;have HB:=aa (Below.refl w.heap.size w);unfold oP.f at h;have H:=h;clear h;obtain ⟨t416,A2,H⟩:=aA H;revert H;refine bA (λc3 H=>?_) λc3 H=>?_
 ·
  subst c3;obtain ⟨t417,A4,H⟩:=aA H;obtain ⟨⟨t418,t419⟩,A5,H⟩:=aA H;dsimp only at H;obtain ⟨rfl,rfl⟩:=dB H;go_enter Tryz.func33,Tryz.ntmps33;go_wp2_with (first|((with_reducible refine av 60 ?_);refine ax 5 Tryz.func60 #[.slice A0 l0.length c0] ?_;(with_reducible refine (fT.calls k _ _ l0 true _ ?s1 ?s2 A2.out).mono ?_);(case s1=>exact dU HR0.out);(case s2=>exact HC0.out);rintro e w6 ⟨rfl,hb⟩;refine ⟨_,rfl,?_⟩;replace HB:=aa (aj af hb);clear hb)|((with_reducible refine av 64 ?_);refine ax 10 Tryz.func64 #[.slice A0 l0.length c0] ?_;(with_reducible refine (fu.calls k _ _ l0 t417 _ ?s1 ?s2 A4.out).mono ?_);(case s1=>exact bQ HR0.out);(case s2=>exact HC0.out);rintro e w7 ⟨rfl,hb⟩;refine ⟨_,rfl,?_⟩;replace HB:=aa (aj af hb);clear hb)|((with_reducible refine av 63 ?_);refine ax 12 Tryz.func63 #[.int .i64 (l0.length:Int),.int .i64 (wrap64 (t417+1))] ?_;(with_reducible refine (mi.calls k (l0.length:Int) (wrap64 (t417+1)) t418 t419 _ A5.out).mono ?_);rintro e w8 ⟨v420,rfl,ho0,hb⟩;refine ⟨_,rfl,?_⟩;have HO421:=aa (Kd.R_lower ho0 (ay af));replace HB:=aa (aj af hb);clear hb ho0));go_ret2;exact ⟨_,aU,ai HO421.out,af⟩
 subst c3;obtain ⟨rfl,rfl⟩:=dB H;go_enter Tryz.func33,Tryz.ntmps33;go_wp2_with (first|((with_reducible refine av 60 ?_);refine ax 5 Tryz.func60 #[.slice A0 l0.length c0] ?_;(with_reducible refine (fT.calls k _ _ l0 false _ ?s1 ?s2 A2.out).mono ?_);(case s1=>exact dU HR0.out);(case s2=>exact HC0.out);rintro e w9 ⟨rfl,hb⟩;refine ⟨_,rfl,?_⟩;replace HB:=aa (aj af hb);clear hb));go_ret2;exact ⟨_,aU,d9,af⟩
def mJ.f(l0:List Int)(a1:Int):Option (Bool):=(gB.f a1 1 12).bind λt422=>(if t422=true then (if (l0.length:Int)<=8 then ((iE.f l0 0 (wrap64 (a1 - 1))).bind λt423=>(some t423))else (some false))else (some false))
theorem mJ.calls(A0:Option Addr)(c0:Nat)(l0:List Int)(a1:Int)(r:Bool)(w:World)(hr0:Kd.C (Kd.int .i64) w A0 l0.length l0)(hc0:l0.length<=c0)(h:mJ.f l0 a1=some r) :
  Calls Tryz.prog 200 #[.slice A0 l0.length c0,.int .i64 a1] w λe w'=>e=.returned (.bool r)/\Below w.heap.size w w':=by
 have HR0:=aa hr0;have HC0:=aa hc0;clear hr0 hc0;have HB:=aa (Below.refl w.heap.size w);unfold mJ.f at h;have H:=h;clear h;obtain ⟨t422,A3,H⟩:=aA H;revert H;refine bA (λc4 H=>?_) λc4 H=>?_
 ·
  subst c4
  by_cases c5:(l0.length:Int)<=8
  ·
   rw[if_pos c5]at H;have c5b0:=decide_eq_true c5;have c5b1:decide (l0.length<=8)=true:=decide_eq_true (by omega);clear c5;obtain ⟨t423,A6,H⟩:=aA H;obtain rfl:=Option.some.inj H;go_enter Tryz.func200,Tryz.ntmps200;go_wp2_with (first|((with_reducible refine av 101 ?_);refine ax 6 Tryz.func101 #[.int .i64 a1,.int .i64 1,.int .i64 12] ?_;(with_reducible refine (gB.calls a1 1 12 true _ A3.out).mono ?_);rintro e w' ⟨rfl,⟨nd,rfl⟩⟩;refine ⟨_,rfl,?_⟩)|(go_at_call 95;(with_reducible refine (iE.calls _ _ l0 0 (wrap64 (a1 - 1)) t423 _ ?s1 ?s2 A6.out).mono ?_);(case s1=>exact dU HR0.out);(case s2=>exact HC0.out);rintro e w7 ⟨rfl,hb⟩;replace HB:=aa (aj af hb);clear hb));go_ret;exact ⟨aU,af⟩
  rw[if_neg c5]at H;have c5b0:=decide_eq_false c5;have c5b1:decide (l0.length<=8)=false:=decide_eq_false (by omega);clear c5;obtain rfl:=Option.some.inj H;go_enter Tryz.func200,Tryz.ntmps200;go_wp2_with (first|((with_reducible refine av 101 ?_);refine ax 6 Tryz.func101 #[.int .i64 a1,.int .i64 1,.int .i64 12] ?_;(with_reducible refine (gB.calls a1 1 12 true _ A3.out).mono ?_);rintro e w' ⟨rfl,⟨nd,rfl⟩⟩;refine ⟨_,rfl,?_⟩));go_ret;exact ⟨aU,af⟩
 subst c4;obtain rfl:=Option.some.inj H;go_enter Tryz.func200,Tryz.ntmps200;go_wp2_with (first|((with_reducible refine av 101 ?_);refine ax 6 Tryz.func101 #[.int .i64 a1,.int .i64 1,.int .i64 12] ?_;(with_reducible refine (gB.calls a1 1 12 false _ A3.out).mono ?_);rintro e w' ⟨rfl,⟨nd,rfl⟩⟩;refine ⟨_,rfl,?_⟩));go_ret;exact ⟨aU,af⟩
def mW.f(k:Nat)(l0:List Int)(a1:Int):Option (List Int × Bool):=(mJ.f l0 a1).bind λt424=>(if t424=true then ((dL.f k l0 a1).bind λbt425=>(some (bt425.1,bt425.2)))else (some (([]:List Int),false)))
theorem mW.calls(k:Nat)(A0:Option Addr)(c0:Nat)(l0:List Int)(a1:Int)(r1:List Int)(r2:Bool)(w:World)(hr0:Kd.C (Kd.int .i64) w A0 l0.length l0)(hc0:l0.length<=c0)(h:mW.f k l0 a1=some (r1,r2)) :
  Calls Tryz.prog 140 #[.slice A0 l0.length c0,.int .i64 a1] w λe w'=>∃v0_:Value,e=.returned (.tuple #[v0_,.bool r2])/\Kd.R (Kd.int .i64) 3 w' w.heap.size (λ_=>True) v0_ r1/\Below w.heap.size w w':=by
 have HR0:=aa hr0;have HC0:=aa hc0;clear hr0 hc0;have HB:=aa (Below.refl w.heap.size w);unfold mW.f at h;have H:=h;clear h;obtain ⟨t424,A3,H⟩:=aA H;revert H;refine bA (λc4 H=>?_) λc4 H=>?_
 ·
  subst c4;obtain ⟨⟨t425,t426⟩,A5,H⟩:=aA H;dsimp only at H;obtain ⟨rfl,rfl⟩:=dB H;go_enter Tryz.func140,Tryz.ntmps140;go_wp2_with (first|((with_reducible refine av 200 ?_);refine ax 8 Tryz.func200 #[.slice A0 l0.length c0,.int .i64 a1] ?_;(with_reducible refine (mJ.calls _ _ l0 a1 true _ ?s1 ?s2 A3.out).mono ?_);(case s1=>exact dU HR0.out);(case s2=>exact HC0.out);rintro e w6 ⟨rfl,hb⟩;refine ⟨_,rfl,?_⟩;replace HB:=aa (aj af hb);clear hb)|((with_reducible refine av 93 ?_);refine ax 12 Tryz.func93 #[.slice A0 l0.length c0,.int .i64 a1] ?_;(with_reducible refine (dL.calls k _ _ l0 a1 t425 t426 _ ?s1 ?s2 A5.out).mono ?_);(case s1=>exact bQ HR0.out);(case s2=>exact HC0.out);rintro e w7 ⟨v427,rfl,ho0,hb⟩;refine ⟨_,rfl,?_⟩;have HO428:=aa (Kd.R_lower ho0 (ay af));replace HB:=aa (aj af hb);clear hb ho0));go_ret2;exact ⟨_,aU,ai HO428.out,af⟩
 subst c4;obtain ⟨rfl,rfl⟩:=dB H;go_enter Tryz.func140,Tryz.ntmps140;go_wp2_with (first|((with_reducible refine av 200 ?_);refine ax 8 Tryz.func200 #[.slice A0 l0.length c0,.int .i64 a1] ?_;(with_reducible refine (mJ.calls _ _ l0 a1 false _ ?s1 ?s2 A3.out).mono ?_);(case s1=>exact dU HR0.out);(case s2=>exact HC0.out);rintro e w8 ⟨rfl,hb⟩;refine ⟨_,rfl,?_⟩;replace HB:=aa (aj af hb);clear hb));go_ret2;exact ⟨_,aU,d9,af⟩
def gm.l0:Nat->List Int->List Int->Bool->Int->Int->Option (List Int × Bool)
 | 0,_,_,_,_,_=>none
 | k+1,x0,x6,x7,x16,x17=>if x17<x16 then (if 0<=x17 then (if x17<(x6.length:Int)then (if x17<(x0.length:Int)then (gm.l0 k x0 (x6.set (x17:Int).toNat (wrap64 ((rd x6 x17) - (rd x0 x17)))) x7 x16 (wrap64 (x17+1)))else (none))else (none))else (none))else (some (x6,x7))
def gm.f(k:Nat)(l0:List Int)(a1:Int):Option (List Int × Bool):=(mW.f k l0 a1).bind λbt429=>(gm.l0 k l0 bt429.1 bt429.2 (bt429.1.length:Int) 0)
def gm.T5:Bool × List (List Nat × List Nat):=(true,[([],[]),([],[]),([0,1],[0,1]),([2],[2]),([],[]),([],[]),([4,5],[4,5]),([6],[6]),([3,7],[3,7]),([0,1,0,1,2,3,4,5,6,7,8],[0,1]),([9,8,0,1,2,3,4,5,6,7,8],[8,9])])
def gm.B5:List Nat:=[0,0,3,7,0,0,48,112,255,511,1023]
theorem gm.tab5:dQ .any (opsOf Tryz.f141 5)=gm.T5:=by kernel_rfl
theorem gm.bits5:jv gm.T5.2 gm.B5=true:=by kernel_rfl
theorem gm.calls(k:Nat)(A0:Option Addr)(c0:Nat)(l0:List Int)(a1:Int)(r1:List Int)(r2:Bool)(w:World)(hr0:Kd.C (Kd.int .i64) w A0 l0.length l0)(hc0:l0.length<=c0)(h:gm.f k l0 a1=some (r1,r2)) :
  Calls Tryz.prog 141 #[.slice A0 l0.length c0,.int .i64 a1] w λe w'=>∃v0_:Value,e=.returned (.tuple #[v0_,.bool r2])/\Kd.R (Kd.int .i64) 3 w' w.heap.size (λ_=>True) v0_ r1/\Below w.heap.size w w':=by
 have HR0:=aa hr0;have HC0:=aa hc0;clear hr0 hc0;have HB:=aa (Below.refl w.heap.size w);unfold gm.f at h;have H:=h;clear h;obtain ⟨⟨t429,t430⟩,A3,H⟩:=aA H;dsimp only at H;have H':=aa H;clear H;go_enter Tryz.func141,Tryz.ntmps141;go_wp2_with (first|((with_reducible refine av 140 ?_);refine ax 12 Tryz.func140 #[.slice A0 l0.length c0,.int .i64 a1] ?_;(with_reducible refine (mW.calls k _ _ l0 a1 t429 t430 _ ?s1 ?s2 A3.out).mono ?_);(case s1=>exact dU HR0.out);(case s2=>exact HC0.out);rintro e w4 ⟨v431,rfl,ho0,hb⟩;refine ⟨_,rfl,?_⟩;have HO432:=aa (Kd.R_lower ho0 (ay af));replace HB:=aa (aj af hb);clear hb ho0;obtain ⟨Ao5,co5,eo5⟩:=Kd.R_slice HO432.out;subst eo5))
 go_loopg [17] k (λkq v17 w'=>∃ (x6_1:List Int) (x17_1:Int),v17=.int .i64 x17_1/\ae (gm.l0 kq l0 x6_1 t430 (t429.length:Int) x17_1=some (r1,r2))/\ae (kq<=k)/\ae (Kd.R (Kd.int .i64) 3 w' w.heap.size (λ_=>True) (.slice Ao5 t429.length co5) x6_1)/\ae (Below w.heap.size w w'))
 case atStart=>exact ⟨(t429),(0),ag,H',⟨Nat.le_refl _⟩,⟨ai HO432.out⟩,⟨af⟩⟩
 case round =>
  clear H';obtain ⟨x6_1,x17_1,rfl,HA,HK1,HO_6,HB⟩:=hrel;have hl6_1:=(Kd.R_reads' HO_6.out).1;rw[hl6_1]at HO_6
  (try simp only[hl6_1])
  cases gk with
  | zero=>exact ak HA.out
  | succ k1 =>
   have H:=HA.out;clear HA;simp only[gm.l0]at H
   by_cases c6:x17_1<(t429.length:Int)
   ·
    rw[if_pos c6]at H;have c6b0:=decide_eq_true c6
    (try simp only[hl6_1]at c6b0)
    clear c6;revert H;refine aX λc7b0 H=>?_;revert H;refine bZ λc8 H=>?_;have c8b0:=decide_eq_true c8
    (try simp only[hl6_1]at c8b0)
    clear c8;revert H;refine bZ λc9 H=>?_;have c9b0:=decide_eq_true c9
    (try simp only[hl6_1]at c9b0)
    clear c9;obtain ⟨y435,hy435⟩:=bv ((x6_1.set (x17_1:Int).toNat (wrap64 ((rd x6_1 x17_1) - (rd l0 x17_1)))):List Int);replace H:(gm.l0 k1 l0 y435 t430 (t429.length:Int) (wrap64 (x17_1+1)))=some (r1,r2):=bu hy435 H;have Ny435:=aa hy435;clear hy435;have H':=aa H;clear H
    try go_wp2
    have ak:=aa (Kd.R_drew HO_6.out);have n1_:=aa (dw HB.out);clear HO_6 HB;have HO_6:=ak;have HB:=n1_;clear ak n1_;obtain ⟨ad433,rfl,hx433_0,p433,q433⟩:=bW (f_ HO_6.out) x17_1;have p434:0<=(x17_1:Int):=of_decide_eq_true aD;have q434:x17_1<(l0.length:Int):=of_decide_eq_true aD;obtain ⟨ad434,e434,hx434_0⟩:=Kd.at_int HR0.out x17_1 p434 q434;have hw434_0:=hx434_0;cases e434
    (try (replace hx434_0:=(HB.out.cell (World.block_lt_of_cell? w _ hx434_0)).trans hx434_0))
    replace p434:=eq_true p434;replace q434:=eq_true q434;have p10:0<=(x17_1:Int):=of_decide_eq_true aD;have q10:(x17_1:Int)<((x6_1.length:Int):Int):=of_decide_eq_true aD;obtain ⟨go10,co10,eo10,gb10,gl10,cl10,HG10⟩:=Kd.R_form HO_6.out (by omega)
    (first|cases eo10|(injection eo10 with ea_ en_ ec_;(first|subst ea_|(injection ea_ with ea_;subst ea_));subst ec_;clear en_))
    have GB10:=aa gb10;have GG10:=aa HG10;clear gb10 gl10 HG10
    (first|simp only[add_plain]at hx433_0|skip)
    obtain ⟨hx10_0,hf10_0⟩:=Kd.R_celln 0 HO_6.out (x17_1:Int) p10 q10;replace p10:=eq_true p10;replace q10:=eq_true q10;have HP12:=Kd.R_putn HO_6.out (x17_1:Int) (wrap64 ((rd x6_1 x17_1) - (rd l0 x17_1)));rw[<- Ny435.out]at HP12;have HQ12:=aa HP12;clear HP12;refine jf (n:=11) (S:=λw'=>w'.cell? ⟨go10,(x17_1).toNat,none⟩=some (.int .i64 (rd x6_1 x17_1))/\w'.cell? (ad434.add (x17_1).toNat)=some (.int .i64 (rd l0 x17_1))) (ds:=[10]) (fe 11 0) (by kernel_rfl) rfl (by kernel_rfl) ⟨hx433_0,((HB.out.cell (World.block_lt_of_cell? w _ hw434_0)).trans hw434_0)⟩ (λhHeld=>?_);refine j5 gm.tab5 gm.bits5 (λHT_ HW_=>?_)
    generalize wr.drew=w11 at HO_6 HB GG10 HQ12 hf10_0 hx10_0 hx433_0 hx434_0 hHeld ⊢;refine aK 0 20 11 1 ?_;refine aK 1 21 11 3 ?_;refine aK 2 22 11 7 ?_;refine aK 4 24 11 23 ?_;refine aK 5 25 11 55 ?_;refine aK 6 26 11 119 ?_;refine il 3 23 11 127 ?_;refine il 7 27 11 255 ?_;refine aK 8 28 11 511 ?_;refine aK 9 29 11 1023 ?_;refine rH 10 none 11 2047 λK hK=>?_;refine qi (w1:=?_) (by rfl) rfl ?_ ?_;rotate_left
    ·
     go_simp;rfl
    refine hK.out _ _ ?_;clear hK K;refine iQ (jm HT_.out (by kernel_rfl)) ?_
    try go_wp2
    (try simp only[<- hl6_1])
    go_roundg k1
    case measure=>have:=HK1.out;omega
    case rel=>exact ⟨(y435),(wrap64 (x17_1+1)),ag,H',⟨bB HK1.out⟩,⟨by (try simp only[hl6_1]);(with_reducible repeat (first|apply Kd.R_alloc|apply Kd.R_drewN|apply Kd.R_drew));exact HQ12.out⟩,⟨aY GB10.out⟩⟩
   rw[if_neg c6]at H;have c6b0:=decide_eq_false c6
   (try simp only[hl6_1]at c6b0)
   clear c6;obtain ⟨rfl,rfl⟩:=dB H;go_wp2;go_ret2;exact ⟨_,aU,ai HO_6.out,af⟩
def o5.f(k:Nat)(l0:List Int):Option (List Int × Bool):=(fT.f k l0).bind λt436=>(if t436=true then ((gJ.f k l0).bind λt437=>(some (t437,true)))else (some (([]:List Int),false)))
theorem o5.calls(k:Nat)(A0:Option Addr)(c0:Nat)(l0:List Int)(r1:List Int)(r2:Bool)(w:World)(hr0:Kd.C (Kd.int .i64) w A0 l0.length l0)(hc0:l0.length<=c0)(h:o5.f k l0=some (r1,r2)) :
  Calls Tryz.prog 142 #[.slice A0 l0.length c0] w λe w'=>∃v0_:Value,e=.returned (.tuple #[v0_,.bool r2])/\Kd.R (Kd.int .i64) 3 w' w.heap.size (λ_=>True) v0_ r1/\Below w.heap.size w w':=by
 have HR0:=aa hr0;have HC0:=aa hc0;clear hr0 hc0;have HB:=aa (Below.refl w.heap.size w);unfold o5.f at h;have H:=h;clear h;obtain ⟨t436,A2,H⟩:=aA H;revert H;refine bA (λc3 H=>?_) λc3 H=>?_
 ·
  subst c3;obtain ⟨t437,A4,H⟩:=aA H;obtain ⟨rfl,rfl⟩:=dB H;go_enter Tryz.func142,Tryz.ntmps142;go_wp2_with (first|((with_reducible refine av 60 ?_);refine ax 5 Tryz.func60 #[.slice A0 l0.length c0] ?_;(with_reducible refine (fT.calls k _ _ l0 true _ ?s1 ?s2 A2.out).mono ?_);(case s1=>exact dU HR0.out);(case s2=>exact HC0.out);rintro e w5 ⟨rfl,hb⟩;refine ⟨_,rfl,?_⟩;replace HB:=aa (aj af hb);clear hb)|((with_reducible refine av 201 ?_);refine ax 8 Tryz.func201 #[.slice A0 l0.length c0] ?_;(with_reducible refine (gJ.calls k _ _ l0 t437 _ ?s1 ?s2 A4.out).mono ?_);(case s1=>exact bQ HR0.out);(case s2=>exact HC0.out);rintro e w6 ⟨v438,rfl,ho0,hb⟩;refine ⟨_,rfl,?_⟩;have HO439:=aa (Kd.R_lower ho0 (ay af));replace HB:=aa (aj af hb);clear hb ho0));go_ret2;exact ⟨_,aU,ai HO439.out,af⟩
 subst c3;obtain ⟨rfl,rfl⟩:=dB H;go_enter Tryz.func142,Tryz.ntmps142;go_wp2_with (first|((with_reducible refine av 60 ?_);refine ax 5 Tryz.func60 #[.slice A0 l0.length c0] ?_;(with_reducible refine (fT.calls k _ _ l0 false _ ?s1 ?s2 A2.out).mono ?_);(case s1=>exact dU HR0.out);(case s2=>exact HC0.out);rintro e w7 ⟨rfl,hb⟩;refine ⟨_,rfl,?_⟩;replace HB:=aa (aj af hb);clear hb));go_ret2;exact ⟨_,aU,d9,af⟩
def oV.f(k:Nat)(l0:List Int):Option (Int × Bool):=(fT.f k l0).bind λt440=>(if t440=true then ((fu.f k l0).bind λt441=>(some (t441,true)))else (some (0,false)))
theorem oV.calls(k:Nat)(A0:Option Addr)(c0:Nat)(l0:List Int)(r1:Int)(r2:Bool)(w:World)(hr0:Kd.C (Kd.int .i64) w A0 l0.length l0)(hc0:l0.length<=c0)(h:oV.f k l0=some (r1,r2)) :
  Calls Tryz.prog 144 #[.slice A0 l0.length c0] w λe w'=>e=.returned (.tuple #[.int .i64 r1,.bool r2])/\Below w.heap.size w w':=by
 have HR0:=aa hr0;have HC0:=aa hc0;clear hr0 hc0;have HB:=aa (Below.refl w.heap.size w);unfold oV.f at h;have H:=h;clear h;obtain ⟨t440,A2,H⟩:=aA H;revert H;refine bA (λc3 H=>?_) λc3 H=>?_
 ·
  subst c3;obtain ⟨t441,A4,H⟩:=aA H;obtain ⟨rfl,rfl⟩:=dB H;go_enter Tryz.func144,Tryz.ntmps144;go_wp2_with (first|((with_reducible refine av 60 ?_);refine ax 5 Tryz.func60 #[.slice A0 l0.length c0] ?_;(with_reducible refine (fT.calls k _ _ l0 true _ ?s1 ?s2 A2.out).mono ?_);(case s1=>exact dU HR0.out);(case s2=>exact HC0.out);rintro e w5 ⟨rfl,hb⟩;refine ⟨_,rfl,?_⟩;replace HB:=aa (aj af hb);clear hb)|((with_reducible refine av 64 ?_);refine ax 8 Tryz.func64 #[.slice A0 l0.length c0] ?_;(with_reducible refine (fu.calls k _ _ l0 t441 _ ?s1 ?s2 A4.out).mono ?_);(case s1=>exact bQ HR0.out);(case s2=>exact HC0.out);rintro e w6 ⟨rfl,hb⟩;refine ⟨_,rfl,?_⟩;replace HB:=aa (aj af hb);clear hb));go_ret2;exact ⟨aU,af⟩
 subst c3;obtain ⟨rfl,rfl⟩:=dB H;go_enter Tryz.func144,Tryz.ntmps144;go_wp2_with (first|((with_reducible refine av 60 ?_);refine ax 5 Tryz.func60 #[.slice A0 l0.length c0] ?_;(with_reducible refine (fT.calls k _ _ l0 false _ ?s1 ?s2 A2.out).mono ?_);(case s1=>exact dU HR0.out);(case s2=>exact HC0.out);rintro e w7 ⟨rfl,hb⟩;refine ⟨_,rfl,?_⟩;replace HB:=aa (aj af hb);clear hb));go_ret2;exact ⟨aU,af⟩
def j6.f(a0:Int):Option (Bool):=(gB.f a0 2 12).bind λt442=>(some t442)
theorem j6.calls(a0:Int)(r:Bool)(w:World)(h:j6.f a0=some r) :
  Calls Tryz.prog 94 #[.int .i64 a0] w λe w'=>e=.returned (.bool r)/\bg w w':=by
 unfold j6.f at h;have H:=h;clear h;obtain ⟨t442,A2,H⟩:=aA H;obtain rfl:=Option.some.inj H;go_enter Tryz.func94,Tryz.ntmps94;go_wp2_with (first|((with_reducible refine av 101 ?_);refine ax 4 Tryz.func101 #[.int .i64 a0,.int .i64 2,.int .i64 12] ?_;(with_reducible refine (gB.calls a0 2 12 t442 _ A2.out).mono ?_);rintro e w' ⟨rfl,⟨nd,rfl⟩⟩;refine ⟨_,rfl,?_⟩));go_ret;exact ⟨ag,aZ⟩
def fU.l0:Nat->List Int->Int->Int->Int->Option (Int)
 | 0,_,_,_,_=>none
 | k+1,x0,x1,x7,x8=>if x8<x7 then (if 0<=x8 then (if x8<(x0.length:Int)then (if x1=(rd x0 x8)then (some x8)else (fU.l0 k x0 x1 x7 (wrap64 (x8+1))))else (none))else (none))else (some (-1))
def fU.f(k:Nat)(l0:List Int)(a1:Int):Option (Int):=fU.l0 k l0 a1 (l0.length:Int) 0
theorem fU.calls(k:Nat)(A0:Option Addr)(c0:Nat)(l0:List Int)(a1:Int)(r:Int)(w:World)(hr0:Kd.C (Kd.int .i64) w A0 l0.length l0)(hc0:l0.length<=c0)(h:fU.f k l0 a1=some r) :
  Calls Tryz.prog 166 #[.slice A0 l0.length c0,.int .i64 a1] w λe w'=>e=.returned (.int .i64 r)/\bg w w':=by
 have HR0:=aa hr0;have HC0:=aa hc0;clear hr0 hc0;unfold fU.f at h;have H:=h;clear h;have H':=aa H;clear H;go_enter Tryz.func166,Tryz.ntmps166;go_wp2
 go_loopg [8] k (λkq v8 w'=>∃ (x8_1:Int),v8=.int .i64 x8_1/\ae (fU.l0 kq l0 a1 (l0.length:Int) x8_1=some r)/\ae (kq<=k)/\bg w w')
 case atStart=>exact ⟨(0),ag,H',⟨Nat.le_refl _⟩,aZ⟩
 case round =>
  clear H';obtain ⟨x8_1,rfl,HA,HK1,⟨m1,rfl⟩⟩:=hrel;cases gk with
  | zero=>exact ak HA.out
  | succ k1 =>
   have H:=HA.out;clear HA;simp only[fU.l0]at H;revert H;refine bi (λc3b0 H=>?_) λc3b0 H=>?_
   ·
    revert H;refine aX λc4b0 H=>?_;revert H;refine aX λc5b0 H=>?_;revert H;refine dH (λc6b0 c6b1 H=>?_) λc6 c6b0 c6b1 H=>?_
    ·
     obtain rfl:=Option.some.inj H;obtain ⟨ad443,rfl,hx443_0,p443,q443⟩:=bW HR0.out x8_1;go_wp2;go_ret;exact ⟨ag,aZ⟩
    have H':=aa H;clear H;obtain ⟨ad443,rfl,hx443_0,p443,q443⟩:=bW HR0.out x8_1;go_wp2;go_roundg k1
    case measure=>have:=HK1.out;omega
    case rel=>exact ⟨(wrap64 (x8_1+1)),ag,H',⟨bB HK1.out⟩,aZ⟩
   obtain rfl:=Option.some.inj H;go_wp2;go_ret;exact ⟨ag,aZ⟩
def gP.f(k:Nat)(l0:List Int)(a1:Int):Option (Bool):=(fU.f k l0 a1).bind λt444=>(some (decide (t444 >= 0)))
theorem gP.calls(k:Nat)(A0:Option Addr)(c0:Nat)(l0:List Int)(a1:Int)(r:Bool)(w:World)(hr0:Kd.C (Kd.int .i64) w A0 l0.length l0)(hc0:l0.length<=c0)(h:gP.f k l0 a1=some r) :
  Calls Tryz.prog 96 #[.slice A0 l0.length c0,.int .i64 a1] w λe w'=>e=.returned (.bool r)/\bg w w':=by
 have HR0:=aa hr0;have HC0:=aa hc0;clear hr0 hc0;unfold gP.f at h;have H:=h;clear h;obtain ⟨t444,A3,H⟩:=aA H;obtain rfl:=Option.some.inj H;go_enter Tryz.func96,Tryz.ntmps96;go_wp2_with (first|((with_reducible refine av 166 ?_);refine ax 7 Tryz.func166 #[.slice A0 l0.length c0,.int .i64 a1] ?_;(with_reducible refine (fU.calls k _ _ l0 a1 t444 _ ?s1 ?s2 A3.out).mono ?_);(case s1=>exact dU HR0.out);(case s2=>exact HC0.out);rintro e w' ⟨rfl,⟨nd,rfl⟩⟩;refine ⟨_,rfl,?_⟩));go_ret;exact ⟨ag,aZ⟩
def jO.f(l0_0:List Int)(a1:Int):Option (Int):=if 0<=a1 then (if a1<(l0_0.length:Int)then (if (l0_0.length:Int)=0 then (none)else (some (Int.tmod (wrap64 ((wrap64 (a1 - (Int.tmod (rd l0_0 a1) (l0_0.length:Int))))+(l0_0.length:Int))) (l0_0.length:Int))))else (none))else (none)
theorem jO.calls(A0_0:Option Addr)(c0_0:Nat)(l0_0:List Int)(a1:Int)(r:Int)(w:World)(hr0_0:Kd.C (Kd.int .i64) w A0_0 l0_0.length l0_0)(hc0_0:l0_0.length<=c0_0)(h:jO.f l0_0 a1=some r) :
  Calls Tryz.prog 97 #[.agg #[.slice A0_0 l0_0.length c0_0],.int .i64 a1] w λe w'=>e=.returned (.int .i64 r)/\Below w.heap.size w w':=by
 have hu34:=Tryz.underlying34;have HR0_0:=aa hr0_0;have HC0_0:=aa hc0_0;clear hr0_0 hc0_0;have HB:=aa (Below.refl w.heap.size w);unfold jO.f at h;have H:=h;clear h;revert H;refine aX λc3b0 H=>?_;revert H;refine aX λc4b0 H=>?_;revert H;refine jb λc5 H=>?_;have c5b0:=beq_eq_false_iff_ne.mpr c5;have c5b1:=bne_iff_ne.mpr c5;have c5b2:¬ (l0_0=[]):=λh_=>c5 (by rw[h_];rfl);obtain rfl:=Option.some.inj H;go_enter Tryz.func97,Tryz.ntmps97;go_wp2_with (first|((with_reducible refine dm 2 ?_);refine fJ #[.slice A0_0 l0_0.length c0_0] 34 ?_;intro gb445 hg w6 hbox hb;have BK445:=aa (hbox);have GW445:=aa ((by rw[hg];exact (ay af):w.heap.size<=gb445));have GE445:=aa ((by rw[hg];exact (ay af):w.heap.size<=gb445));replace HB:=aa (aj af hb);clear hb hbox hg;have hcz7_0:w6.cell? ⟨gb445,0,none⟩=some (.slice A0_0 l0_0.length c0_0):=(ah BK445.out 0).trans rfl;have hfz7_0:=au BK445.out 0;have p446:0<=(a1:Int):=of_decide_eq_true aD;have q446:a1<(l0_0.length:Int):=of_decide_eq_true aD;obtain ⟨ad446,e446,hx446_0⟩:=Kd.at_int HR0_0.out a1 p446 q446;cases e446;replace hx446_0:=(HB.out.cell (World.block_lt_of_cell? w _ hx446_0)).trans hx446_0;replace p446:=eq_true p446;replace q446:=eq_true q446));go_ret;exact ⟨aU,aY GE445.out⟩
mutual
def dz.j0:Nat->Bool->List Int->Option (Bool)
 | 0,_,_=>none
 | k+1,x22,x448000=>if x22=true then (some false)else (dz.l0 k x448000 (x448000.length:Int) 0 x448000)
def dz.l0:Nat->List Int->Int->Int->List Int->Option (Bool)
 | 0,_,_,_,_=>none
 | k+1,x24,x25,x26,x448000=>if x26<x25 then (if 0<=x26 then (if x26<(x24.length:Int)then (if (rd x24 x26)<0 then (dz.l0 k x24 x25 (wrap64 (x26+1)) x448000)else (if x26<=(x448000.length:Int)then ((gP.f k (x448000.take (x26:Int).toNat) (rd x24 x26)).bind λt453=>(if t453=true then (some false)else ((jO.f x448000 x26).bind λt454=>(dz.l1 k (rd x24 x26) x24 x25 x26 t454 0 x448000))))else (none)))else (none))else (none))else (some true)
def dz.l1:Nat->Int->List Int->Int->Int->Int->Int->List Int->Option (Bool)
 | 0,_,_,_,_,_,_,_=>none
 | k+1,x4,x24,x25,x26,x41,x42,x448000=>if x42<x41 then (if (x448000.length:Int)=0 then (none)else (if 0<=(Int.tmod (wrap64 (x4+x42)) (x448000.length:Int))then (if (Int.tmod (wrap64 (x4+x42)) (x448000.length:Int))<(x448000.length:Int)then (if (rd x448000 (Int.tmod (wrap64 (x4+x42)) (x448000.length:Int)))<0 then (some false)else (dz.l1 k x4 x24 x25 x26 x41 (wrap64 (x42+1)) x448000))else (none))else (none)))else (dz.l0 k x24 x25 (wrap64 (x26+1)) x448000)
end
def dz.f(k:Nat)(l0_0:List Int):Option (Bool):=(j6.f (l0_0.length:Int)).bind λt448=>(if t448=true then ((iE.f l0_0 (-1) 999).bind λt449=>(if t449=true then ((gP.f k l0_0 (-1)).bind λt450=>(dz.j0 k (!t450) l0_0))else (dz.j0 k true l0_0)))else (dz.j0 k true l0_0))
theorem dz.calls(k:Nat)(A0_0:Option Addr)(c0_0:Nat)(l0_0:List Int)(r:Bool)(w:World)(hr0_0:Kd.C (Kd.int .i64) w A0_0 l0_0.length l0_0)(hc0_0:l0_0.length<=c0_0)(h:dz.f k l0_0=some r) :
  Calls Tryz.prog 61 #[.agg #[.slice A0_0 l0_0.length c0_0]] w λe w'=>e=.returned (.bool r)/\Below w.heap.size w w':=by
 have hu34:=Tryz.underlying34;have HR0_0:=aa hr0_0;have HC0_0:=aa hc0_0;clear hr0_0 hc0_0;have HB:=aa (Below.refl w.heap.size w);unfold dz.f at h;have H:=h;clear h;have HC2:=aa H;clear H;go_enter Tryz.func61,Tryz.ntmps61;have zz_:=trivial
 repeat (clear zz_;go_upto_region 1 with (first|((with_reducible refine dm 1 ?_);refine fJ #[.slice A0_0 l0_0.length c0_0] 34 ?_;intro gb447 hg w3 hbox hb;have BK447:=aa (hbox);have GW447:=aa ((by rw[hg];exact (ay af):w.heap.size<=gb447));have GE447:=aa ((by rw[hg];exact (ay af):w.heap.size<=gb447));replace HB:=aa (aj af hb);clear hb hbox hg));try (go_quiet (fail);have zz_:=trivial))
 (try simp only[Act.put,List.setIfInBounds_toArray,List.set_cons_zero,List.set_cons_succ])
 go_cut [22] (λv22 wc=>∃ (kq:Nat) (x22_1:Bool),v22=.bool x22_1/\ae (dz.j0 kq x22_1 l0_0=some r)/\ae (kq<=k)/\ae (wc.heap[gb447]?=some (.cells #[(.slice A0_0 l0_0.length c0_0)] 34 (0,0)))/\ae (Below w.heap.size w wc))
 case first =>
  have H:=HC2.out;clear HC2;obtain ⟨t448,A4,H⟩:=aA H;revert H;refine bA (λc5 H=>?_) λc5 H=>?_
  ·
   subst c5;obtain ⟨t449,A6,H⟩:=aA H;revert H;refine bA (λc7 H=>?_) λc7 H=>?_
   ·
    subst c7;obtain ⟨t450,A8,H⟩:=aA H;have H':=aa H;clear H;have hcz9_0:w3.cell? ⟨gb447,0,none⟩=some (.slice A0_0 l0_0.length c0_0):=(ah BK447.out 0).trans rfl;have hfz9_0:=au BK447.out 0;have zz_:=trivial
    repeat (clear zz_;go_wp2_with (first|(go_at_call 94;(with_reducible refine (j6.calls (l0_0.length:Int) true _ A4.out).mono ?_);rintro e w' ⟨rfl,⟨nd,rfl⟩⟩;(try exact eP))|(go_at_call 95;(with_reducible refine (iE.calls _ _ l0_0 (-1) 999 true _ ?s1 ?s2 A6.out).mono ?_);(case s1=>exact kL HR0_0.out GE447.out);(case s2=>exact HC0_0.out);rintro e w10 ⟨rfl,hb⟩;replace BK447:=aa (aI (g:=gb447) (o:=.cells #[.slice A0_0 l0_0.length c0_0] 34 (0,0)) (aJ BK447.out) hb);replace HB:=aa (aj (aY GE447.out) hb);clear hb;have hcz11_0:w10.cell? ⟨gb447,0,none⟩=some (.slice A0_0 l0_0.length c0_0):=(ah BK447.out 0).trans rfl;have hfz11_0:=au BK447.out 0)|(go_at_call 96;(with_reducible refine (gP.calls k _ _ l0_0 (-1) t450 _ ?s1 ?s2 A8.out).mono ?_);(case s1=>exact bQ HR0_0.out);(case s2=>exact HC0_0.out);rintro e w' ⟨rfl,⟨nd,rfl⟩⟩;(try exact eP)));try (go_quiet (first|(go_at_call 94;(with_reducible refine (j6.calls (l0_0.length:Int) true _ A4.out).mono ?_);rintro e w' ⟨rfl,⟨nd,rfl⟩⟩;(try exact eP))|(go_at_call 96;(with_reducible refine (gP.calls k _ _ l0_0 (-1) t450 _ ?s1 ?s2 A8.out).mono ?_);(case s1=>exact bQ HR0_0.out);(case s2=>exact HC0_0.out);rintro e w' ⟨rfl,⟨nd,rfl⟩⟩;(try exact eP)));have zz_:=trivial))
    go_meet
    case rel=>exact ⟨_,(!t450),ag,H',⟨dF⟩,⟨aJ BK447.out⟩,⟨aY GE447.out⟩⟩
   subst c7;have H':=aa H;clear H;have hcz12_0:w3.cell? ⟨gb447,0,none⟩=some (.slice A0_0 l0_0.length c0_0):=(ah BK447.out 0).trans rfl;have hfz12_0:=au BK447.out 0;have zz_:=trivial
   repeat (clear zz_;go_wp2_with (first|(go_at_call 94;(with_reducible refine (j6.calls (l0_0.length:Int) true _ A4.out).mono ?_);rintro e w' ⟨rfl,⟨nd,rfl⟩⟩;(try exact eP))|(go_at_call 95;(with_reducible refine (iE.calls _ _ l0_0 (-1) 999 false _ ?s1 ?s2 A6.out).mono ?_);(case s1=>exact kL HR0_0.out GE447.out);(case s2=>exact HC0_0.out);rintro e w13 ⟨rfl,hb⟩;replace BK447:=aa (aI (g:=gb447) (o:=.cells #[.slice A0_0 l0_0.length c0_0] 34 (0,0)) (aJ BK447.out) hb);replace HB:=aa (aj (aY GE447.out) hb);clear hb));try (go_quiet ((go_at_call 94;(with_reducible refine (j6.calls (l0_0.length:Int) true _ A4.out).mono ?_);rintro e w' ⟨rfl,⟨nd,rfl⟩⟩;(try exact eP)));have zz_:=trivial))
   go_meet
   case rel=>exact ⟨_,(true),ag,H',⟨dF⟩,⟨aJ BK447.out⟩,⟨aY GE447.out⟩⟩
  subst c5;have H':=aa H;clear H;have hcz14_0:w3.cell? ⟨gb447,0,none⟩=some (.slice A0_0 l0_0.length c0_0):=(ah BK447.out 0).trans rfl;have hfz14_0:=au BK447.out 0;have zz_:=trivial
  repeat (clear zz_;go_wp2_with (first|(go_at_call 94;(with_reducible refine (j6.calls (l0_0.length:Int) false _ A4.out).mono ?_);rintro e w' ⟨rfl,⟨nd,rfl⟩⟩;(try exact eP)));try (go_quiet ((go_at_call 94;(with_reducible refine (j6.calls (l0_0.length:Int) false _ A4.out).mono ?_);rintro e w' ⟨rfl,⟨nd,rfl⟩⟩;(try exact eP)));have zz_:=trivial))
  go_meet
  case rel=>exact ⟨_,(true),ag,H',⟨dF⟩,⟨aJ BK447.out⟩,⟨aY GE447.out⟩⟩
 case rest =>
  clear HC2;obtain ⟨kq,x22_1,rfl,HA,HJ1,BK447,HB⟩:=hcut;cases kq with
  | zero=>exact ak HA.out
  | succ kj1 =>
   have H:=HA.out;clear HA;simp only[dz.j0]at H;revert H;refine bA (λc15 H=>?_) λc15 H=>?_
   ·
    subst c15;obtain rfl:=Option.some.inj H;go_wp2
    repeat (go_quiet (fail);try go_wp2)
    go_ret;exact ⟨aU,aY GE447.out⟩
   subst c15;have H':=aa H;clear H;have hcz16_0:wc.cell? ⟨gb447,0,none⟩=some (.slice A0_0 l0_0.length c0_0):=(ah BK447.out 0).trans rfl;have hfz16_0:=au BK447.out 0;go_wp2
   repeat (go_quiet (fail);try go_wp2)
   go_loopg [26] kj1 (λkq v26 w'=>∃ (x26_2:Int),v26=.int .i64 x26_2/\ae (dz.l0 kq l0_0 (l0_0.length:Int) x26_2 l0_0=some r)/\ae (kq<=kj1)/\ae (w'.heap[gb447]?=some (.cells #[(.slice A0_0 l0_0.length c0_0)] 34 (0,0)))/\ae (Below w.heap.size w w'))
   case atStart=>exact ⟨(0),ag,H',⟨Nat.le_refl _⟩,⟨aJ BK447.out⟩,⟨aY GE447.out⟩⟩
   case round =>
    clear H';obtain ⟨x26_2,rfl,HA,HK2,BK447,HB⟩:=hrel;cases gk with
    | zero=>exact ak HA.out
    | succ k2 =>
     have H:=HA.out;clear HA;simp only[dz.l0]at H;revert H;refine bi (λc17b0 H=>?_) λc17b0 H=>?_
     ·
      revert H;refine aX λc18b0 H=>?_;revert H;refine aX λc19b0 H=>?_;revert H;refine bi (λc20b0 H=>?_) λc20b0 H=>?_
      ·
       have H':=aa H;clear H;obtain ⟨ad451,rfl,hx451_0,p451,q451⟩:=bW HR0_0.out x26_2
       (try (replace hx451_0:=(HB.out.cell (World.block_lt_of_cell? w _ hx451_0)).trans hx451_0))
       go_wp2
       repeat (go_quiet (fail);try go_wp2)
       go_roundg k2
       case measure=>have:=HJ1.out;have:=HK2.out;omega
       case rel=>exact ⟨(wrap64 (x26_2+1)),ag,H',⟨dR HJ1.out HK2.out⟩,⟨aJ BK447.out⟩,⟨aY GE447.out⟩⟩
      have c21b0:=eq_true (of_decide_eq_true aD:0<=x26_2);revert H;refine dI λc22b0 c22b1 H=>?_;obtain ⟨t453,A23,H⟩:=aA H;revert H;refine bA (λc24 H=>?_) λc24 H=>?_
      ·
       subst c24;obtain rfl:=Option.some.inj H;obtain ⟨ad451,rfl,hx451_0,p451,q451⟩:=bW HR0_0.out x26_2
       (try (replace hx451_0:=(HB.out.cell (World.block_lt_of_cell? w _ hx451_0)).trans hx451_0))
       have hcz25_0:wr.cell? ⟨gb447,0,none⟩=some (.slice (some ad451) l0_0.length c0_0):=(ah BK447.out 0).trans rfl;have hfz25_0:=au BK447.out 0;obtain ⟨i026,hi026,_,hsz26,_⟩:=info_parts info3;obtain ⟨hcut26,hA26,hC26⟩:=mE (P:=Tryz.prog) (Value.int .i64) 0 22 3 .i64 Tryz.underlying22 hi026 hsz26 (some ad451) c0_0 l0_0 x26_2 (of_decide_eq_true aD) (of_decide_eq_true aD) HC0_0.out
       have hlen26:(l0_0.take (x26_2:Int).toNat).length=(x26_2:Int).toNat:=by
        have h1:0<=(x26_2:Int):=of_decide_eq_true aD;have h2:(x26_2:Int)<=(l0_0.length:Int):=of_decide_eq_true aD;rw[List.length_take];omega
       have HR452:=aa (Kd.C_of_reads (h1:=λ_=>rfl) (hA26 _ (Kd.reads_of_C HR0_0.out)));have HC452:=aa hC26;clear hA26 hC26 hi026 hsz26;have zz_:=trivial
       repeat (clear zz_;go_wp2_with (first|(go_at_call 96;(try rw[<- hlen26]);(with_reducible refine (gP.calls k2 _ _ (l0_0.take (x26_2:Int).toNat) (rd l0_0 x26_2) true _ ?s1 ?s2 A23.out).mono ?_);(case s1=>exact bQ HR452.out);(case s2=>exact HC452.out);rintro e w' ⟨rfl,⟨nd,rfl⟩⟩;(try exact eP)));try (go_quiet ((go_at_call 96;(try rw[<- hlen26]);(with_reducible refine (gP.calls k2 _ _ (l0_0.take (x26_2:Int).toNat) (rd l0_0 x26_2) true _ ?s1 ?s2 A23.out).mono ?_);(case s1=>exact bQ HR452.out);(case s2=>exact HC452.out);rintro e w' ⟨rfl,⟨nd,rfl⟩⟩;(try exact eP)));have zz_:=trivial))
       go_ret;exact ⟨aU,aY GE447.out⟩
      subst c24;obtain ⟨t454,A27,H⟩:=aA H;have H':=aa H;clear H;obtain ⟨ad451,rfl,hx451_0,p451,q451⟩:=bW HR0_0.out x26_2
      (try (replace hx451_0:=(HB.out.cell (World.block_lt_of_cell? w _ hx451_0)).trans hx451_0))
      have hcz28_0:wr.cell? ⟨gb447,0,none⟩=some (.slice (some ad451) l0_0.length c0_0):=(ah BK447.out 0).trans rfl;have hfz28_0:=au BK447.out 0;obtain ⟨i029,hi029,_,hsz29,_⟩:=info_parts info3;obtain ⟨hcut29,hA29,hC29⟩:=mE (P:=Tryz.prog) (Value.int .i64) 0 22 3 .i64 Tryz.underlying22 hi029 hsz29 (some ad451) c0_0 l0_0 x26_2 (of_decide_eq_true aD) (of_decide_eq_true aD) HC0_0.out
      have hlen29:(l0_0.take (x26_2:Int).toNat).length=(x26_2:Int).toNat:=by
       have h1:0<=(x26_2:Int):=of_decide_eq_true aD;have h2:(x26_2:Int)<=(l0_0.length:Int):=of_decide_eq_true aD;rw[List.length_take];omega
      have HR452:=aa (Kd.C_of_reads (h1:=λ_=>rfl) (hA29 _ (Kd.reads_of_C HR0_0.out)));have HC452:=aa hC29;clear hA29 hC29 hi029 hsz29;have zz_:=trivial
      repeat (clear zz_;go_wp2_with (first|(go_at_call 96;(try rw[<- hlen29]);(with_reducible refine (gP.calls k2 _ _ (l0_0.take (x26_2:Int).toNat) (rd l0_0 x26_2) false _ ?s1 ?s2 A23.out).mono ?_);(case s1=>exact bQ HR452.out);(case s2=>exact HC452.out);rintro e w' ⟨rfl,⟨nd,rfl⟩⟩;(try exact eP))|(go_at_call 97;(with_reducible refine (jO.calls _ _ l0_0 x26_2 t454 _ ?s1 ?s2 A27.out).mono ?_);(case s1=>exact kL HR0_0.out GE447.out);(case s2=>exact HC0_0.out);rintro e w30 ⟨rfl,hb⟩;replace BK447:=aa (aI (g:=gb447) (o:=.cells #[.slice (some ad451) l0_0.length c0_0] 34 (0,0)) (aJ BK447.out) hb);replace HB:=aa (aj (aY GE447.out) hb);clear hb));try (go_quiet ((go_at_call 96;(try rw[<- hlen29]);(with_reducible refine (gP.calls k2 _ _ (l0_0.take (x26_2:Int).toNat) (rd l0_0 x26_2) false _ ?s1 ?s2 A23.out).mono ?_);(case s1=>exact bQ HR452.out);(case s2=>exact HC452.out);rintro e w' ⟨rfl,⟨nd,rfl⟩⟩;(try exact eP)));have zz_:=trivial))
      go_loopg [42] k2 (λkq v42 w'=>∃ (x42_3:Int),v42=.int .i64 x42_3/\ae (dz.l1 kq (rd l0_0 x26_2) l0_0 (l0_0.length:Int) x26_2 t454 x42_3 l0_0=some r)/\ae (kq<=k2)/\ae (w'.heap[gb447]?=some (.cells #[(.slice (some ad451) l0_0.length c0_0)] 34 (0,0)))/\ae (Below w.heap.size w w'))
      case atStart=>exact ⟨(0),ag,H',⟨Nat.le_refl _⟩,⟨aJ BK447.out⟩,⟨aY GE447.out⟩⟩
      case round =>
       clear H';obtain ⟨x42_3,rfl,HA,HK3,BK447,HB⟩:=hrel;cases gk with
       | zero=>exact ak HA.out
       | succ k3 =>
        have H:=HA.out;clear HA;simp only[dz.l1]at H;revert H;refine bi (λc31b0 H=>?_) λc31b0 H=>?_
        ·
         revert H;refine jb λc32 H=>?_;have c32b0:=beq_eq_false_iff_ne.mpr c32;have c32b1:=bne_iff_ne.mpr c32;have c32b2:¬ (l0_0=[]):=λh_=>c32 (by rw[h_];rfl);obtain ⟨ji33,hji33⟩:∃j_:Int,(Int.tmod (wrap64 ((rd l0_0 x26_2)+x42_3)) (l0_0.length:Int))=j_:=⟨_,rfl⟩;replace H:(if 0<=(ji33)then (if (ji33)<(l0_0.length:Int)then (if (rd l0_0 (ji33))<0 then (some false)else (dz.l1 k3 (rd l0_0 x26_2) l0_0 (l0_0.length:Int) x26_2 t454 (wrap64 (x42_3+1)) l0_0))else (none))else (none))=some r:=by first|(rw[hji33]at H;exact H)|(simp only[hji33]at H ⊢;exact H)
         revert H;refine aX λc34b0 H=>?_;revert H;refine aX λc35b0 H=>?_;revert H;refine bi (λc36b0 H=>?_) λc36b0 H=>?_
         ·
          obtain rfl:=Option.some.inj H;have hcz37_0:wr.cell? ⟨gb447,0,none⟩=some (.slice (some ad451) l0_0.length c0_0):=(ah BK447.out 0).trans rfl;have hfz37_0:=au BK447.out 0;have p455:0<=((ji33):Int):=of_decide_eq_true aD;have q455:(ji33)<(l0_0.length:Int):=of_decide_eq_true aD;obtain ⟨ad455,e455,hx455_0⟩:=Kd.at_int HR0_0.out (ji33) p455 q455;obtain rfl:ad451=ad455:=(by injection e455)
          (try (replace hx455_0:=(HB.out.cell (World.block_lt_of_cell? w _ hx455_0)).trans hx455_0))
          replace p455:=eq_true p455;replace q455:=eq_true q455;go_wp2
          repeat (go_quiet (fail);try go_wp2)
          go_ret;exact ⟨by first|rfl|(simp[ig,ic] <;> rfl)|(simp only[<- hji33];first|rfl|(simp[ig,ic] <;> rfl))|(simp[*,ig,ic] <;> rfl),aY GE447.out⟩
         have H':=aa H;clear H;have hcz38_0:wr.cell? ⟨gb447,0,none⟩=some (.slice (some ad451) l0_0.length c0_0):=(ah BK447.out 0).trans rfl;have hfz38_0:=au BK447.out 0;have p455:0<=((ji33):Int):=of_decide_eq_true aD;have q455:(ji33)<(l0_0.length:Int):=of_decide_eq_true aD;obtain ⟨ad455,e455,hx455_0⟩:=Kd.at_int HR0_0.out (ji33) p455 q455;obtain rfl:ad451=ad455:=(by injection e455)
         (try (replace hx455_0:=(HB.out.cell (World.block_lt_of_cell? w _ hx455_0)).trans hx455_0))
         replace p455:=eq_true p455;replace q455:=eq_true q455;go_wp2
         repeat (go_quiet (fail);try go_wp2)
         go_roundg k3
         case measure=>have:=HJ1.out;have:=HK2.out;have:=HK3.out;omega
         case rel=>exact ⟨(wrap64 (x42_3+1)),ag,H',⟨kU HJ1.out HK2.out HK3.out⟩,⟨aJ BK447.out⟩,⟨aY GE447.out⟩⟩
        have H':=aa H;clear H;go_wp2
        repeat (go_quiet (fail);try go_wp2)
        go_roundg k3
        case measure=>have:=HJ1.out;have:=HK2.out;have:=HK3.out;omega
        case rel=>exact ⟨(wrap64 (x26_2+1)),ag,H',⟨kU HJ1.out HK2.out HK3.out⟩,⟨aJ BK447.out⟩,⟨aY GE447.out⟩⟩
     obtain rfl:=Option.some.inj H;go_wp2
     repeat (go_quiet (fail);try go_wp2)
     go_ret;exact ⟨aU,aY GE447.out⟩
def kE.l0:Nat->Int->List Int->Int->Int->Option (Int)
 | 0,_,_,_,_=>none
 | k+1,x3,x6,x7,x8=>if x8<x7 then (if 0<=x8 then (if x8<(x6.length:Int)then (kE.l0 k (wrap64 (x3+(rd x6 x8))) x6 x7 (wrap64 (x8+1)))else (none))else (none))else (some x3)
def kE.f(k:Nat)(l0:List Int):Option (Int):=kE.l0 k 0 l0 (l0.length:Int) 0
theorem kE.calls(k:Nat)(A0:Option Addr)(c0:Nat)(l0:List Int)(r:Int)(w:World)(hr0:Kd.C (Kd.int .i64) w A0 l0.length l0)(hc0:l0.length<=c0)(h:kE.f k l0=some r) :
  Calls Tryz.prog 202 #[.slice A0 l0.length c0] w λe w'=>e=.returned (.int .i64 r)/\bg w w':=by
 have HR0:=aa hr0;have HC0:=aa hc0;clear hr0 hc0;unfold kE.f at h;have H:=h;clear h;have H':=aa H;clear H;go_enter Tryz.func202,Tryz.ntmps202;go_wp2
 go_loopg [3,8] k (λkq v3 v8 w'=>∃ (x3_1:Int) (x8_1:Int),v3=.int .i64 x3_1/\v8=.int .i64 x8_1/\ae (kE.l0 kq x3_1 l0 (l0.length:Int) x8_1=some r)/\ae (kq<=k)/\bg w w')
 case atStart=>exact ⟨(0),(0),ag,ag,H',⟨Nat.le_refl _⟩,aZ⟩
 case round =>
  clear H';obtain ⟨x3_1,x8_1,rfl,rfl,HA,HK1,⟨m1,rfl⟩⟩:=hrel;cases gk with
  | zero=>exact ak HA.out
  | succ k1 =>
   have H:=HA.out;clear HA;simp only[kE.l0]at H;revert H;refine bi (λc2b0 H=>?_) λc2b0 H=>?_
   ·
    revert H;refine aX λc3b0 H=>?_;revert H;refine aX λc4b0 H=>?_;have H':=aa H;clear H;obtain ⟨ad456,rfl,hx456_0,p456,q456⟩:=bW HR0.out x8_1;go_wp2;go_roundg k1
    case measure=>have:=HK1.out;omega
    case rel=>exact ⟨(wrap64 (x3_1+(rd l0 x8_1))),(wrap64 (x8_1+1)),ag,ag,H',⟨bB HK1.out⟩,aZ⟩
   obtain rfl:=Option.some.inj H;go_wp2;go_ret;exact ⟨ag,aZ⟩
mutual
def gz.j0:Nat->List Int->List Int->Bool->Option (List Int × Bool)
 | 0,_,_,_=>none
 | k+1,x0,x1,x24=>if x24=true then (some (([]:List Int),false))else ((iw.f x0).bind λt467=>(gz.l0 k x0 t467 x1 (x1.length:Int) 0))
def gz.l0:Nat->List Int->List Int->List Int->Int->Int->Option (List Int × Bool)
 | 0,_,_,_,_,_=>none
 | k+1,x0,x6,x27,x28,x29=>if x29<x28 then (if 0<=x29 then (if x29<(x27.length:Int)then (if x6.length<17592186044416 then (gz.l0 k x0 (x6++[wrap64 ((rd x27 x29)+(x0.length:Int))]) x27 x28 (wrap64 (x29+1)))else (none))else (none))else (none))else (some (x6,true))
end
def gz.f(k:Nat)(l0:List Int)(l1:List Int):Option (List Int × Bool):=(fT.f k l0).bind λt465=>(if t465=true then ((fT.f k l1).bind λt466=>(if t466=true then (gz.j0 k l0 l1 (decide ((wrap64 ((l0.length:Int)+(l1.length:Int)))>8)))else (gz.j0 k l0 l1 true)))else (gz.j0 k l0 l1 true))
theorem gz.calls(k:Nat)(A0:Option Addr)(c0:Nat)(l0:List Int)(A1:Option Addr)(c1:Nat)(l1:List Int)(r1:List Int)(r2:Bool)(w:World)(hr0:Kd.C (Kd.int .i64) w A0 l0.length l0)(hc0:l0.length<=c0)(hr1:Kd.C (Kd.int .i64) w A1 l1.length l1)(hc1:l1.length<=c1)(h:gz.f k l0 l1=some (r1,r2)) :
  Calls Tryz.prog 148 #[.slice A0 l0.length c0,.slice A1 l1.length c1] w λe w'=>∃v0_:Value,e=.returned (.tuple #[v0_,.bool r2])/\Kd.R (Kd.int .i64) 3 w' w.heap.size (λ_=>True) v0_ r1/\Below w.heap.size w w':=by
 have HR0:=aa hr0;have HC0:=aa hc0;clear hr0 hc0;have HR1:=aa hr1;have HC1:=aa hc1;clear hr1 hc1;have HB:=aa (Below.refl w.heap.size w);unfold gz.f at h;have H:=h;clear h;have HC3:=aa H;clear H;go_enter Tryz.func148,Tryz.ntmps148
 go_upto_region 1 with (fail)
 go_cut [24] (λv24 wc=>∃ (kq:Nat) (x24_2:Bool),v24=.bool x24_2/\ae (gz.j0 kq l0 l1 x24_2=some (r1,r2))/\ae (kq<=k)/\ae (Below w.heap.size w wc))
 case first =>
  have H:=HC3.out;clear HC3;obtain ⟨t465,A4,H⟩:=aA H;revert H;refine bA (λc5 H=>?_) λc5 H=>?_
  ·
   subst c5;obtain ⟨t466,A6,H⟩:=aA H;revert H;refine bA (λc7 H=>?_) λc7 H=>?_
   ·
    subst c7;have H':=aa H;clear H;go_wp2_with (first|((with_reducible refine av 60 ?_);refine ax 10 Tryz.func60 #[.slice A0 l0.length c0] ?_;(with_reducible refine (fT.calls k _ _ l0 true _ ?s1 ?s2 A4.out).mono ?_);(case s1=>exact bQ HR0.out);(case s2=>exact HC0.out);rintro e w8 ⟨rfl,hb⟩;refine ⟨_,rfl,?_⟩;replace HB:=aa (aj af hb);clear hb)|(go_at_call 60;(with_reducible refine (fT.calls k _ _ l1 true _ ?s1 ?s2 A6.out).mono ?_);(case s1=>exact bQ HR1.out);(case s2=>exact HC1.out);rintro e w9 ⟨rfl,hb⟩;replace HB:=aa (aj af hb);clear hb));go_meet
    case rel=>exact ⟨_,(decide ((wrap64 ((l0.length:Int)+(l1.length:Int)))>8)),ag,H',⟨dF⟩,⟨af⟩⟩
   subst c7;have H':=aa H;clear H;go_wp2_with (first|((with_reducible refine av 60 ?_);refine ax 10 Tryz.func60 #[.slice A0 l0.length c0] ?_;(with_reducible refine (fT.calls k _ _ l0 true _ ?s1 ?s2 A4.out).mono ?_);(case s1=>exact bQ HR0.out);(case s2=>exact HC0.out);rintro e w10 ⟨rfl,hb⟩;refine ⟨_,rfl,?_⟩;replace HB:=aa (aj af hb);clear hb)|(go_at_call 60;(with_reducible refine (fT.calls k _ _ l1 false _ ?s1 ?s2 A6.out).mono ?_);(case s1=>exact bQ HR1.out);(case s2=>exact HC1.out);rintro e w11 ⟨rfl,hb⟩;replace HB:=aa (aj af hb);clear hb));go_meet
   case rel=>exact ⟨_,(true),ag,H',⟨dF⟩,⟨af⟩⟩
  subst c5;have H':=aa H;clear H;go_wp2_with (first|((with_reducible refine av 60 ?_);refine ax 10 Tryz.func60 #[.slice A0 l0.length c0] ?_;(with_reducible refine (fT.calls k _ _ l0 false _ ?s1 ?s2 A4.out).mono ?_);(case s1=>exact bQ HR0.out);(case s2=>exact HC0.out);rintro e w12 ⟨rfl,hb⟩;refine ⟨_,rfl,?_⟩;replace HB:=aa (aj af hb);clear hb));go_meet
  case rel=>exact ⟨_,(true),ag,H',⟨dF⟩,⟨af⟩⟩
 case rest =>
  clear HC3;obtain ⟨kq,x24_2,rfl,HA,HJ2,HB⟩:=hcut;cases kq with
  | zero=>exact ak HA.out
  | succ kj2 =>
   have H:=HA.out;clear HA;simp only[gz.j0]at H;revert H;refine bA (λc13 H=>?_) λc13 H=>?_
   ·
    subst c13;obtain ⟨rfl,rfl⟩:=dB H;go_wp2;go_ret2;exact ⟨_,aU,d9,af⟩
   subst c13;obtain ⟨t467,A14,H⟩:=aA H;have H':=aa H;clear H;go_wp2_with (first|((with_reducible refine av 53 ?_);refine ax 26 Tryz.func53 #[.slice A0 l0.length c0] ?_;(with_reducible refine (iw.calls _ _ l0 t467 _ ?s1 ?s2 A14.out).mono ?_);(case s1=>exact bQ HR0.out);(case s2=>exact HC0.out);rintro e w15 ⟨v468,rfl,ho0,hb⟩;refine ⟨_,rfl,?_⟩;have HO469:=aa (Kd.R_lower ho0 (ay af));replace HB:=aa (aj af hb);clear hb ho0))
   go_loopg [6,29] kj2 (λkq v6 v29 w'=>∃ (x6_2:List Int) (x29_2:Int),v29=.int .i64 x29_2/\ae (gz.l0 kq l0 x6_2 l1 (l1.length:Int) x29_2=some (r1,r2))/\ae (kq<=kj2)/\ae (Kd.R (Kd.int .i64) 3 w' w.heap.size (λ_=>True) v6 x6_2)/\ae (Below w.heap.size w w'))
   case atStart=>exact ⟨(t467),(0),ag,H',⟨Nat.le_refl _⟩,⟨ai HO469.out⟩,⟨af⟩⟩
   case round =>
    clear H';obtain ⟨x6_2,x29_2,rfl,HA,HK2,HO_6,HB⟩:=hrel;cases gk with
    | zero=>exact ak HA.out
    | succ k2 =>
     have H:=HA.out;clear HA;simp only[gz.l0]at H;revert H;refine bi (λc16b0 H=>?_) λc16b0 H=>?_
     ·
      revert H;refine aX λc17b0 H=>?_;revert H;refine aX λc18b0 H=>?_;revert H;refine bZ λc19 H=>?_;have LMc19:=aa c19;clear c19;obtain ⟨y471,hy471⟩:=bv ((x6_2++[wrap64 ((rd l1 x29_2)+(l0.length:Int))]):List Int);replace H:(gz.l0 k2 l0 y471 l1 (l1.length:Int) (wrap64 (x29_2+1)))=some (r1,r2):=bu hy471 H;have Ny471:=aa hy471;clear hy471;have H':=aa H;clear H;obtain ⟨ad470,rfl,hx470_0,p470,q470⟩:=bW HR1.out x29_2
      (try (replace hx470_0:=(HB.out.cell (World.block_lt_of_cell? w _ hx470_0)).trans hx470_0))
      go_wp2_with (first|((with_reducible refine dE (b:=.append) (xs:=#[.tmp 33,.tmp 38]) rfl ?_);(try (refine kZ (by rfl) ?_;dsimp only));at_builtin;refine eQ (w0:=w) (.tmp 33) (.tmp 38) u6 x6_2 (wrap64 ((rd l1 x29_2)+(l0.length:Int))) (λ_=>True) (λ_ _=>trivial) (ai HO_6.out) af (by exact bB LMc19.out) ?_;intro v472 w20 ho hb hg hat;rw[<- Ny471.out]at ho;replace HB:=aa (hb);have HO473:=aa (ho);clear ho hb hg hat));go_roundg k2
      case measure=>have:=HJ2.out;have:=HK2.out;omega
      case rel=>exact ⟨(y471),(wrap64 (x29_2+1)),ag,H',⟨dR HJ2.out HK2.out⟩,⟨ai HO473.out⟩,⟨af⟩⟩
     obtain ⟨rfl,rfl⟩:=dB H;go_wp2;go_ret2;exact ⟨_,aU,ai HO_6.out,af⟩
def nD.f(l0:List Int):Option (Bool):=(ji.f (l0.length:Int)).bind λt474=>(if t474=true then ((iE.f l0 0 (l0.length:Int)).bind λt475=>(some t475))else (some false))
theorem nD.calls(A0:Option Addr)(c0:Nat)(l0:List Int)(r:Bool)(w:World)(hr0:Kd.C (Kd.int .i64) w A0 l0.length l0)(hc0:l0.length<=c0)(h:nD.f l0=some r) :
  Calls Tryz.prog 207 #[.slice A0 l0.length c0] w λe w'=>e=.returned (.bool r)/\Below w.heap.size w w':=by
 have HR0:=aa hr0;have HC0:=aa hc0;clear hr0 hc0;have HB:=aa (Below.refl w.heap.size w);unfold nD.f at h;have H:=h;clear h;obtain ⟨t474,A2,H⟩:=aA H;revert H;refine bA (λc3 H=>?_) λc3 H=>?_
 ·
  subst c3;obtain ⟨t475,A4,H⟩:=aA H;obtain rfl:=Option.some.inj H;go_enter Tryz.func207,Tryz.ntmps207;go_wp2_with (first|((with_reducible refine av 100 ?_);refine ax 5 Tryz.func100 #[.int .i64 (l0.length:Int)] ?_;(with_reducible refine (ji.calls (l0.length:Int) true _ A2.out).mono ?_);rintro e w' ⟨rfl,⟨nd,rfl⟩⟩;refine ⟨_,rfl,?_⟩)|(go_at_call 95;(with_reducible refine (iE.calls _ _ l0 0 (l0.length:Int) t475 _ ?s1 ?s2 A4.out).mono ?_);(case s1=>exact dU HR0.out);(case s2=>exact HC0.out);rintro e w5 ⟨rfl,hb⟩;replace HB:=aa (aj af hb);clear hb));go_ret;exact ⟨aU,af⟩
 subst c3;obtain rfl:=Option.some.inj H;go_enter Tryz.func207,Tryz.ntmps207;go_wp2_with (first|((with_reducible refine av 100 ?_);refine ax 5 Tryz.func100 #[.int .i64 (l0.length:Int)] ?_;(with_reducible refine (ji.calls (l0.length:Int) false _ A2.out).mono ?_);rintro e w' ⟨rfl,⟨nd,rfl⟩⟩;refine ⟨_,rfl,?_⟩));go_ret;exact ⟨aU,af⟩
mutual
def eF.l0:Nat->Int->List Bool->List Int->List Int->Int->Int->Option (List Int)
 | 0,_,_,_,_,_,_=>none
 | k+1,x1,x5,x6,x12,x13,x14=>if x14<x13 then (if 0<=x14 then (if x14<(x12.length:Int)then (eF.l1 k x1 x5 x6 (rd x12 x14) x12 x13 x14)else (none))else (none))else (some x6)
def eF.l1:Nat->Int->List Bool->List Int->Int->List Int->Int->Int->Option (List Int)
 | 0,_,_,_,_,_,_,_=>none
 | k+1,x1,x5,x6,x8,x12,x13,x14=>if 0<=x8 then (if x8<(x5.length:Int)then (if dS false x5 x8=true then (if x1=0 then (none)else (eF.l1 k x1 x5 x6 (Int.tmod (wrap64 (x8+1)) x1) x12 x13 x14))else (if x6.length<17592186044416 then (eF.l0 k x1 (x5.set (x8:Int).toNat true) (x6++[x8]) x12 x13 (wrap64 (x14+1)))else (none)))else (none))else (none)
end
def eF.f(k:Nat)(l0:List Int)(a1:Int):Option (List Int):=if 0<=a1 then (if (a1:Int).toNat<=281474976710656 then (eF.l0 k a1 (List.replicate (a1:Int).toNat false) (([]:List Int)) l0 (l0.length:Int) 0)else (none))else (none)
theorem eF.calls(k:Nat)(A0:Option Addr)(c0:Nat)(l0:List Int)(a1:Int)(r:List Int)(w:World)(hr0:Kd.C (Kd.int .i64) w A0 l0.length l0)(hc0:l0.length<=c0)(h:eF.f k l0 a1=some r) :
  Calls Tryz.prog 237 #[.slice A0 l0.length c0,.int .i64 a1] w λe w'=>∃v0_:Value,e=.returned (v0_)/\Kd.R (Kd.int .i64) 3 w' w.heap.size (λ_=>True) v0_ r/\Below w.heap.size w w':=by
 have HR0:=aa hr0;have HC0:=aa hc0;clear hr0 hc0;have HB:=aa (Below.refl w.heap.size w);unfold eF.f at h;have H:=h;clear h;revert H;refine dI λc3b0 c3b1 H=>?_;revert H;refine dI λc4b0 c4b1 H=>?_;obtain ⟨y476,hy476⟩:=bv ((List.replicate (a1:Int).toNat false):List Bool);replace H:(eF.l0 k a1 y476 (([]:List Int)) l0 (l0.length:Int) 0)=some r:=bu hy476 H;have Ny476:=aa hy476;clear hy476;obtain ⟨y479,hy479⟩:=bv ((([]:List Int)):List Int);replace H:(eF.l0 k a1 y476 y479 l0 (l0.length:Int) 0)=some r:=bu hy479 H;have Ny479:=aa hy479;clear hy479;have H':=aa H;clear H;go_enter Tryz.func237,Tryz.ntmps237;go_wp2_with (first|((with_reducible refine dm 10 ?_);refine Kd.R_make Kd.bool _ 4 rfl (N:=10) rfl 136 _ _ rfl a1 rfl rfl Tryz.underlying136 (.bool false) 1 ui rfl (by decide) (by omega) false (ok:=λ_=>True) (okp:=λ_=>True) rfl (λ_ hk=>hk) trivial (of_decide_eq_true aD) (Nat.le_trans (Nat.mul_le_mul_right _ (of_decide_eq_true aD:a1.toNat<=281474976710656)) (by omega)) (Below.refl _ _) (Nat.le_refl _) ?_;intro v477 w5 ho6 hb hg_ hnew_;clear hg_ hnew_;(first|rw[<- Ny476.out]at ho6|(simp only[Int.reduceToNat]at ho6;rw[<- Ny476.out]at ho6));have HO478:=aa (Kd.R_lower ho6 (ay af));replace HB:=aa (aj af hb);clear hb ho6)|((with_reducible refine dm 11 ?_);refine Kd.R_lit (Kd.int .i64) _ 3 ?hg (N:=11) ?hd (xs:=([]:List Int)) (inner:=[]) (ok:=λ_=>True) (okp:=λ_=>True) ?hr ?hp (λ_ hk=>hk) trivial (Below.refl _ _) (Nat.le_refl _) (by simp) ?_;(case hd=>rfl);(case hg=>rfl);(case hr=>exact eO);(case hp=>exact (bG.none _ _));intro v480 w7 ho8 hb hg_ hnew_;clear hg_ hnew_;(first|rw[<- Ny479.out]at ho8|(simp only[Int.reduceToNat]at ho8;rw[<- Ny479.out]at ho8));replace HO478:=aa (Kd.R_below (ai HO478.out) hb);have HO481:=aa (Kd.R_lower ho8 (ay af));replace HB:=aa (aj af hb);clear hb ho8))
 go_loopg [6,14] k (λkq v6 v14 w'=>∃ (x5_1:List Bool) (x6_1:List Int) (x14_1:Int),v14=.int .i64 x14_1/\ae (eF.l0 kq a1 x5_1 x6_1 l0 (l0.length:Int) x14_1=some r)/\ae (kq<=k)/\ae (Kd.R Kd.bool 4 w' w.heap.size (λ_=>True) v477 x5_1)/\ae (Kd.R (Kd.int .i64) 3 w' w.heap.size (λ_=>True) v6 x6_1)/\ae (Below w.heap.size w w'))
 case atStart=>exact ⟨(y476),(y479),(0),ag,H',⟨Nat.le_refl _⟩,⟨ai HO478.out⟩,⟨ai HO481.out⟩,⟨af⟩⟩
 case round =>
  clear H';obtain ⟨x5_1,x6_1,x14_1,rfl,HA,HK1,HO_5,HO_6,HB⟩:=hrel;cases gk with
  | zero=>exact ak HA.out
  | succ k1 =>
   have H:=HA.out;clear HA;simp only[eF.l0]at H;revert H;refine bi (λc9b0 H=>?_) λc9b0 H=>?_
   ·
    revert H;refine aX λc10b0 H=>?_;revert H;refine aX λc11b0 H=>?_;have H':=aa H;clear H;obtain ⟨ad482,rfl,hx482_0,p482,q482⟩:=bW HR0.out x14_1
    (try (replace hx482_0:=(HB.out.cell (World.block_lt_of_cell? w _ hx482_0)).trans hx482_0))
    go_wp2
    go_loopg [8] k1 (λkq v8 w'=>∃ (x8_2:Int),v8=.int .i64 x8_2/\ae (eF.l1 kq a1 x5_1 x6_1 x8_2 l0 (l0.length:Int) x14_1=some r)/\ae (kq<=k1)/\ae (Kd.R Kd.bool 4 w' w.heap.size (λ_=>True) v477 x5_1)/\ae (Kd.R (Kd.int .i64) 3 w' w.heap.size (λ_=>True) u6 x6_1)/\ae (Below w.heap.size w w'))
    case atStart=>exact ⟨(rd l0 x14_1),ag,H',⟨Nat.le_refl _⟩,⟨ai HO_5.out⟩,⟨ai HO_6.out⟩,⟨af⟩⟩
    case round =>
     clear H';obtain ⟨x8_2,rfl,HA,HK2,HO_5,HO_6,HB⟩:=hrel;cases gk with
     | zero=>exact ak HA.out
     | succ k2 =>
      have H:=HA.out;clear HA;simp only[eF.l1]at H;revert H;refine aX λc12b0 H=>?_;revert H;refine aX λc13b0 H=>?_;obtain ⟨bq14,hbq14⟩:∃b_:Bool,b_=(dS false x5_1 x8_2):=⟨_,rfl⟩;replace H:(if bq14=true then (if a1=0 then (none)else (eF.l1 k2 a1 x5_1 x6_1 (Int.tmod (wrap64 (x8_2+1)) a1) l0 (l0.length:Int) x14_1))else (if x6_1.length<17592186044416 then (eF.l0 k2 a1 (x5_1.set (x8_2:Int).toNat true) (x6_1++[x8_2]) l0 (l0.length:Int) (wrap64 (x14_1+1)))else (none)))=some r:=by rw[<- hbq14]at H;exact H
      have Nbq14:=aa hbq14;clear hbq14;revert H;refine bA (λc15 H=>?_) λc15 H=>?_
      ·
       subst c15;revert H;refine jb λc16 H=>?_;have c16b0:=beq_eq_false_iff_ne.mpr c16;have c16b1:=bne_iff_ne.mpr c16;have H':=aa H;clear H;obtain ⟨Ao17,co17,eo17⟩:=Kd.R_slice HO_5.out;subst eo17;obtain ⟨ad483,rfl,hx483_0,p483,q483⟩:=lJ (f_ HO_5.out) x8_2
       (try rw[<- Nbq14.out]at hx483_0)
       go_wp2;go_roundg k2
       case measure=>have:=HK1.out;have:=HK2.out;omega
       case rel=>exact ⟨(Int.tmod (wrap64 (x8_2+1)) a1),ag,H',⟨dR HK1.out HK2.out⟩,⟨ai HO_5.out⟩,⟨ai HO_6.out⟩,⟨af⟩⟩
      subst c15;obtain ⟨y484,hy484⟩:=bv ((x5_1.set (x8_2:Int).toNat true):List Bool);replace H:(if x6_1.length<17592186044416 then (eF.l0 k2 a1 y484 (x6_1++[x8_2]) l0 (l0.length:Int) (wrap64 (x14_1+1)))else (none))=some r:=bu hy484 H;have Ny484:=aa hy484;clear hy484;revert H;refine bZ λc19 H=>?_;have LMc19:=aa c19;clear c19;obtain ⟨y485,hy485⟩:=bv ((x6_1++[x8_2]):List Int);replace H:(eF.l0 k2 a1 y484 y485 l0 (l0.length:Int) (wrap64 (x14_1+1)))=some r:=bu hy485 H;have Ny485:=aa hy485;clear hy485;have H':=aa H;clear H;obtain ⟨Ao20,co20,eo20⟩:=Kd.R_slice HO_5.out;subst eo20;obtain ⟨ad483,rfl,hx483_0,p483,q483⟩:=lJ (f_ HO_5.out) x8_2
      (try rw[<- Nbq14.out]at hx483_0)
      have p18:0<=(x8_2:Int):=of_decide_eq_true aD;have q18:(x8_2:Int)<((x5_1.length:Int):Int):=of_decide_eq_true aD;obtain ⟨go18,co18,eo18,gb18,gl18,cl18,HG18⟩:=Kd.R_form HO_5.out (by omega)
      (first|cases eo18|(injection eo18 with ea_ en_ ec_;(first|subst ea_|(injection ea_ with ea_;subst ea_));subst ec_;clear en_))
      have GB18:=aa gb18;have GG18:=aa HG18;clear gb18 gl18 HG18
      (first|simp only[add_plain]at hx483_0|skip)
      obtain ⟨hx18_0,hf18_0⟩:=Kd.R_celln false HO_5.out (x8_2:Int) p18 q18;replace p18:=eq_true p18;replace q18:=eq_true q18;have HP21:=Kd.R_putg HO_5.out (x8_2:Int) true;go_wp2_with (first|((with_reducible refine jh (t:=4) (p:=28) rfl ?_);refine jF (t:=4) (p:=28) (v:=?vo_w22) (w1:=(wr.setCell ⟨go18,(x8_2:Int).toNat,none⟩ (.bool true))) ?hg ?ho ?hn ?hr ?_;(case ho=>rfl);(case hg=>rfl);(case hn=>rfl);(case hr=>exact eO);intro w22 hw;have hg:wr.grownBy w22 (some go18):=(by rw[hw];exact HP21.2);have hp_:Kd.R Kd.bool 4 w22 w.heap.size (λ_=>True) (.slice (some ⟨go18,0,none⟩) x5_1.length co20) y484:=(by rw[hw,Ny484.out];exact HP21.1);clear HP21;replace HO_6:=aa (Kd.R_over' (v:=(.slice (some ⟨go18,0,none⟩) x5_1.length co20)) (ai HO_6.out) (Kd.R_typed HO_5.out) (by decide) hg);replace HO_5:=aa (hp_);replace HB:=aa ((by rw[hw];exact bf (HB.out) GB18.out:Below w.heap.size w w22));clear hg hw hp_)|((with_reducible refine dE (b:=.append) (xs:=#[.tmp 29,.tmp 31]) rfl ?_);at_builtin;refine eQ (w0:=w) (.tmp 29) (.tmp 31) u6 x6_1 x8_2 (λ_=>True) (λ_ _=>trivial) (ai HO_6.out) af (by exact bB LMc19.out) ?_;intro v486 w23 ho hb hg hat;rw[<- Ny485.out]at ho;replace HO_5:=aa (Kd.R_over' (ai HO_5.out) (Kd.R_typed (ai HO_6.out)) (by decide) hg);replace HB:=aa (hb);have HO487:=aa (ho);clear ho hb hg hat));go_roundg k2
      case measure=>have:=HK1.out;have:=HK2.out;omega
      case rel=>exact ⟨(y484),(y485),(wrap64 (x14_1+1)),ag,H',⟨dR HK1.out HK2.out⟩,⟨ai HO_5.out⟩,⟨ai HO487.out⟩,⟨af⟩⟩
   obtain rfl:=Option.some.inj H;go_wp2;go_ret;exact ⟨_,aU,ai HO_6.out,af⟩
def jM.l0:Nat->List Int->Int->Option (Int)
 | 0,_,_=>none
 | k+1,x3,x4=>(gP.f k x3 x4).bind λt491=>(if t491=true then (jM.l0 k x3 (wrap64 (x4+1)))else (some x4))
def jM.f(k:Nat)(l0:List Int):Option (Int):=(eF.f k l0 (wrap64 ((l0.length:Int)+1))).bind λt488=>(jM.l0 k t488 0)
theorem jM.calls(k:Nat)(A0:Option Addr)(c0:Nat)(l0:List Int)(r:Int)(w:World)(hr0:Kd.C (Kd.int .i64) w A0 l0.length l0)(hc0:l0.length<=c0)(h:jM.f k l0=some r) :
  Calls Tryz.prog 208 #[.slice A0 l0.length c0] w λe w'=>e=.returned (.int .i64 r)/\Below w.heap.size w w':=by
 have HR0:=aa hr0;have HC0:=aa hc0;clear hr0 hc0;have HB:=aa (Below.refl w.heap.size w);unfold jM.f at h;have H:=h;clear h;obtain ⟨t488,A2,H⟩:=aA H;have H':=aa H;clear H;go_enter Tryz.func208,Tryz.ntmps208;go_wp2_with (first|((with_reducible refine av 237 ?_);refine ax 9 Tryz.func237 #[.slice A0 l0.length c0,.int .i64 (wrap64 ((l0.length:Int)+1))] ?_;(with_reducible refine (eF.calls k _ _ l0 (wrap64 ((l0.length:Int)+1)) t488 _ ?s1 ?s2 A2.out).mono ?_);(case s1=>exact dU HR0.out);(case s2=>exact HC0.out);rintro e w3 ⟨v489,rfl,ho0,hb⟩;refine ⟨_,rfl,?_⟩;have HO490:=aa (Kd.R_lower ho0 (ay af));replace HB:=aa (aj af hb);clear hb ho0))
 go_loopg [4] k (λkq v4 w'=>∃ (x4_1:Int),v4=.int .i64 x4_1/\ae (jM.l0 kq t488 x4_1=some r)/\ae (kq<=k)/\ae (Kd.R (Kd.int .i64) 3 w' w.heap.size (λ_=>True) v489 t488)/\ae (Below w.heap.size w w'))
 case atStart=>exact ⟨(0),ag,H',⟨Nat.le_refl _⟩,⟨ai HO490.out⟩,⟨af⟩⟩
 case round =>
  clear H';obtain ⟨x4_1,rfl,HA,HK1,HO_3,HB⟩:=hrel;cases gk with
  | zero=>exact ak HA.out
  | succ k1 =>
   have H:=HA.out;clear HA;simp only[jM.l0]at H;obtain ⟨t491,A4,H⟩:=aA H;revert H;refine bA (λc5 H=>?_) λc5 H=>?_
   ·
    subst c5;have H':=aa H;clear H;obtain ⟨Ao6,co6,eo6⟩:=Kd.R_slice HO_3.out;subst eo6;go_wp2_with (first|((with_reducible refine av 96 ?_);refine ax 12 Tryz.func96 #[.slice Ao6 t488.length co6,.int .i64 x4_1] ?_;(with_reducible refine (gP.calls k1 _ _ t488 x4_1 true _ ?s1 ?s2 A4.out).mono ?_);(case s1=>exact eH HO_3.out);(case s2=>exact (Kd.R_reads' HO_3.out).2.1);rintro e w' ⟨rfl,⟨nd,rfl⟩⟩;refine ⟨_,rfl,?_⟩));go_roundg k1
    case measure=>have:=HK1.out;omega
    case rel=>exact ⟨(wrap64 (x4_1+1)),ag,H',⟨bB HK1.out⟩,⟨ai HO_3.out⟩,⟨af⟩⟩
   subst c5;obtain rfl:=Option.some.inj H;obtain ⟨Ao7,co7,eo7⟩:=Kd.R_slice HO_3.out;subst eo7;go_wp2_with (first|((with_reducible refine av 96 ?_);refine ax 12 Tryz.func96 #[.slice Ao7 t488.length co7,.int .i64 x4_1] ?_;(with_reducible refine (gP.calls k1 _ _ t488 x4_1 false _ ?s1 ?s2 A4.out).mono ?_);(case s1=>exact eH HO_3.out);(case s2=>exact (Kd.R_reads' HO_3.out).2.1);rintro e w' ⟨rfl,⟨nd,rfl⟩⟩;refine ⟨_,rfl,?_⟩));go_ret;exact ⟨aU,af⟩
def jl.l0:Nat->Int->Int->List Int->List Int->Int->Int->Option (List Int)
 | 0,_,_,_,_,_,_=>none
 | k+1,x1,x2,x7,x11,x12,x13=>if x13<x12 then (if 0<=x13 then (if x13<(x11.length:Int)then (if x1=0 then (none)else (if x7.length<17592186044416 then (jl.l0 k x1 x2 (x7++[Int.tmod (wrap64 ((Int.tmod (wrap64 ((rd x11 x13)+x2)) x1)+x1)) x1]) x11 x12 (wrap64 (x13+1)))else (none)))else (none))else (none))else (some x7)
def jl.f(k:Nat)(l0:List Int)(a1:Int)(a2:Int):Option (List Int):=jl.l0 k a1 a2 (([]:List Int)) l0 (l0.length:Int) 0
theorem jl.calls(k:Nat)(A0:Option Addr)(c0:Nat)(l0:List Int)(a1:Int)(a2:Int)(r:List Int)(w:World)(hr0:Kd.C (Kd.int .i64) w A0 l0.length l0)(hc0:l0.length<=c0)(h:jl.f k l0 a1 a2=some r) :
  Calls Tryz.prog 209 #[.slice A0 l0.length c0,.int .i64 a1,.int .i64 a2] w λe w'=>∃v0_:Value,e=.returned (v0_)/\Kd.R (Kd.int .i64) 3 w' w.heap.size (λ_=>True) v0_ r/\Below w.heap.size w w':=by
 have HR0:=aa hr0;have HC0:=aa hc0;clear hr0 hc0;have HB:=aa (Below.refl w.heap.size w);unfold jl.f at h;have H:=h;clear h;obtain ⟨y492,hy492⟩:=bv ((([]:List Int)):List Int);replace H:(jl.l0 k a1 a2 y492 l0 (l0.length:Int) 0)=some r:=bu hy492 H;have Ny492:=aa hy492;clear hy492;have H':=aa H;clear H;go_enter Tryz.func209,Tryz.ntmps209;go_wp2_with (first|((with_reducible refine dm 10 ?_);refine Kd.R_lit (Kd.int .i64) _ 3 ?hg (N:=10) ?hd (xs:=([]:List Int)) (inner:=[]) (ok:=λ_=>True) (okp:=λ_=>True) ?hr ?hp (λ_ hk=>hk) trivial (Below.refl _ _) (Nat.le_refl _) (by simp) ?_;(case hd=>rfl);(case hg=>rfl);(case hr=>exact eO);(case hp=>exact (bG.none _ _));intro v493 w4 ho5 hb hg_ hnew_;clear hg_ hnew_;(first|rw[<- Ny492.out]at ho5|(simp only[Int.reduceToNat]at ho5;rw[<- Ny492.out]at ho5));have HO494:=aa (Kd.R_lower ho5 (ay af));replace HB:=aa (aj af hb);clear hb ho5))
 go_loopg [7,13] k (λkq v7 v13 w'=>∃ (x7_1:List Int) (x13_1:Int),v13=.int .i64 x13_1/\ae (jl.l0 kq a1 a2 x7_1 l0 (l0.length:Int) x13_1=some r)/\ae (kq<=k)/\ae (Kd.R (Kd.int .i64) 3 w' w.heap.size (λ_=>True) v7 x7_1)/\ae (Below w.heap.size w w'))
 case atStart=>exact ⟨(y492),(0),ag,H',⟨Nat.le_refl _⟩,⟨ai HO494.out⟩,⟨af⟩⟩
 case round =>
  clear H';obtain ⟨x7_1,x13_1,rfl,HA,HK1,HO_7,HB⟩:=hrel;cases gk with
  | zero=>exact ak HA.out
  | succ k1 =>
   have H:=HA.out;clear HA;simp only[jl.l0]at H;revert H;refine bi (λc6b0 H=>?_) λc6b0 H=>?_
   ·
    revert H;refine aX λc7b0 H=>?_;revert H;refine aX λc8b0 H=>?_;revert H;refine jb λc9 H=>?_;have c9b0:=beq_eq_false_iff_ne.mpr c9;have c9b1:=bne_iff_ne.mpr c9;revert H;refine bZ λc10 H=>?_;have LMc10:=aa c10;clear c10;obtain ⟨y496,hy496⟩:=bv ((x7_1++[Int.tmod (wrap64 ((Int.tmod (wrap64 ((rd l0 x13_1)+a2)) a1)+a1)) a1]):List Int);replace H:(jl.l0 k1 a1 a2 y496 l0 (l0.length:Int) (wrap64 (x13_1+1)))=some r:=bu hy496 H;have Ny496:=aa hy496;clear hy496;have H':=aa H;clear H;obtain ⟨ad495,rfl,hx495_0,p495,q495⟩:=bW HR0.out x13_1
    (try (replace hx495_0:=(HB.out.cell (World.block_lt_of_cell? w _ hx495_0)).trans hx495_0))
    go_wp2_with (first|((with_reducible refine dE (b:=.append) (xs:=#[.tmp 17,.tmp 27]) rfl ?_);at_builtin;refine eQ (w0:=w) (.tmp 17) (.tmp 27) u7 x7_1 (Int.tmod (wrap64 ((Int.tmod (wrap64 ((rd l0 x13_1)+a2)) a1)+a1)) a1) (λ_=>True) (λ_ _=>trivial) (ai HO_7.out) af (by exact bB LMc10.out) ?_;intro v497 w11 ho hb hg hat;rw[<- Ny496.out]at ho;replace HB:=aa (hb);have HO498:=aa (ho);clear ho hb hg hat));go_roundg k1
    case measure=>have:=HK1.out;omega
    case rel=>exact ⟨(y496),(wrap64 (x13_1+1)),ag,H',⟨bB HK1.out⟩,⟨ai HO498.out⟩,⟨af⟩⟩
   obtain rfl:=Option.some.inj H;go_wp2;go_ret;exact ⟨_,aU,ai HO_7.out,af⟩
def pF.f(k:Nat)(l0:List Int):Option (List Int × Int × Bool):=(nD.f l0).bind λt499=>(if t499=true then ((jM.f k l0).bind λt500=>((jl.f k l0 (wrap64 ((l0.length:Int)+1)) (wrap64 ((l0.length:Int) - t500))).bind λt501=>(some (t501,wrap64 ((l0.length:Int) - t500),true))))else (some (([]:List Int),0,false)))
theorem pF.calls(k:Nat)(A0:Option Addr)(c0:Nat)(l0:List Int)(r1:List Int)(r2:Int)(r3:Bool)(w:World)(hr0:Kd.C (Kd.int .i64) w A0 l0.length l0)(hc0:l0.length<=c0)(h:pF.f k l0=some (r1,r2,r3)) :
  Calls Tryz.prog 149 #[.slice A0 l0.length c0] w λe w'=>∃v0_:Value,e=.returned (.tuple #[v0_,.int .i64 r2,.bool r3])/\Kd.R (Kd.int .i64) 3 w' w.heap.size (λ_=>True) v0_ r1/\Below w.heap.size w w':=by
 have HR0:=aa hr0;have HC0:=aa hc0;clear hr0 hc0;have HB:=aa (Below.refl w.heap.size w);unfold pF.f at h;have H:=h;clear h;obtain ⟨t499,A2,H⟩:=aA H;revert H;refine bA (λc3 H=>?_) λc3 H=>?_
 ·
  subst c3;obtain ⟨t500,A4,H⟩:=aA H;obtain ⟨t501,A5,H⟩:=aA H;obtain ⟨rfl,rfl,rfl⟩:=eD H;go_enter Tryz.func149,Tryz.ntmps149;go_wp2_with (first|((with_reducible refine av 207 ?_);refine ax 7 Tryz.func207 #[.slice A0 l0.length c0] ?_;(with_reducible refine (nD.calls _ _ l0 true _ ?s1 ?s2 A2.out).mono ?_);(case s1=>exact dU HR0.out);(case s2=>exact HC0.out);rintro e w6 ⟨rfl,hb⟩;refine ⟨_,rfl,?_⟩;replace HB:=aa (aj af hb);clear hb)|((with_reducible refine av 208 ?_);refine ax 12 Tryz.func208 #[.slice A0 l0.length c0] ?_;(with_reducible refine (jM.calls k _ _ l0 t500 _ ?s1 ?s2 A4.out).mono ?_);(case s1=>exact bQ HR0.out);(case s2=>exact HC0.out);rintro e w7 ⟨rfl,hb⟩;refine ⟨_,rfl,?_⟩;replace HB:=aa (aj af hb);clear hb)|((with_reducible refine av 209 ?_);refine ax 19 Tryz.func209 #[.slice A0 l0.length c0,.int .i64 (wrap64 ((l0.length:Int)+1)),.int .i64 (wrap64 ((l0.length:Int) - t500))] ?_;(with_reducible refine (jl.calls k _ _ l0 (wrap64 ((l0.length:Int)+1)) (wrap64 ((l0.length:Int) - t500)) t501 _ ?s1 ?s2 A5.out).mono ?_);(case s1=>exact bQ HR0.out);(case s2=>exact HC0.out);rintro e w8 ⟨v502,rfl,ho0,hb⟩;refine ⟨_,rfl,?_⟩;have HO503:=aa (Kd.R_lower ho0 (ay af));replace HB:=aa (aj af hb);clear hb ho0));go_ret3;exact ⟨_,aU,ai HO503.out,af⟩
 subst c3;obtain ⟨rfl,rfl,rfl⟩:=eD H;go_enter Tryz.func149,Tryz.ntmps149;go_wp2_with (first|((with_reducible refine av 207 ?_);refine ax 7 Tryz.func207 #[.slice A0 l0.length c0] ?_;(with_reducible refine (nD.calls _ _ l0 false _ ?s1 ?s2 A2.out).mono ?_);(case s1=>exact dU HR0.out);(case s2=>exact HC0.out);rintro e w9 ⟨rfl,hb⟩;refine ⟨_,rfl,?_⟩;replace HB:=aa (aj af hb);clear hb));go_ret3;exact ⟨_,aU,d9,af⟩
def oM.f(k:Nat)(a0:Int):Option (Int × Bool):=(ji.f a0).bind λt504=>(if t504=true then ((jC.f k a0).bind λt505=>(some (t505,true)))else (some (0,false)))
theorem oM.calls(k:Nat)(a0:Int)(r1:Int)(r2:Bool)(w:World)(h:oM.f k a0=some (r1,r2)) :
  Calls Tryz.prog 151 #[.int .i64 a0] w λe w'=>e=.returned (.tuple #[.int .i64 r1,.bool r2])/\Below w.heap.size w w':=by
 have HB:=aa (Below.refl w.heap.size w);unfold oM.f at h;have H:=h;clear h;obtain ⟨t504,A2,H⟩:=aA H;revert H;refine bA (λc3 H=>?_) λc3 H=>?_
 ·
  subst c3;obtain ⟨t505,A4,H⟩:=aA H;obtain ⟨rfl,rfl⟩:=dB H;go_enter Tryz.func151,Tryz.ntmps151;go_wp2_with (first|((with_reducible refine av 100 ?_);refine ax 5 Tryz.func100 #[.int .i64 a0] ?_;(with_reducible refine (ji.calls a0 true _ A2.out).mono ?_);rintro e w' ⟨rfl,⟨nd,rfl⟩⟩;refine ⟨_,rfl,?_⟩)|((with_reducible refine av 102 ?_);refine ax 8 Tryz.func102 #[.int .i64 a0] ?_;(with_reducible refine (jC.calls k a0 t505 _ A4.out).mono ?_);rintro e w5 ⟨rfl,hb⟩;refine ⟨_,rfl,?_⟩;replace HB:=aa (aj af hb);clear hb));go_ret2;exact ⟨aU,af⟩
 subst c3;obtain ⟨rfl,rfl⟩:=dB H;go_enter Tryz.func151,Tryz.ntmps151;go_wp2_with (first|((with_reducible refine av 100 ?_);refine ax 5 Tryz.func100 #[.int .i64 a0] ?_;(with_reducible refine (ji.calls a0 false _ A2.out).mono ?_);rintro e w' ⟨rfl,⟨nd,rfl⟩⟩;refine ⟨_,rfl,?_⟩));go_ret2;exact ⟨aU,af⟩
def r9.f(a0:Int):Option (Bool):=(gB.f a0 1 5).bind λt506=>(some t506)
theorem r9.calls(a0:Int)(r:Bool)(w:World)(h:r9.f a0=some r) :
  Calls Tryz.prog 211 #[.int .i64 a0] w λe w'=>e=.returned (.bool r)/\bg w w':=by
 unfold r9.f at h;have H:=h;clear h;obtain ⟨t506,A2,H⟩:=aA H;obtain rfl:=Option.some.inj H;go_enter Tryz.func211,Tryz.ntmps211;go_wp2_with (first|((with_reducible refine av 101 ?_);refine ax 4 Tryz.func101 #[.int .i64 a0,.int .i64 1,.int .i64 5] ?_;(with_reducible refine (gB.calls a0 1 5 t506 _ A2.out).mono ?_);rintro e w' ⟨rfl,⟨nd,rfl⟩⟩;refine ⟨_,rfl,?_⟩));go_ret;exact ⟨ag,aZ⟩
def pV.f(a0:Int):Option (Bool):=(gB.f a0 0 8).bind λt507=>(some t507)
theorem pV.calls(a0:Int)(r:Bool)(w:World)(h:pV.f a0=some r) :
  Calls Tryz.prog 212 #[.int .i64 a0] w λe w'=>e=.returned (.bool r)/\bg w w':=by
 unfold pV.f at h;have H:=h;clear h;obtain ⟨t507,A2,H⟩:=aA H;obtain rfl:=Option.some.inj H;go_enter Tryz.func212,Tryz.ntmps212;go_wp2_with (first|((with_reducible refine av 101 ?_);refine ax 4 Tryz.func101 #[.int .i64 a0,.int .i64 0,.int .i64 8] ?_;(with_reducible refine (gB.calls a0 0 8 t507 _ A2.out).mono ?_);rintro e w' ⟨rfl,⟨nd,rfl⟩⟩;refine ⟨_,rfl,?_⟩));go_ret;exact ⟨ag,aZ⟩
def kX.f(l0_0:List Int):Option (List Int):=(iw.f l0_0).bind λt517=>(some t517)
theorem kX.calls(A0_0:Option Addr)(c0_0:Nat)(l0_0:List Int)(r:List Int)(w:World)(hr0_0:Kd.C (Kd.int .i64) w A0_0 l0_0.length l0_0)(hc0_0:l0_0.length<=c0_0)(h:kX.f l0_0=some r) :
  Calls Tryz.prog 54 #[.agg #[.slice A0_0 l0_0.length c0_0]] w λe w'=>∃v0_:Value,e=.returned (.agg #[v0_])/\Kd.R (Kd.int .i64) 3 w' w.heap.size (λ_=>True) v0_ r/\Below w.heap.size w w':=by
 have hu34:=Tryz.underlying34;have HR0_0:=aa hr0_0;have HC0_0:=aa hc0_0;clear hr0_0 hc0_0;have HB:=aa (Below.refl w.heap.size w);unfold kX.f at h;have H:=h;clear h;obtain ⟨t517,A2,H⟩:=aA H;obtain rfl:=Option.some.inj H;go_enter Tryz.func54,Tryz.ntmps54;go_wp2_with (first|((with_reducible refine dm 1 ?_);refine fJ #[.slice A0_0 l0_0.length c0_0] 34 ?_;intro gb515 hg w3 hbox hb;have BK515:=aa (hbox);have GW515:=aa ((by rw[hg];exact (ay af):w.heap.size<=gb515));have GE515:=aa ((by rw[hg];exact (ay af):w.heap.size<=gb515));replace HB:=aa (aj af hb);clear hb hbox hg)|((with_reducible refine dm 2 ?_);refine fJ #[.slice none 0 0] 34 ?_;intro gb516 hg w4 hbox hb;have BK516:=aa (hbox);have GW516:=aa ((by rw[hg];exact (ay (aY GE515.out)):w.heap.size<=gb516));have GE516:=aa ((by rw[hg];exact (ay (aY GE515.out)):w.heap.size<=gb516));have NB515_516:=aa ((by rw[hg];exact Nat.ne_of_lt (dC (g:=gb515) (o:=.cells #[.slice A0_0 l0_0.length c0_0] 34 (0,0)) (aJ BK515.out)):gb515≠gb516));have NB516_515:=aa ((by rw[hg];exact Nat.ne_of_gt (dC (g:=gb515) (o:=.cells #[.slice A0_0 l0_0.length c0_0] 34 (0,0)) (aJ BK515.out)):gb516≠gb515));replace BK515:=aa (aI (g:=gb515) (o:=.cells #[.slice A0_0 l0_0.length c0_0] 34 (0,0)) (aJ BK515.out) hb);replace HB:=aa (aj (aY GE515.out) hb);clear hb hbox hg;have hnb5:=NB515_516.out;have hnc5:=NB516_515.out;have hcz6_0:w4.cell? ⟨gb515,0,none⟩=some (.slice A0_0 l0_0.length c0_0):=(ah BK515.out 0).trans rfl;have hfz6_0:=au BK515.out 0)|((with_reducible refine av 53 ?_);refine ax 5 Tryz.func53 #[.slice A0_0 l0_0.length c0_0] ?_;(with_reducible refine (iw.calls _ _ l0_0 t517 _ ?s1 ?s2 A2.out).mono ?_);(case s1=>exact bQ HR0_0.out);(case s2=>exact HC0_0.out);rintro e w7 ⟨v518,rfl,ho0,hb⟩;refine ⟨_,rfl,?_⟩;have HO519:=aa (Kd.R_lower ho0 (ay (dM GE515.out GE516.out)));replace BK515:=aa (aI (g:=gb515) (o:=.cells #[.slice A0_0 l0_0.length c0_0] 34 (0,0)) (aJ BK515.out) hb);replace BK516:=aa (aI (g:=gb516) (o:=.cells #[.slice none 0 0] 34 (0,0)) (aJ BK516.out) hb);replace HB:=aa (aj (dM GE515.out GE516.out) hb);clear hb ho0;obtain ⟨Ao8,co8,eo8⟩:=Kd.R_slice HO519.out;subst eo8;have hcz9_0:w7.cell? ⟨gb516,0,none⟩=some (.slice none 0 0):=(ah BK516.out 0).trans rfl;have hfz9_0:=au BK516.out 0));refine bodyPost_ret (results_cell_row rfl _ _ gb516 34 #[.slice Ao8 t517.length co8] (0,0) _ rfl (lm BK516.out) Tryz.underlying34 rfl (by kernel_rfl)) rfl ?_;exact ⟨_,aU,by (with_reducible repeat (first|apply Kd.R_alloc|apply Kd.R_drewN|apply Kd.R_drew));exact Kd.R_mono (Kd.R_far (p:=⟨gb516,0,none⟩) (Kd.R_types HO519.out BK516.out (by decide)) (λ_ hk=>hk.2) (.slice Ao8 t517.length co8)) (λ_ hk=>trivial),dM GE515.out GE516.out⟩
def lh.f(a0:Int):Option (Bool):=(gB.f a0 0 999).bind λt520=>(some t520)
theorem lh.calls(a0:Int)(r:Bool)(w:World)(h:lh.f a0=some r) :
  Calls Tryz.prog 216 #[.int .i64 a0] w λe w'=>e=.returned (.bool r)/\bg w w':=by
 unfold lh.f at h;have H:=h;clear h;obtain ⟨t520,A2,H⟩:=aA H;obtain rfl:=Option.some.inj H;go_enter Tryz.func216,Tryz.ntmps216;go_wp2_with (first|((with_reducible refine av 101 ?_);refine ax 4 Tryz.func101 #[.int .i64 a0,.int .i64 0,.int .i64 999] ?_;(with_reducible refine (gB.calls a0 0 999 t520 _ A2.out).mono ?_);rintro e w' ⟨rfl,⟨nd,rfl⟩⟩;refine ⟨_,rfl,?_⟩));go_ret;exact ⟨ag,aZ⟩
def jr.l0:Nat->Int->Int->List Int->Option (Int × List Int)
 | 0,_,_,_=>none
 | k+1,x1,x5,x522000=>if 0<=x5 then (if x5<(x522000.length:Int)then (if (rd x522000 x5) >= 0 then (if (x522000.length:Int)=0 then (none)else (jr.l0 k x1 (Int.tmod (wrap64 (x5+1)) (x522000.length:Int)) x522000))else (some (x5,(x522000.set (x5:Int).toNat x1))))else (none))else (none)
def jr.f(k:Nat)(l0_0:List Int)(a1:Int):Option (Int × List Int):=if (l0_0.length:Int)=0 then (none)else (jr.l0 k a1 (Int.tmod a1 (l0_0.length:Int)) l0_0)
theorem jr.calls(k:Nat)(P0_0_:Nat->Prop)(u9000_:Value)(l0_0:List Int)(a1:Int)(r1:Int)(r2:List Int)(w0 w:World)(hB:Below w0.heap.size w0 w)(ho0_0:Kd.R (Kd.int .i64) 3 w w0.heap.size P0_0_ u9000_ l0_0)(h:jr.f k l0_0 a1=some (r1,r2)) :
  Calls Tryz.prog 218 #[.agg #[u9000_],.int .i64 a1] w λe w'=>e=.returned (.int .i64 r1)/\Kd.R (Kd.int .i64) 3 w' w0.heap.size (λk_=>(P0_0_ k_\/w.heap.size<=k_)) u9000_ r2/\Below w0.heap.size w0 w'/\Kept w w' (λk_=>P0_0_ k_):=by
 have hu34:=Tryz.underlying34;have HO0_0:=aa (show Kd.R (Kd.int .i64) 3 w w0.heap.size (λk_=>(P0_0_ k_\/w.heap.size<=k_)) u9000_ l0_0 from Kd.R_mono ho0_0 (λk_ hk=>(.inl hk)));have HK:=aa (Kept.refl w (λk_=>P0_0_ k_));have HW0:=aa hB.size;have HB:=aa hB;clear hB;unfold jr.f at h;have H:=h;clear h;revert H;refine jb λc3 H=>?_;have c3b0:=beq_eq_false_iff_ne.mpr c3;have c3b1:=bne_iff_ne.mpr c3;have c3b2:¬ (l0_0=[]):=λh_=>c3 (by rw[h_];rfl);have H':=aa H;clear H;obtain ⟨Ao4,co4,eo4⟩:=Kd.R_slice HO0_0.out;subst eo4;go_enter Tryz.func218,Tryz.ntmps218;go_wp2_with (first|((with_reducible refine dm 2 ?_);refine fJ #[.slice Ao4 l0_0.length co4] 34 ?_;intro gb521 hg w5 hbox hb;replace HO0_0:=aa (Kd.R_below (ai HO0_0.out) hb);have BK521:=aa (hbox);have GW521:=aa ((by rw[hg];exact (by first|exact HK.out.1|exact (show Kept w _ (λk_=>P0_0_ k_) from oq).1):w.heap.size<=gb521));replace HK:=aa (Kept.below (S:=(λk_=>P0_0_ k_)) oq hb);have GE521:=aa ((by rw[hg];exact (ay af):w0.heap.size<=gb521));replace HB:=aa (aj af hb);clear hb hbox hg;have hcz6_0:w5.cell? ⟨gb521,0,none⟩=some (.slice Ao4 l0_0.length co4):=(ah BK521.out 0).trans rfl;have hfz6_0:=au BK521.out 0))
 go_loopg [5] k (λkq v5 w'=>∃ (x5_1:Int),v5=.int .i64 x5_1/\ae (jr.l0 kq a1 x5_1 l0_0=some (r1,r2))/\ae (kq<=k)/\ae (Kd.R (Kd.int .i64) 3 w' w0.heap.size (λk_=>(P0_0_ k_\/w.heap.size<=k_)) (.slice Ao4 l0_0.length co4) l0_0)/\ae (w'.heap[gb521]?=some (.cells #[(.slice Ao4 l0_0.length co4)] 34 (0,0)))/\ae (Kept w w' (λk_=>P0_0_ k_))/\ae (Below w0.heap.size w0 w'))
 case atStart=>exact ⟨(Int.tmod a1 (l0_0.length:Int)),ag,H',⟨Nat.le_refl _⟩,⟨ai HO0_0.out⟩,⟨aJ BK521.out⟩,⟨sH GW521.out⟩,⟨aY GE521.out⟩⟩
 case round =>
  clear H';obtain ⟨x5_1,rfl,HA,HK1,HO_522000,BK521,HK,HB⟩:=hrel;cases gk with
  | zero=>exact ak HA.out
  | succ k1 =>
   have H:=HA.out;clear HA;simp only[jr.l0]at H;revert H;refine aX λc7b0 H=>?_;revert H;refine aX λc8b0 H=>?_;revert H;refine bi (λc9b0 H=>?_) λc9b0 H=>?_
   ·
    revert H;refine jb λc10 H=>?_;have c10b0:=beq_eq_false_iff_ne.mpr c10;have c10b1:=bne_iff_ne.mpr c10;have c10b2:¬ (l0_0=[]):=λh_=>c10 (by rw[h_];rfl);have H':=aa H;clear H;have hcz11_0:wr.cell? ⟨gb521,0,none⟩=some (.slice Ao4 l0_0.length co4):=(ah BK521.out 0).trans rfl;have hfz11_0:=au BK521.out 0;obtain ⟨ad522,rfl,hx522_0,p522,q522⟩:=bW (f_ HO_522000.out) x5_1;go_wp2;go_roundg k1
    case measure=>have:=HK1.out;omega
    case rel=>exact ⟨(Int.tmod (wrap64 (x5_1+1)) (l0_0.length:Int)),ag,H',⟨bB HK1.out⟩,⟨ai HO_522000.out⟩,⟨aJ BK521.out⟩,⟨sH GW521.out⟩,⟨aY GE521.out⟩⟩
   obtain ⟨y523,hy523⟩:=bv ((l0_0.set (x5_1:Int).toNat a1):List Int);replace H:(some (x5_1,y523))=some (r1,r2):=bu hy523 H;have Ny523:=aa hy523;clear hy523;obtain ⟨rfl,rfl⟩:=dB H;have hcz13_0:wr.cell? ⟨gb521,0,none⟩=some (.slice Ao4 l0_0.length co4):=(ah BK521.out 0).trans rfl;have hfz13_0:=au BK521.out 0;obtain ⟨ad522,rfl,hx522_0,p522,q522⟩:=bW (f_ HO_522000.out) x5_1;have p12:0<=(x5_1:Int):=of_decide_eq_true aD;have q12:(x5_1:Int)<((l0_0.length:Int):Int):=of_decide_eq_true aD;obtain ⟨go12,co12,eo12,gb12,gl12,cl12,HG12⟩:=Kd.R_form HO_522000.out (by omega)
   (first|cases eo12|(injection eo12 with ea_ en_ ec_;(first|subst ea_|(injection ea_ with ea_;subst ea_));subst ec_;clear en_))
   have GB12:=aa gb12;have GG12:=aa HG12;clear gb12 gl12 HG12;have HMgo12:=aa (show (P0_0_ go12\/w.heap.size<=go12) from (HO_522000.out.1 _ rfl))
   (first|simp only[add_plain]at hx522_0|skip)
   obtain ⟨hx12_0,hf12_0⟩:=Kd.R_celln 0 HO_522000.out (x5_1:Int) p12 q12;replace p12:=eq_true p12;replace q12:=eq_true q12;have HP14:=Kd.R_putg HO_522000.out (x5_1:Int) a1;go_wp2_with (first|((with_reducible refine jh (t:=3) (p:=27) rfl ?_);refine jF (t:=3) (p:=27) (v:=?vo_w15) (w1:=(wr.setCell ⟨go12,(x5_1:Int).toNat,none⟩ (.int .i64 a1))) ?hg ?ho ?hn ?hr ?_;(case ho=>rfl);(case hg=>rfl);(case hn=>rfl);(case hr=>exact eO);intro w15 hw;have hg:wr.grownBy w15 (some go12):=(by rw[hw];exact HP14.2);have hp_:Kd.R (Kd.int .i64) 3 w15 w0.heap.size (λk_=>(P0_0_ k_\/w.heap.size<=k_)) (.slice (some ⟨go12,0,none⟩) l0_0.length co4) y523:=(by rw[hw,Ny523.out];exact HP14.1);clear HP14;replace BK521:=aa (iM (g:=gb521) (o:=.cells #[.slice (some ⟨go12,0,none⟩) l0_0.length co4] 34 (0,0)) (aJ BK521.out) hg (Kd.R_ne HO_522000.out BK521.out (by decide)));replace HK:=aa (Kept.of_grown (S:=(λk_=>P0_0_ k_)) hg (sH GW521.out) (λk_ e_=>(HO_522000.out.1 k_ e_)));replace HO_522000:=aa (hp_);replace HB:=aa ((by rw[hw];exact bf (HB.out) GB12.out:Below w0.heap.size w0 w15));clear hg hw hp_));go_ret;exact ⟨aU,ai HO_522000.out,aY GE521.out,sH GW521.out⟩
end Go.Proofs.YtjdlhefjgceabaaGreatDoor.PAll

/- Cars, distances, cuts, joins, circles, counts of cars that look back, empty tables: what the program's and the reference's calls come to. Conditions: those that each theorem states. -/
import Derived.Test.YtjdlhefjgceabaaGreatDoorPl4
import Derived.Lib.AtoiTie
set_option linter.unusedVariables false
set_option linter.unusedSimpArgs false
namespace Go.Proofs.YtjdlhefjgceabaaGreatDoor.Plain
open Go.RowKit YtjdlhefjgceabaaGreatDoorW.PrintWords YtjdlhefjgceabaaGreatDoorW.PrintLast Hand PAll
def iP(l:List Int):Int:=if (l.length:Int)<1 then 1 else (l.length:Int)
theorem Dc{l:List Int}(h:parking l=true):mJ.f l (iP l)=some true:=by
 have h8:=parking_cars h
 have hp:1<=iP l/\iP l<=12:=by unfold iP;split <;> omega
 unfold mJ.f;rw[between_eq,decide_eq_true hp,Option.bind_some,if_pos rfl,if_pos (by omega),wrap64_in _ (by omega) (by omega)];have e:iE.f l 0 (iP l - 1)=some (l.all λx=>decide (0<=x/\x<=iP l - 1)):=rfl;have e2:(l.all λx=>decide (0<=x/\x<=iP l - 1))=true:=List.all_eq_true.2 λx hx=>decide_eq_true (by have:=parking_in h x hx;unfold iP;split <;> omega);rw[e,e2];rfl
theorem En{l:List Int}(h:parking l=true):sdrive (iP l) [] l=sdrive (l.length:Int) [] l:=by
 by_cases h0:l.length=0
 · rw[List.eq_nil_of_length_eq_zero h0];rfl
 ·
  have e:iP l=(l.length:Int):=by unfold iP;rw[if_neg (by omega)]
  rw[e]
theorem implCars_ev{l:List Int}(h:parking l=true):Ev (λk=>mW.f k l (iP l)) (sdrive (l.length:Int) [] l,true):=by
 have h8:=parking_cars h
 have hp:1<=iP l/\iP l<=12:=by unfold iP;split <;> omega
 have hd:=yg l (iP l) (by omega) (by omega) (by omega) (λx hx=>by have:=parking_in h x hx;omega);rw[En h,if_neg (qm h)]at hd;unfold mW.f;exact Ev.bindc (Dc h) (Ev.pos rfl (Ev.bind hd (Ev.now _)))
theorem specCars_ev{l:List Int}(h:parking l=true):Ev (λk=>dP.f k l (l.length:Int)) (sdrive (l.length:Int) [] l):=by
 have h8:=parking_cars h;exact wM l (l.length:Int) (by omega) (by omega) (by omega) (λx hx=>by have:=parking_in h x hx;omega)
theorem Dk(s l:List Int)(ok:Bool)(hl:s.length=l.length)(hs:l.length<=1000):∀ (d n:Nat),n+d=l.length ->
  Ev (λk=>gm.l0 k l (dst s l n++s.drop n) ok (s.length:Int) (n:Int)) (dst s l l.length,ok):=by
 intro d
 induction d with
 | zero =>
  intro n hn
  obtain rfl:n=l.length:=by omega
  refine Ev.step (f:=λ_=>some (dst s l l.length,ok)) (λk=>?_) (Ev.now _);rw[gm.l0,if_neg (by omega),List.drop_eq_nil_of_le (by omega),List.append_nil]
 | succ d ih =>
  intro n hn
  have h1:n<s.length:=by omega
  have e1:rd (dst s l n++s.drop n) (n:Int)=rd s (n:Int):=by
   rw[dn _ n (by simp[mV];omega),dn s n h1,List.getElem_append_right (by rw[mV];omega)];simp[mV]
  have e2:(dst s l n++s.drop n).set n (wrap64 (rd s (n:Int) - rd l (n:Int)))=dst s l (n+1)++s.drop (n+1):=by
   rw[List.set_append_right _ _ (by rw[mV];omega),mV,Nat.sub_self,List.drop_eq_getElem_cons h1,List.set_cons_zero,zh,List.append_assoc];rfl
  refine Ev.step (λk=>?_) (ih (n+1) (by omega));rw[gm.l0,if_pos (by omega),if_pos (by omega),if_pos (by simp[mV];omega),if_pos (by omega),Int.toNat_natCast,e1,e2,bX n (by omega)]
theorem implFar_ev{l:List Int}(h:parking l=true):Ev (λk=>gm.f k l (iP l)) (dists l,true):=by
 have h8:=parking_cars h;have hl:=Dk (sdrive (l.length:Int) [] l) l true (by rw[mG];simp) (by omega) l.length 0 (by omega);rw[List.drop_zero]at hl;unfold gm.f;exact Ev.bind (implCars_ev h) hl
theorem Ct(s l:List Int)(hl:s.length=l.length)(hs:l.length<=1000):∀ (d n:Nat),n+d=l.length ->
  Ev (λk=>jD.l0 k l (dst s l n) s (s.length:Int) (n:Int)) (dst s l l.length):=by
 intro d
 induction d with
 | zero =>
  intro n hn
  obtain rfl:n=l.length:=by omega
  refine Ev.step (f:=λ_=>some (dst s l l.length)) (λk=>?_) (Ev.now _);rw[jD.l0,if_neg (by omega)]
 | succ d ih =>
  intro n hn;refine Ev.step (λk=>?_) (ih (n+1) (by omega));rw[jD.l0,if_pos (by omega),if_pos (by omega),if_pos (by omega),if_pos (by omega),if_pos (by rw[mV];omega),bX n (by omega),zh]
theorem specFar_ev{l:List Int}(h:parking l=true):Ev (λk=>jD.f k l (l.length:Int)) (dists l):=by
 have h8:=parking_cars h;unfold jD.f;exact Ev.bind (specCars_ev h) (Ct (sdrive (l.length:Int) [] l) l (by rw[mG];simp) (by omega) l.length 0 (by omega))
theorem implCuts_ev{l:List Int}(h:parking l=true):Ev (λk=>o5.f k l) (cutsL l,true):=by
 have h8:=parking_cars h;have h2:=isParking_ev l;rw[h]at h2;unfold o5.f;exact Ev.bind h2 (Ev.pos rfl (Ev.bind (Ic l (by omega)) (Ev.now _)))
theorem wm(f:Nat->List Int->List Int->List Int->Int->Int->Option (List Int × Bool))(hf:∀k x0 x6 x27 x28 x29,f (k+1) x0 x6 x27 x28 x29=if x29<x28 then (if 0<=x29 then (if x29<(x27.length:Int)then (if x6.length<17592186044416 then f k x0 (x6++[wrap64 ((rd x27 x29)+(x0.length:Int))]) x27 x28 (wrap64 (x29+1))else none)else none)else none)else some (x6,true))
  (l m:List Int) (hl:l.length<=8) (hm:m.length<=8) (hx:∀x∈m,0<=x/\x<=1000):∀ (d n:Nat),n+d=m.length ->
  Ev (λk=>f k l (l++(m.take n).map λx=>x+(l.length:Int)) m (m.length:Int) (n:Int)) (l++m.map λx=>x+(l.length:Int),true):=by
 intro d
 induction d with
 | zero =>
  intro n hn;refine Ev.step (f:=λ_=>some (l++m.map λx=>x+(l.length:Int),true)) (λk=>?_) (Ev.now _);rw[hf,if_neg (by omega),List.take_of_length_le (by omega)]
 | succ d ih =>
  intro n hn
  have h1:n<m.length:=by omega
  have h2:=hx _ (List.getElem_mem h1);have h3:=ih (n+1) (by omega);rw[List.take_succ_eq_append_getElem h1,List.map_append,List.map_singleton,<- List.append_assoc]at h3;refine Ev.step (λk=>?_) h3;rw[hf,if_pos (by omega),if_pos (by omega),if_pos (by omega),if_pos (by simp;omega),dn m n h1,wrap64_in _ (by omega) (by omega),bX n (by omega)]
theorem implJoin_ev{l:List Int}(h:parking l=true)(m:List Int):Ev (λk=>gz.f k l m) (rowO (joinL l m)):=by
 have h8:=parking_cars h;have h2:=isParking_ev l;rw[h]at h2;unfold gz.f joinL rowO;refine Ev.bind h2 (Ev.pos rfl (Ev.bind (isParking_ev m) ?_))
 cases hm:parking m with
 | false =>
  rw[if_neg (λh=>by cases h.2.1)];refine Ev.neg (by decide) (Ev.step (f:=λ_=>some ([],false)) (λk=>?_) (Ev.now _));rw[gz.j0,if_pos rfl]
 | true =>
  have hm8:=parking_cars hm
  refine Ev.pos rfl ?_
  rw[wrap64_in _ (by omega) (by omega)]
  by_cases hc:l.length+m.length<=8
  ·
   rw[if_pos ⟨h,rfl,hc⟩,decide_eq_false (by omega)];have h3:=wm gz.l0 (λk _ _ _ _ _=>by rw[gz.l0]) l m h8 hm8 (λx hx=>by have:=parking_in hm x hx;omega) m.length 0 (by omega);rw[List.take_zero,List.map_nil,List.append_nil]at h3;refine Ev.step (λk=>?_) h3;rw[gz.j0,if_neg (by decide),sW l (by omega)];rfl
  ·
   rw[if_neg (λh=>hc h.2.2),decide_eq_true (by omega)];refine Ev.step (f:=λ_=>some ([],false)) (λk=>?_) (Ev.now _);rw[gz.j0,if_pos rfl]
theorem specJoin_ev{l:List Int}(h:parking l=true)(m:List Int):Ev (λk=>gp.f k l m) (rowO (joinL l m)):=by
 have h8:=parking_cars h;have h2:=paParking_ev l;rw[h]at h2;unfold gp.f joinL rowO;refine Ev.bind h2 (Ev.pos rfl (Ev.bind (paParking_ev m) ?_))
 cases hm:parking m with
 | false =>
  rw[if_neg (λh=>by cases h.2.1)];refine Ev.neg (by decide) (Ev.step (f:=λ_=>some ([],false)) (λk=>?_) (Ev.now _));rw[gp.j0,if_pos rfl]
 | true =>
  have hm8:=parking_cars hm
  refine Ev.pos rfl ?_
  rw[wrap64_in _ (by omega) (by omega)]
  by_cases hc:l.length+m.length<=8
  ·
   rw[if_pos ⟨h,rfl,hc⟩,decide_eq_false (by omega)];have h3:=wm gp.l0 (λk _ _ _ _ _=>by rw[gp.l0]) l m h8 hm8 (λx hx=>by have:=parking_in hm x hx;omega) m.length 0 (by omega);rw[List.take_zero,List.map_nil,List.append_nil]at h3;refine Ev.step (λk=>?_) h3;rw[gp.j0,if_neg (by decide),own_eq l (by omega)];rfl
  ·
   rw[if_neg (λh=>hc h.2.2),decide_eq_true (by omega)];refine Ev.step (f:=λ_=>some ([],false)) (λk=>?_) (Ev.now _);rw[gp.j0,if_pos rfl]
theorem BD(P:Nat)(hP2:1<=P)(hP:P<=1000)(out l:List Int)(i:Int)(R:List Int)(ho:out.length<=1000):∀ (d:Nat) (x:Int),0<=x/\x<(P:Int)->iG (P:Int) out d x ∉ out ->
  Ev (λk=>eF.l0 k (P:Int) (taken P (out++[iG (P:Int) out d x])) (out++[iG (P:Int) out d x]) l (l.length:Int) (wrap64 (i+1))) R ->
  Ev (λk=>eF.l1 k (P:Int) (taken P out) out x l (l.length:Int) i) R:=by
 intro d
 have last:∀x:Int,0<=x/\x<(P:Int)->x ∉ out->Ev (λk=>eF.l0 k (P:Int) (taken P (out++[x])) (out++[x]) l (l.length:Int) (wrap64 (i+1))) R->Ev (λk=>eF.l1 k (P:Int) (taken P out) out x l (l.length:Int) i) R:=by
  intro x hx hm h;rw[<- zN P out x hx.1 hx.2]at h;refine Ev.step (λk=>?_) h;rw[eF.l1,if_pos hx.1,if_pos (by rw[pY];exact hx.2),rZ P out x hx.1 hx.2,decide_eq_false hm,if_neg (by decide),if_pos (by omega)]
 induction d with
 | zero=>intro x hx hm h;exact last x hx hm h
 | succ d ih =>
  intro x hx hm h;rw[iG]at hm h
  by_cases hc:x∈out
  ·
   rw[if_pos hc]at hm h
   have h1:0<=Int.tmod (x+1) (P:Int)/\Int.tmod (x+1) (P:Int)<(P:Int):=by
    rw[Int.tmod_eq_emod_of_nonneg (by omega)];exact ⟨Int.emod_nonneg _ (by omega),Int.emod_lt_of_pos _ (by omega)⟩
   refine Ev.step (λk=>?_) (ih (Int.tmod (x+1) (P:Int)) h1 hm h);rw[eF.l1,if_pos hx.1,if_pos (by rw[pY];exact hx.2),rZ P out x hx.1 hx.2,decide_eq_true hc,if_pos rfl,if_neg (by omega),wrap64_in (x+1) (by omega) (by omega)]
  ·
   rw[if_neg hc]at hm h;exact last x hx hm h
theorem zg(P:Nat)(out:List Int)(h:out.length<P){x:Int}(hx:0<=x/\x<(P:Int)):iG (P:Int) out (P:Int).toNat x ∉ out:=by
 obtain ⟨f,hf0,hf1,hfo⟩:=uZ P out h
 have hro:0<=nC (P:Int) f x:=by rw[rE ⟨hf0,hf1⟩ hx];split <;> omega
 exact (JB ⟨hf0,hf1⟩ out hfo (P:Int).toNat x hx (by omega)).1
theorem Di(P:Nat)(hP:P<=1000)(l:List Int)(hl:∀x∈l,0<=x/\x<(P:Int))(hlen:l.length<P):∀ (d i:Nat) (out:List Int),i+d=l.length->out.length=i ->
  Ev (λk=>eF.l0 k (P:Int) (taken P out) out l (l.length:Int) (i:Int)) (iA (P:Int) out (l.drop i)):=by
 intro d
 induction d with
 | zero =>
  intro i out hi ho;rw[List.drop_eq_nil_of_le (by omega),iA];refine Ev.step (f:=λ_=>some out) (λk=>?_) (Ev.now _);rw[eF.l0,if_neg (by omega)]
 | succ d ih =>
  intro i out hi ho
  have hlt:i<l.length:=by omega
  have hx:=hl _ (List.getElem_mem hlt);have hn:=ih (i+1) (out++[iG (P:Int) out (P:Int).toNat l[i]]) (by omega) (by simp;omega);rw[List.drop_eq_getElem_cons hlt,iA];refine Ev.step (f:=?f1) (λk=>?h1) ?g1
  case h1=>rw[eF.l0,if_pos (by omega),if_pos (by omega),if_pos (by omega),dn l i hlt]
  refine BD P (by omega) hP out l (i:Int) _ (by omega) (P:Int).toNat l[i] hx (zg P out (by omega) hx) ?_
  rw[bX i (by omega)];exact hn
theorem DK(P:Nat)(hP2:1<=P)(hP:P<=1000)(out l:List Int)(i:Int)(R:List Int)(ho:out.length<=1000):∀ (d:Nat) (x:Int),0<=x/\x<(P:Int)->iG (P:Int) out d x ∉ out ->
  Ev (λk=>fF.l0 k (P:Int) (out++[iG (P:Int) out d x]) l (l.length:Int) (wrap64 (i+1))) R ->
  Ev (λk=>fF.l1 k (P:Int) out x l (l.length:Int) i) R:=by
 intro d
 have last:∀x:Int,x ∉ out->Ev (λk=>fF.l0 k (P:Int) (out++[x]) l (l.length:Int) (wrap64 (i+1))) R->Ev (λk=>fF.l1 k (P:Int) out x l (l.length:Int) i) R:=by
  intro x hm h;refine Ev.step (f:=?f9) (λk=>?h9) ?g9
  case h9=>rw[fF.l1]
  refine Ev.bind (nG out x (by omega)) ?_
  rw[decide_eq_false hm];exact Ev.neg (by decide) (Ev.pos (by omega) h)
 induction d with
 | zero=>intro x hx hm h;exact last x hm h
 | succ d ih =>
  intro x hx hm h;rw[iG]at hm h
  by_cases hc:x∈out
  ·
   rw[if_pos hc]at hm h
   have h1:0<=Int.tmod (x+1) (P:Int)/\Int.tmod (x+1) (P:Int)<(P:Int):=by
    rw[Int.tmod_eq_emod_of_nonneg (by omega)];exact ⟨Int.emod_nonneg _ (by omega),Int.emod_lt_of_pos _ (by omega)⟩
   refine Ev.step (f:=?f1) (λk=>?h1) ?g1
   case h1=>rw[fF.l1]
   refine Ev.bind (nG out x (by omega)) ?_
   rw[decide_eq_true hc,wrap64_in (x+1) (by omega) (by omega)];exact Ev.pos rfl (Ev.neg (by omega) (ih (Int.tmod (x+1) (P:Int)) h1 hm h))
  ·
   rw[if_neg hc]at hm h;exact last x hm h
theorem F_(P:Nat)(hP:P<=1000)(l:List Int)(hl:∀x∈l,0<=x/\x<(P:Int))(hlen:l.length<P):∀ (d i:Nat) (out:List Int),i+d=l.length->out.length=i ->
  Ev (λk=>fF.l0 k (P:Int) out l (l.length:Int) (i:Int)) (iA (P:Int) out (l.drop i)):=by
 intro d
 induction d with
 | zero =>
  intro i out hi ho;rw[List.drop_eq_nil_of_le (by omega),iA];refine Ev.step (f:=λ_=>some out) (λk=>?_) (Ev.now _);rw[fF.l0,if_neg (by omega)]
 | succ d ih =>
  intro i out hi ho
  have hlt:i<l.length:=by omega
  have hx:=hl _ (List.getElem_mem hlt);have hn:=ih (i+1) (out++[iG (P:Int) out (P:Int).toNat l[i]]) (by omega) (by simp;omega);rw[List.drop_eq_getElem_cons hlt,iA];refine Ev.step (f:=?f1) (λk=>?h1) ?g1
  case h1=>rw[fF.l0,if_pos (by omega),if_pos (by omega),if_pos (by omega),dn l i hlt]
  refine DK P (by omega) hP out l (i:Int) _ (by omega) (P:Int).toNat l[i] hx (zg P out (by omega) hx) ?_
  rw[bX i (by omega)];exact hn
theorem xE(f:Nat->List Int->Int->Option Int)(g:Nat->List Int->Int->Option Bool)(hf:∀k x3 x4,f (k+1) x3 x4=(g k x3 x4).bind λt=>if t=true then f k x3 (wrap64 (x4+1))else some x4)
  (out:List Int) (hg:∀x,Ev (λk=>g k out x) (decide (x∈out))):∀ (d i:Nat),i+d<=1000->(∃f:Int,(i:Int)<=f/\f<((i+d:Nat):Int)/\f ∉ out)->Ev (λk=>f k out (i:Int)) (lv out d i):=by
 intro d
 induction d with
 | zero=>rintro i hi ⟨f,h1,h2,_⟩;omega
 | succ d ih =>
  rintro i hi ⟨q,h1,h2,h3⟩;have hh:=hg (i:Int);rw[lv];refine Ev.step (f:=?f1) (λk=>?h1) ?g1
  case h1=>rw[hf,bX i (by omega)]
  by_cases hm:(i:Int)∈out
  ·
   rw[decide_eq_true hm]at hh;rw[if_pos hm];have hne:q≠(i:Int):=λe=>h3 (e▸hm);exact Ev.bind hh (Ev.pos rfl (ih (i+1) (by omega) ⟨q,by omega,by omega,h3⟩))
  ·
   rw[decide_eq_false hm]at hh;rw[if_neg hm];exact Ev.bind hh (Ev.neg (by decide) (Ev.now _))
theorem yc(l:List Int):∃f:Int,((0:Nat):Int)<=f/\f<((0+(l.length+1):Nat):Int)/\f ∉ iA ((l.length:Int)+1) [] l:=by
 obtain ⟨f,h1,h2,h3⟩:=uZ (l.length+1) (iA ((l.length:Int)+1) [] l) (by rw[rT];simp);exact ⟨f,by omega,by omega,h3⟩
theorem Bj{l:List Int}(h:circ l=true):Ev (λk=>jM.f k l) (kW l):=by
 obtain ⟨h8,hl⟩:=circ_in h;have h1:=Di (l.length+1) (by omega) l (λx hx=>by have:=hl x hx;omega) (by omega) l.length 0 [] (by omega) rfl
 have e:taken (l.length+1) []=List.replicate (l.length+1) false:=by
  refine List.ext_getElem (by simp[pY]) (λi h1 h2=>?_);simp[taken]
 have e3:((l.length+1:Nat):Int)=(l.length:Int)+1:=by omega
 rw[e,List.drop_zero,e3]at h1
 have hlen:(iA ((l.length:Int)+1) [] l).length<=1000:=by rw[rT];simp;omega
 unfold jM.f;rw[wrap64_in _ (by omega) (by omega)]
 refine Ev.bind (a:=iA ((l.length:Int)+1) [] l) ?_ (xE jM.l0 gP.f (λk _ _=>by rw[jM.l0]) _ (λx=>qW _ x (by omega)) (l.length+1) 0 (by omega) (yc l))
 unfold eF.f;refine Ev.pos (by omega) (Ev.pos (by omega) ?_);rw[show ((l.length:Int)+1).toNat=l.length+1 by omega];exact h1
theorem BM{l:List Int}(h:circ l=true):Ev (λk=>jL.f k l) (kW l):=by
 obtain ⟨h8,hl⟩:=circ_in h;have h1:=F_ (l.length+1) (by omega) l (λx hx=>by have:=hl x hx;omega) (by omega) l.length 0 [] (by omega) rfl
 have e3:((l.length+1:Nat):Int)=(l.length:Int)+1:=by omega
 rw[List.drop_zero,e3]at h1
 have hlen:(iA ((l.length:Int)+1) [] l).length<=1000:=by rw[rT];simp;omega
 unfold jL.f;rw[wrap64_in _ (by omega) (by omega)]
 refine Ev.bind (a:=iA ((l.length:Int)+1) [] l) ?_ (xE jL.l0 bD.f (λk _ _=>by rw[jL.l0]) _ (λx=>nG _ x (by omega)) (l.length+1) 0 (by omega) (yc l))
 unfold fF.f;exact h1
theorem yw(f:Nat->Int->Int->List Int->List Int->Int->Int->Option (List Int))(hf:∀k x1 x2 x7 x10 x11 x12,f (k+1) x1 x2 x7 x10 x11 x12=if x12<x11 then (if 0<=x12 then (if x12<(x10.length:Int)then (if x1=0 then none else (if x7.length<17592186044416 then f k x1 x2 (x7++[Int.tmod (wrap64 ((Int.tmod (wrap64 ((rd x10 x12)+x2)) x1)+x1)) x1]) x10 x11 (wrap64 (x12+1))else none))else none)else none)else some x7)
  (l:List Int) (a b:Int) (ha:0<a/\a<=13) (hb:0<=b/\b<a) (hl:∀x∈l,0<=x/\x<a) (hs:l.length<=1000):∀ (d n:Nat),n+d=l.length ->
  Ev (λk=>f k a b ((turned l a b).take n) l (l.length:Int) (n:Int)) (turned l a b):=by
 intro d
 induction d with
 | zero =>
  intro n hn;refine Ev.step (f:=λ_=>some (turned l a b)) (λk=>?_) (Ev.now _);rw[hf,if_neg (by omega),List.take_of_length_le (by rw[ou];omega)]
 | succ d ih =>
  intro n hn
  have h1:n<l.length:=by omega
  have hx:=hl _ (List.getElem_mem h1);have h3:=ih (n+1) (by omega)
  have e1:(turned l a b)[n]'(by rw[ou];exact h1)=Int.tmod (l[n]+b) a:=by simp[turned]
  rw[List.take_succ_eq_append_getElem (by rw[ou];exact h1),e1]at h3;have h4:=wZ hl hb _ (List.getElem_mem (show n<(turned l a b).length by rw[ou];exact h1));rw[e1]at h4;refine Ev.step (λk=>?_) h3
  have e2:Int.tmod (Int.tmod (l[n]+b) a+a) a=Int.tmod (l[n]+b) a:=by
   rw[Int.tmod_eq_emod_of_nonneg (show 0<=Int.tmod (l[n]+b) a+a by omega),Int.add_emod_right];exact Int.emod_eq_of_lt h4.1 h4.2
  rw[hf,if_pos (by omega),if_pos (by omega),if_pos (by omega),if_neg (by omega),if_pos (by simp[ou];omega),dn l n h1,wrap64_in (l[n]+b) (by omega) (by omega),wrap64_in _ (by omega) (by omega),e2,bX n (by omega)]
theorem Fw(l:List Int):nD.f l=some (circ l):=by
 unfold nD.f circ;rw[tZ]
 by_cases h:l.length<=8
 ·
  rw[decide_eq_true (show 0<=(l.length:Int)/\(l.length:Int)<=8 by omega),decide_eq_true h,Bool.true_and];rfl
 ·
  rw[decide_eq_false (show ¬ (0<=(l.length:Int)/\(l.length:Int)<=8) by omega),decide_eq_false h,Bool.false_and];rfl
theorem cnList_ev(l:List Int):Ev (λk=>jN.f k l) (circ l):=by
 unfold jN.f circ
 by_cases h:l.length<=8
 ·
  rw[decide_eq_true h,Bool.true_and];exact Ev.pos (by omega) (Ev.bind (uQ l 0 (l.length:Int) (by omega)) (Ev.now _))
 ·
  rw[decide_eq_false h,Bool.false_and];exact Ev.neg (by omega) (Ev.now _)
def clsR(l:List Int):List Int × Int × Bool:=((clsO l).getD [],if circ l=true then (l.length:Int) - kW l else 0,(clsO l).isSome)
theorem implCls_ev(l:List Int):Ev (λk=>pF.f k l) (clsR l):=by
 unfold pF.f clsR clsO
 refine Ev.bindc (Fw l) ?_
 by_cases h:circ l=true
 ·
  obtain ⟨h8,hl⟩:=circ_in h;have hf:=vI l;rw[if_pos h,if_pos h];refine Ev.pos h (Ev.bind (Bj h) ?_);rw[wrap64_in ((l.length:Int)+1) (by omega) (by omega),wrap64_in ((l.length:Int) - kW l) (by omega) (by omega)]
  refine Ev.bind (a:=pU l) ?_ (Ev.now _)
  have h1:=yw jl.l0 (λk _ _ _ _ _ _=>by rw[jl.l0]) l ((l.length:Int)+1) ((l.length:Int) - kW l) (by omega) (by omega) hl (by omega) l.length 0 (by omega);rw[List.take_zero]at h1;unfold jl.f;exact h1
 ·
  rw[if_neg h,if_neg h];exact Ev.neg h (Ev.now _)
theorem specCls_ev(l:List Int):Ev (λk=>oO.f k l) (clsR l):=by
 unfold oO.f clsR clsO
 refine Ev.bind (cnList_ev l) ?_
 by_cases h:circ l=true
 ·
  obtain ⟨h8,hl⟩:=circ_in h;have hf:=vI l;rw[if_pos h,if_pos h];refine Ev.pos h (Ev.bind (BM h) ?_);rw[wrap64_in ((l.length:Int)+1) (by omega) (by omega),wrap64_in ((l.length:Int) - kW l) (by omega) (by omega)]
  refine Ev.bind (a:=pU l) ?_ (Ev.now _)
  have h1:=yw jS.l0 (λk _ _ _ _ _ _=>by rw[jS.l0]) l ((l.length:Int)+1) ((l.length:Int) - kW l) (by omega) (by omega) hl (by omega) l.length 0 (by omega);rw[List.take_zero]at h1;unfold jS.f;exact h1
 ·
  rw[if_neg h,if_neg h];exact Ev.neg h (Ev.now _)
theorem Ay:∀n:Fin 9,dX.f 200 3 (n.1:Int)=some (rd backT (n.1:Int),true):=by decide +kernel
theorem specBack_ev(n:Int):Ev (λk=>dX.f k 3 n) (numO (backL n)):=by
 unfold backL
 by_cases h:0<=n/\n<=8
 ·
  have h1:=Ay ⟨n.toNat,by omega⟩;simp only[show ((n.toNat:Nat):Int)=n by omega]at h1;rw[if_pos h];exact Ev.of (k:=200) (λk=>dX.mono _ _ k) h1
 ·
  rw[if_neg h];unfold dX.f;refine Ev.bindc (l1In_eq 3 1 5) (Ev.pos (by decide) (Ev.bindc (a:=false) ?_ ?_))
  ·
   unfold oz.f;rw[l1In_eq,decide_eq_false h];rfl
  ·
   refine Ev.step (f:=λ_=>some (0,false)) (λk=>?_) (Ev.now _);rw[dX.j0,if_pos (by decide)]
theorem IJ:∀n:Fin 11,fK.f 40 ((n.1:Int)+2)=some (List.replicate (n.1+2) (-1)):=by decide +kernel
theorem specEmpty_ev(n:Int):Ev (λk=>pI.f k n) (rowO (emptyL n)):=by
 unfold pI.f kY.f emptyL rowO
 refine Ev.bindc (a:=decide (2<=n/\n<=12)) (by rw[l1In_eq];rfl) ?_
 by_cases h:2<=n/\n<=12
 ·
  rw[decide_eq_true h,if_pos h];have h1:=IJ ⟨n.toNat - 2,by omega⟩;simp only[show ((n.toNat - 2:Nat):Int)+2=n by omega,show n.toNat - 2+2=n.toNat by omega]at h1;exact Ev.pos rfl (Ev.bind (Ev.of (k:=40) (λk=>fK.mono _ k) h1) (Ev.now _))
 ·
  rw[decide_eq_false h,if_neg h];exact Ev.neg (by decide) (Ev.now _)
theorem xc{t:List Int}{n:Int}{i:Nat}(hi:i<t.length)(hx:t[i]=n)(hn:n ∉ t.take i):posL t n=i:=by
 have hm:n∈t:=hx▸List.getElem_mem hi;obtain ⟨h1,h2⟩:=posL_ok hm
 have h3:¬ i<posL t n:=by
  intro h;have:=List.not_of_lt_findIdx (p:=(· == n)) (xs:=t) (i:=i) h;simp[hx]at this
 have h4:¬ posL t n<i:=λh=>hn ((rD (by omega)).2 ⟨posL t n,h,h2⟩);omega
theorem Ht{t:List Int}(n:Int)(hs:t.length<=1000):∀ (d i:Nat),i+d=t.length->n ∉ t.take i ->
  Ev (λk=>iB.l0 k n t (t.length:Int) (i:Int)) (if n∈t then (posL t n:Int)else -1):=by
 intro d
 induction d with
 | zero =>
  intro i hi hn;rw[List.take_of_length_le (by omega)]at hn;rw[if_neg hn];refine Ev.step (f:=λ_=>some (-1)) (λk=>?_) (Ev.now _);rw[iB.l0,if_neg (by omega)]
 | succ d ih =>
  intro i hi hn
  have h1:i<t.length:=by omega
  by_cases hx:t[i]=n
  ·
   rw[if_pos (hx▸List.getElem_mem h1),xc h1 hx hn];refine Ev.step (f:=λ_=>some (i:Int)) (λk=>?_) (Ev.now _);rw[iB.l0,if_pos (by omega),if_pos (by omega),if_pos (by omega),dn t i h1,if_pos hx]
  ·
   refine Ev.step (λk=>?_) (ih (i+1) (by omega) (by
    rw[List.take_succ_eq_append_getElem h1,List.mem_append,List.mem_singleton]
    exact λh=>h.elim hn λe=>hx e.symm))
   rw[iB.l0,if_pos (by omega),if_pos (by omega),if_pos (by omega),dn t i h1,if_neg hx,bX i (by omega)]
theorem place_ev(t:List Int)(n:Int)(hs:t.length<=1000):Ev (λk=>iB.f k t n) (if n∈t then (posL t n:Int)else -1):=by
 unfold iB.f;exact Ht n hs t.length 0 (by omega) (by simp)
theorem Gq{t:List Int}(n:Int)(hs:t.length<=1000):∀ (d i:Nat),i+d=t.length->n ∉ t.take i ->
  Ev (λk=>fU.l0 k t n (t.length:Int) (i:Int)) (if n∈t then (posL t n:Int)else -1):=by
 intro d
 induction d with
 | zero =>
  intro i hi hn;rw[List.take_of_length_le (by omega)]at hn;rw[if_neg hn];refine Ev.step (f:=λ_=>some (-1)) (λk=>?_) (Ev.now _);rw[fU.l0,if_neg (by omega)]
 | succ d ih =>
  intro i hi hn
  have h1:i<t.length:=by omega
  by_cases hx:n=t[i]
  ·
   rw[if_pos (hx▸List.getElem_mem h1),xc h1 hx.symm hn];refine Ev.step (f:=λ_=>some (i:Int)) (λk=>?_) (Ev.now _);rw[fU.l0,if_pos (by omega),if_pos (by omega),if_pos (by omega),dn t i h1,if_pos hx]
  ·
   refine Ev.step (λk=>?_) (ih (i+1) (by omega) (by
    rw[List.take_succ_eq_append_getElem h1,List.mem_append,List.mem_singleton]
    exact λh=>h.elim hn hx))
   rw[fU.l0,if_pos (by omega),if_pos (by omega),if_pos (by omega),dn t i h1,if_neg hx,bX i (by omega)]
theorem FC(t:List Int)(n:Int)(hs:t.length<=1000):Ev (λk=>fU.f k t n) (if n∈t then (posL t n:Int)else -1):=by
 unfold fU.f;exact Gq n hs t.length 0 (by omega) (by simp)
theorem zy{t:List Int}(hT:Tb t){i:Nat}(hi:i<t.length){n:Int}(hn:0<=n):jB.f n (i:Int) (t.length:Int)=some (cost t.length i n.toNat:Int):=by
 have h2:=hT.fit.two;have h12:=hT.fit.len;obtain ⟨K,rfl⟩:=Int.eq_ofNat_of_zero_le hn;unfold jB.f;rw[if_neg (by omega),Int.toNat_natCast,cost_eq (by omega) h12 hi]
theorem implCost_eq{t:List Int}(hT:Tb t){i:Nat}(hi:i<t.length)(hn:rd t (i:Int)≠-1):jO.f t (i:Int)=some (cost t.length i (rd t (i:Int)).toNat:Int):=by
 have h2:=hT.fit.two;have h12:=hT.fit.len;have hin:=hT.fit.inn i hi;obtain ⟨K,hK⟩:=Int.eq_ofNat_of_zero_le (show 0<=rd t (i:Int) by omega);unfold jO.f;rw[if_pos (by omega),if_pos (by omega),if_neg (by omega),hK,Int.toNat_natCast,cost_eq (by omega) h12 hi]
def findO(o:Option (Int × Int)):Int × Int × Bool:=((o.getD (0,0)).1,(o.getD (0,0)).2,o.isSome)
theorem implFind_ev{t:List Int}(ht:table t=true)(n:Int):Ev (λk=>iW.f k t n) (findO (findL t n)):=by
 have hT:=(table_iff t).1 ht;have h12:=hT.fit.len;have h2:=isTable_ev t (by omega);rw[ht]at h2
 have bad:∀k,iW.j0 (k+1) n true t=some (0,0,false):=λk=>by rw[iW.j0,if_pos rfl]
 unfold iW.f findL;refine Ev.bind h2 (Ev.pos rfl (Ev.bindc (a:=decide (0<=n/\n<=999)) (by unfold lh.f;rw[between_eq];rfl) ?_))
 by_cases hk:0<=n/\n<=999
 ·
  rw[decide_eq_true hk];refine Ev.pos rfl (Ev.bind (qW t n (by omega)) ?_)
  by_cases hm:n∈t
  ·
   rw[if_pos ⟨hk,hm⟩,decide_eq_true hm];obtain ⟨h3,h4⟩:=posL_ok hm;have h5:=FC t n (by omega);rw[if_pos hm]at h5;have h6:=implCost_eq hT h3 (by rw[h4];omega);rw[h4]at h6;refine Ev.step (f:=?f1) (λk=>?h1) ?g1
   case h1=>rw[iW.j0,if_neg (by decide)]
   exact Ev.bind h5 (Ev.bindc h6 (Ev.now _))
  ·
   rw[if_neg (λh=>hm h.2),decide_eq_false hm];exact Ev.step (f:=λ_=>some (0,0,false)) (λk=>bad k) (Ev.now _)
 ·
  rw[decide_eq_false hk,if_neg (λh=>hk h.1)];exact Ev.neg (by decide) (Ev.step (f:=λ_=>some (0,0,false)) (λk=>bad k) (Ev.now _))
theorem specFind_ev{t:List Int}(ht:table t=true)(n:Int):Ev (λk=>jw.f k t n) (findO (findL t n)):=by
 have hT:=(table_iff t).1 ht;have h12:=hT.fit.len;have h2:=prGood_ev t (by omega);rw[ht]at h2
 have bad:∀k,jw.j0 (k+1) n true t=some (0,0,false):=λk=>by rw[jw.j0,if_pos rfl]
 unfold jw.f findL;refine Ev.bind h2 (Ev.pos rfl (Ev.bindc (a:=decide (0<=n/\n<=999)) (by unfold kr.f;rw[l1In_eq];rfl) ?_))
 by_cases hk:0<=n/\n<=999
 ·
  rw[decide_eq_true hk];have h5:=place_ev t n (by omega);refine Ev.pos rfl (Ev.bind h5 ?_)
  by_cases hm:n∈t
  ·
   rw[if_pos hm,if_pos ⟨hk,hm⟩,decide_eq_false (by omega)];rw[if_pos hm]at h5;obtain ⟨h3,h4⟩:=posL_ok hm;refine Ev.step (f:=?f1) (λk=>?h1) ?g1
   case h1=>rw[jw.j0,if_neg (by decide)]
   exact Ev.bind h5 (Ev.bindc (zy hT h3 hk.1) (Ev.now _))
  ·
   rw[if_neg hm,if_neg (λh=>hm h.2),decide_eq_true (by decide)];exact Ev.step (f:=λ_=>some (0,0,false)) (λk=>bad k) (Ev.now _)
 ·
  rw[decide_eq_false hk,if_neg (λh=>hk h.1)];exact Ev.neg (by decide) (Ev.step (f:=λ_=>some (0,0,false)) (λk=>bad k) (Ev.now _))
theorem next_cell{N K c:Nat}(h2:2<=N)(h12:N<=12):Int.tmod (wrap64 ((((K+c) % N:Nat):Int)+1)) (N:Int)=(((K+(c+1)) % N:Nat):Int):=by
 have hlt:(K+c) % N<N:=Nat.mod_lt _ (by omega);rw[wrap64_in _ (by omega) (by omega),show (((K+c) % N:Nat):Int)+1=(((K+c) % N+1:Nat):Int) by omega,tmod_nat,mod_add,Nat.add_assoc]
theorem IM{t:List Int}(hT:Tb t)(K:Nat):∀ (d c:Nat),c+d=t.length->(∃e,c<=e/\e<t.length/\rd t (((K+e) % t.length:Nat):Int)=-1) ->
  Ev (λk=>jr.l0 k (K:Int) (((K+c) % t.length:Nat):Int) t) ((((K+je t K d c) % t.length:Nat):Int),t.set ((K+je t K d c) % t.length) (K:Int)):=by
 have h2:=hT.fit.two;have h12:=hT.fit.len;intro d
 induction d with
 | zero=>rintro c hc ⟨e,h1,h3,_⟩;omega
 | succ d ih =>
  rintro c hc ⟨e,h1,h3,h4⟩;have hlt:(K+c) % t.length<t.length:=Nat.mod_lt _ (by omega);have hin:=hT.fit.inn _ hlt;rw[je]
  by_cases hx:rd t (((K+c) % t.length:Nat):Int)=-1
  ·
   rw[if_pos hx];refine Ev.step (f:=λ_=>some _) (λk=>?_) (Ev.now _);rw[jr.l0,if_pos (by omega),if_pos (by omega),if_neg (by omega),Int.toNat_natCast]
  ·
   rw[if_neg hx];have hne:e≠c:=λh=>hx (h▸h4);refine Ev.step (λk=>?_) (ih (c+1) (by omega) ⟨e,by omega,h3,h4⟩);rw[jr.l0,if_pos (by omega),if_pos (by omega),if_pos (by omega),if_neg (by omega),next_cell h2 h12]
theorem wO{t:List Int}(hT:Tb t)(K:Nat):∃e,0<=e/\e<t.length/\rd t (((K+e) % t.length:Nat):Int)=-1:=by
 obtain ⟨e,he,hee⟩:=hT.free;obtain ⟨q,hq,hqe⟩:=qH K he;exact ⟨q,by omega,hq,by rw[hqe];exact hee⟩
theorem JK{t:List Int}(hT:Tb t){n:Int}(hn:0<=n):Ev (λk=>jr.f k t n) ((gV t n.toNat:Int),t.set (gV t n.toNat) n):=by
 have h2:=hT.fit.two;obtain ⟨K,rfl⟩:=Int.eq_ofNat_of_zero_le hn;have h:=IM hT K t.length 0 (by omega) (wO hT K);unfold jr.f gV;rw[Int.toNat_natCast,tmod_nat];exact Ev.neg (by omega) h
theorem Du{t:List Int}(hT:Tb t)(K:Nat):∀ (d c:Nat),c+d=t.length->(∃e,c<=e/\e<t.length/\rd t (((K+e) % t.length:Nat):Int)=-1) ->
  Ev (λk=>iZ.l0 k t (K:Int) (((K+c) % t.length:Nat):Int)) ((((K+je t K d c) % t.length:Nat):Int),t.set ((K+je t K d c) % t.length) (K:Int)):=by
 have h2:=hT.fit.two;have h12:=hT.fit.len;intro d
 induction d with
 | zero=>rintro c hc ⟨e,h1,h3,_⟩;omega
 | succ d ih =>
  rintro c hc ⟨e,h1,h3,h4⟩;have hlt:(K+c) % t.length<t.length:=Nat.mod_lt _ (by omega);rw[je]
  by_cases hx:rd t (((K+c) % t.length:Nat):Int)=-1
  ·
   rw[if_pos hx];refine Ev.step (f:=λ_=>some _) (λk=>?_) (Ev.now _);rw[iZ.l0,if_pos (by omega),if_pos (by omega),if_pos hx,Int.toNat_natCast]
  ·
   rw[if_neg hx];have hne:e≠c:=λh=>hx (h▸h4);refine Ev.step (λk=>?_) (ih (c+1) (by omega) ⟨e,by omega,h3,h4⟩);rw[iZ.l0,if_pos (by omega),if_pos (by omega),if_neg hx,if_neg (by omega),next_cell h2 h12]
theorem EG{t:List Int}(hT:Tb t){n:Int}(hn:0<=n):Ev (λk=>iZ.f k t n) ((gV t n.toNat:Int),t.set (gV t n.toNat) n):=by
 have h2:=hT.fit.two;obtain ⟨K,rfl⟩:=Int.eq_ofNat_of_zero_le hn;have h:=Du hT K t.length 0 (by omega) (wO hT K);unfold iZ.f gV;rw[Int.toNat_natCast,tmod_nat];exact Ev.neg (by omega) h
theorem BN{t:List Int}(hT:Tb t):∀ (d i:Nat) (m:Int),i+d=t.length->m=cnt (λx=>decide (0<=x)) (t.take i) ->
  Ev (λk=>iR.l0 k m t (t.length:Int) (i:Int)) (kC t):=by
 have h12:=hT.fit.len;intro d
 induction d with
 | zero =>
  intro i m hi hm;rw[List.take_of_length_le (by omega)]at hm;refine Ev.step (f:=λ_=>some m) (λk=>?_) (Ev.const (by rw[hm];rfl));rw[iR.l0,if_neg (by omega)]
 | succ d ih =>
  intro i m hi hm
  have h1:i<t.length:=by omega
  have hin:=hT.fit.inn i h1;have h3:=lY (λx=>decide (0<=x)) (t.take i);have h4:=nM (λx=>decide (0<=x)) (t.take i);rw[List.length_take]at h4
  have hc:cnt (λx=>decide (0<=x)) (t.take (i+1))=m+(if decide (0<=rd t (i:Int))=true then 1 else 0):=by
   rw[List.take_succ_eq_append_getElem h1,xR,<- hm,dn t i h1]
  by_cases hx:rd t (i:Int)=-1
  ·
   rw[if_neg (by rw[decide_eq_false (by omega)];decide),Int.add_zero]at hc;refine Ev.step (λk=>?_) (ih (i+1) m (by omega) hc.symm);rw[iR.l0,if_pos (by omega),if_pos (by omega),if_pos (by omega),if_pos hx,bX i (by omega)]
  ·
   rw[if_pos (decide_eq_true (by omega))]at hc;refine Ev.step (λk=>?_) (ih (i+1) (m+1) (by omega) hc.symm);rw[iR.l0,if_pos (by omega),if_pos (by omega),if_pos (by omega),if_neg hx,wrap64_in (m+1) (by omega) (by omega),bX i (by omega)]
theorem Dh{t:List Int}(hT:Tb t):Ev (λk=>iR.f k t) (kC t):=by
 unfold iR.f;exact BN hT t.length 0 0 (by omega) (by simp[cnt])
def costsR(t:List Int):Nat->Nat->List Int
 | 0,_=>[]
 | d+1,i=>(if rd t (i:Int)=-1 then [] else [(cost t.length i (rd t (i:Int)).toNat:Int)])++costsR t d (i+1)
theorem yR(t:List Int):∀d i,(costsR t d i).length<=d:=by
 intro d
 induction d with
 | zero=>intro i;simp[costsR]
 | succ d ih =>
  intro i;have:=ih (i+1);rw[costsR,List.length_append]
  split <;> simp <;> omega
theorem Eu{t:List Int}(hT:Tb t):∀ (d i:Nat) (a:List Int),i+d=t.length->a.length<=i ->
  Ev (λk=>iV.l0 k a t (t.length:Int) (i:Int) t) (a++costsR t d i):=by
 have h12:=hT.fit.len;intro d
 induction d with
 | zero =>
  intro i a hi ha;rw[costsR,List.append_nil];refine Ev.step (f:=λ_=>some a) (λk=>?_) (Ev.now _);rw[iV.l0,if_neg (by omega)]
 | succ d ih =>
  intro i a hi ha
  have h1:i<t.length:=by omega
  have hin:=hT.fit.inn i h1;rw[costsR]
  by_cases hx:rd t (i:Int)=-1
  ·
   rw[if_pos hx,List.nil_append];refine Ev.step (λk=>?_) (ih (i+1) a (by omega) (by omega));rw[iV.l0,if_pos (by omega),if_pos (by omega),if_pos (by omega),if_pos hx,bX i (by omega)]
  ·
   rw[if_neg hx,<- List.append_assoc];refine Ev.step (λk=>?_) (ih (i+1) _ (by omega) (by simp;omega));rw[iV.l0,if_pos (by omega),if_pos (by omega),if_pos (by omega),if_neg hx,zy hT h1 (by omega),Option.bind_some,if_pos (by omega),bX i (by omega)]
def jZ:List Int->Int
 | []=>0
 | x :: xs=>x+jZ xs
theorem zX(f:Nat->Int->List Int->Int->Int->Option Int)(hf:∀k x3 x6 x7 x8,f (k+1) x3 x6 x7 x8=if x8<x7 then (if 0<=x8 then (if x8<(x6.length:Int)then f k (wrap64 (x3+(rd x6 x8))) x6 x7 (wrap64 (x8+1))else none)else none)else some x3)
  (l:List Int) (hs:l.length<=1000) (hx:∀x∈l,0<=x/\x<=1000):∀ (d i:Nat) (a:Int),i+d=l.length->0<=a/\a<=1000 * (i:Int) ->
  Ev (λk=>f k a l (l.length:Int) (i:Int)) (a+jZ (l.drop i)):=by
 intro d
 induction d with
 | zero =>
  intro i a hi ha;rw[List.drop_eq_nil_of_le (by omega),jZ,Int.add_zero];refine Ev.step (f:=λ_=>some a) (λk=>?_) (Ev.now _);rw[hf,if_neg (by omega)]
 | succ d ih =>
  intro i a hi ha
  have h1:i<l.length:=by omega
  have h2:=hx _ (List.getElem_mem h1);rw[List.drop_eq_getElem_cons h1,jZ,<- Int.add_assoc];refine Ev.step (λk=>?_) (ih (i+1) (a+l[i]) (by omega) (by omega));rw[hf,if_pos (by omega),if_pos (by omega),if_pos (by omega),dn l i h1,wrap64_in _ (by omega) (by omega),bX i (by omega)]
theorem zA:∀a b:List Int,jZ (a++b)=jZ a+jZ b
 | [],b=>by rw[List.nil_append,jZ,Int.zero_add]
 | x :: xs,b=>by rw[List.cons_append,jZ,jZ,zA xs b,Int.add_assoc]
theorem z_(t:List Int):∀d i,jZ (costsR t d i)=mX t d i:=by
 intro d
 induction d with
 | zero=>intro i;rfl
 | succ d ih =>
  intro i;rw[costsR,mX,zA,ih]
  split
  · rfl
  · rw[jZ,jZ,Int.add_zero]
theorem wz{t:List Int}(hT:Tb t):∀d i,∀x∈costsR t d i,0<=x/\x<=1000:=by
 have h2:=hT.fit.two;have h12:=hT.fit.len;intro d
 induction d with
 | zero=>intro i x hx;cases hx
 | succ d ih =>
  intro i x hx;rw[costsR,List.mem_append]at hx
  rcases hx with hx|hx
  ·
   have h3:=om (i:=i) (K:=(rd t (i:Int)).toNat) (show 0<t.length by omega)
   split at hx
   · cases hx
   ·
    rw[List.mem_singleton]at hx;omega
  · exact ih _ x hx
theorem specCostOf_ev{t:List Int}(ht:table t=true):Ev (λk=>pu.f k t) (costL t,true):=by
 have hT:=(table_iff t).1 ht;have h12:=hT.fit.len;have h2:=prGood_ev t (by omega);rw[ht]at h2;have h3:=Eu hT t.length 0 [] (by omega) (by simp);have hl:=yR t t.length 0;have h4:=zX kR.l0 (λk _ _ _ _=>by rw[kR.l0]) (costsR t t.length 0) (by omega) (wz hT _ _) (costsR t t.length 0).length 0 0 (by omega) (by omega);rw[List.drop_zero,z_,Int.zero_add]at h4;unfold pu.f;exact Ev.bind h2 (Ev.pos rfl (Ev.bind h3 (Ev.bind h4 (Ev.now _))))
theorem implTotal_ev{t:List Int}(hT:Tb t):Ev (λk=>kE.f k (costsR t t.length 0)) (costL t):=by
 have h12:=hT.fit.len;have hl:=yR t t.length 0;have h4:=zX kE.l0 (λk _ _ _ _=>by rw[kE.l0]) (costsR t t.length 0) (by omega) (wz hT _ _) (costsR t t.length 0).length 0 0 (by omega) (by omega);rw[List.drop_zero,z_,Int.zero_add]at h4;exact h4
def gQ(l:List UInt8):ByteArray:=⟨l.toArray⟩
def cutL(c:UInt8):List UInt8->List (List UInt8)
 | []=>[[]]
 | b :: r=>if b=c then [] :: cutL c r else match cutL c r with
  | []=>[[b]]
  | p :: ps=>(b :: p) :: ps
theorem l5(c:UInt8):∀l,cutL c l≠[]
 | []=>by simp[cutL]
 | b :: r=>by
  rw[cutL]
  split
  · simp
  · split <;> simp
def preL(x:List UInt8):List (List UInt8)->List (List UInt8)
 | []=>[x]
 | p :: ps=>(x++p) :: ps
theorem yI(c:UInt8):∀l:List UInt8,Lib.splitK [c] 0 (Lib.count l [c]) l=cutL c l
 | []=>by
  have:Lib.count [] [c]=0:=Lib.count_miss (by simp[Lib.index]);rw[this];rfl
 | b :: r=>by
  have ih:=yI c r
  by_cases h:b=c
  ·
   subst h;rw[Lib.count_cons_eq,Nat.add_comm,Lib.splitK,cutL,if_pos rfl]
   have hix:Lib.index (b :: r) [b]=0:=by rw[Lib.index];simp[List.isPrefixOf]
   rw[hix,if_neg (by decide)];show List.take 0 _ :: Lib.splitK [b] 0 (Lib.count r [b]) (List.drop 1 (b :: r))=_;rw[List.take_zero,List.drop_succ_cons,List.drop_zero,ih]
  ·
   rw[Lib.count_cons_ne b c r h,cutL,if_neg h,<- ih]
   have hp:([c]:List UInt8).isPrefixOf (b :: r)=false:=by simp[List.isPrefixOf,Ne.symm h]
   have hix:Lib.index (b :: r) [c]=if Lib.index r [c] == -1 then -1 else Lib.index r [c]+1:=by rw[Lib.index,hp];simp
   cases hk:Lib.count r [c] with
   | zero=>rfl
   | succ k =>
    have hm:¬ Lib.index r [c]=-1:=λe=>by rw[Lib.count_miss e]at hk;omega
    have hge:=Lib.index_ge r [c]
    obtain ⟨j,hj⟩:∃j:Nat,Lib.index r [c]=j:=⟨(Lib.index r [c]).toNat,by omega⟩
    have h1:Lib.index (b :: r) [c]=((j+1:Nat):Int):=by rw[hix,if_neg (λe=>hm (beq_iff_eq.1 e)),hj];omega
    rw[Lib.splitK,Lib.splitK,h1,hj,if_neg (λe=>by have:=beq_iff_eq.1 e;omega),if_neg (λe=>by have:=beq_iff_eq.1 e;omega)];simp only[Int.toNat_natCast,Nat.add_zero,List.take_succ_cons,List.length_singleton,List.drop_succ_cons]
theorem pieces_eq(s:ByteArray)(c:UInt8):pieces s c=(cutL c s.data.toList).map gQ:=by
 have h:=Lib.splitB_data ⟨#[c]⟩ 0 (Lib.countB s ⟨#[c]⟩) s;have e:Lib.countB s ⟨#[c]⟩=Lib.count s.data.toList [c]:=rfl;rw[e,show (⟨#[c]⟩:ByteArray).data.toList=[c] from rfl,yI]at h;rw[<- h,List.map_map];unfold pieces;rw[e]
 conv=>lhs;rw[<- List.map_id (Lib.splitB _ _ _ _)]
 refine List.map_congr_left λx _=>?_
 show x=gQ x.data.toList;unfold gQ;rw[Array.toArray_toList]
theorem bt_get(s:ByteArray)(i:Nat)(h:i<s.size):bt s (i:Int)=((s.data.toList[i]'(by simpa using h)).toNat:Int):=by
 unfold bt;rw[Int.toNat_natCast,dif_pos h];rfl
theorem size_list(s:ByteArray):s.data.toList.length=s.size:=Array.length_toList
theorem ext_list(s:ByteArray)(a b:Nat):s.extract a b=gQ ((s.data.toList.take b).drop a):=by
 have h:=Lib.extract_data s a b;rw[<- List.drop_take]at h;rw[<- h];unfold gQ;rw[Array.toArray_toList]
theorem D5(s:ByteArray)(c:UInt8)(hs:s.size<=8000000):∀ (d i a:Nat) (out:List ByteArray),i+d=s.size->a<=i->out.length<=i ->
  Ev (λk=>ib.l0 k s (c.toNat:Int) out (a:Int) (i:Int)) (out++(preL ((s.data.toList.take i).drop a) (cutL c (s.data.toList.drop i))).map gQ):=by
 intro d
 induction d with
 | zero =>
  intro i a out hi ha ho;have hl:=size_list s;rw[show s.data.toList.drop i=[] from List.drop_eq_nil_of_le (by omega),cutL,preL,List.append_nil,List.map_singleton,<- ext_list];refine Ev.step (f:=λ_=>some (out++[s.extract a i])) (λk=>?_) (Ev.now _);rw[ib.l0,if_neg (by omega),if_pos (by omega),if_pos (by omega),if_pos (by omega),Int.toNat_natCast,show s.size=i by omega]
 | succ d ih =>
  intro i a out hi ha ho;have hl:=size_list s
  have h1:i<s.size:=by omega
  have h2:i<s.data.toList.length:=by omega
  rw[List.drop_eq_getElem_cons h2,cutL]
  by_cases hc:s.data.toList[i]=c
  ·
   rw[if_pos hc,preL,List.append_nil,List.map_cons,<- ext_list];have h3:=ih (i+1) (i+1) (out++[s.extract a i]) (by omega) (Nat.le_refl _) (by simp;omega);rw[List.drop_eq_nil_of_le (by rw[List.length_take];omega),List.append_assoc,List.singleton_append]at h3
   have e4:preL [] (cutL c (s.data.toList.drop (i+1)))=cutL c (s.data.toList.drop (i+1)):=by
    have:=l5 c (s.data.toList.drop (i+1))
    cases hq:cutL c (s.data.toList.drop (i+1)) with
    | nil=>exact absurd hq this
    | cons p ps=>rfl
   rw[e4]at h3;refine Ev.step (λk=>?_) h3;rw[ib.l0,if_pos (by omega),if_pos (by omega),bt_get s i h1,hc,if_pos rfl,if_pos (by omega),if_pos (by omega),if_pos (by omega),if_pos (by omega),Int.toNat_natCast,Int.toNat_natCast,wrap64_in _ (by omega) (by omega)];rfl
  ·
   rw[if_neg hc];have h3:=ih (i+1) a out (by omega) (by omega) (by omega)
   have e4:preL ((s.data.toList.take i).drop a) (match cutL c (s.data.toList.drop (i+1)) with|[]=>[[s.data.toList[i]]]|p :: ps=>(s.data.toList[i] :: p) :: ps)=preL ((s.data.toList.take (i+1)).drop a) (cutL c (s.data.toList.drop (i+1))):=by
    rw[List.take_succ_eq_append_getElem h2,List.drop_append_of_le_length (by rw[List.length_take];omega)];have:=l5 c (s.data.toList.drop (i+1))
    cases hq:cutL c (s.data.toList.drop (i+1)) with
    | nil=>exact absurd hq this
    | cons p ps=>simp[preL]
   rw[e4];refine Ev.step (λk=>?_) h3
   have hne:¬ bt s (i:Int)=(c.toNat:Int):=by
    rw[bt_get s i h1];intro e;exact hc (UInt8.toNat_inj.1 (by omega))
   rw[ib.l0,if_pos (by omega),if_pos (by omega),if_neg hne,wrap64_in _ (by omega) (by omega)];rfl
theorem split_ev(s:ByteArray)(c:UInt8)(hs:s.size<=8000000):Ev (λk=>ib.f k s (c.toNat:Int)) (pieces s c):=by
 have h:=D5 s c hs s.size 0 0 [] (by omega) (Nat.le_refl _) (by simp);rw[List.take_zero,List.drop_nil,List.drop_zero,List.nil_append]at h
 have e4:preL [] (cutL c s.data.toList)=cutL c s.data.toList:=by
  have:=l5 c s.data.toList
  cases hq:cutL c s.data.toList with
  | nil=>exact absurd hq this
  | cons p ps=>rfl
 rw[e4,<- pieces_eq]at h;unfold ib.f;exact h
theorem vO(d:Nat)(h:d<10):strOfNums [(wrap64 (48+(d:Int))) % 256]=gQ [UInt8.ofNat (48+d)]:=by
 unfold strOfNums gQ;rw[wrap64_in _ (by omega) (by omega),List.map_singleton,show ((48+(d:Int)) % 256).toNat=48+d by omega]
theorem Gj:∀ (f u:Nat),u<10 ^ (f+1)->u<=9223372036854775807->Ev (λk=>gY.f k (u:Int)) (gQ (Lib.decDigits u)):=by
 intro f
 induction f with
 | zero =>
  intro u hu _
  have h10:u<10:=by omega
  rw[Lib.decDigits_one h10];refine Ev.step (f:=λ_=>some (gQ [UInt8.ofNat (48+u)])) (λk=>?_) (Ev.now _);rw[gY.f,if_pos (by omega),vO u h10]
 | succ f ih =>
  intro u hu hu2
  by_cases h10:u<10
  ·
   rw[Lib.decDigits_one h10];refine Ev.step (f:=λ_=>some (gQ [UInt8.ofNat (48+u)])) (λk=>?_) (Ev.now _);rw[gY.f,if_pos (by omega),vO u h10]
  ·
   have h1:=ih (u / 10) (by rw[Nat.pow_succ]at hu;omega) (by omega)
   have e1:wrap64 (Int.tdiv (u:Int) 10)=((u / 10:Nat):Int):=by rw[show Int.tdiv (u:Int) 10=((u / 10:Nat):Int) from rfl,wrap64_in _ (by omega) (by omega)]
   have e2:Int.tmod (u:Int) 10=((u % 10:Nat):Int):=rfl;refine Ev.step (f:=?f1) (λk=>?h1) ?g1
   case h1=>rw[gY.f,if_neg (by omega),e1,e2]
   refine Ev.bind h1 (Ev.bindc rfl ?_)
   have e3:Lib.decDigits u=Lib.decDigits (u / 10)++[UInt8.ofNat (48+u % 10)]:=by
    conv=>lhs;rw[Lib.decDigits]
    rw[dif_neg h10]
   rw[vO _ (Nat.mod_lt _ (by decide)),e3]
   have hlen:(gQ (Lib.decDigits (u / 10))).size+(gQ [UInt8.ofNat (48+u % 10)]).size<=9223372036854775807:=by
    have:(Lib.decDigits (u / 10)).length<=20:=by rw[Lib.decDigits_length];exact qd 20 _ (by omega) (by omega)
    simp[gQ,ByteArray.size];omega
   refine Ev.pos hlen (Ev.const ?_)
   congr 1
theorem numI_ev(n:Int)(h0:0<=n)(h1:bJ n):Ev (λk=>gY.f k n) (bL n):=by
 obtain ⟨u,rfl⟩:=Int.eq_ofNat_of_zero_le h0;have h:=Gj 19 u (by unfold bJ at h1;omega) (by unfold bJ at h1;omega)
 have e:bL (u:Int)=gQ (Lib.decDigits u):=by unfold bL gQ Lib.itoa;rw[if_neg (by omega)];rfl
 rwa [e]
theorem ve:∀ (x y:List UInt8) (a:Nat),Lib.decFrom a (x++y)=(Lib.decFrom a x).bind λb=>Lib.decFrom b y
 | [],y,a=>rfl
 | c :: r,y,a=>by
  simp only[List.cons_append,Lib.decFrom]
  cases Lib.digitVal c with
  | none=>rfl
  | some d=>exact ve r y _
theorem xA(d:Nat)(h:d<10):Lib.digitVal (UInt8.ofNat (48+d))=some d:=by
 unfold Lib.digitVal
 have e:(UInt8.ofNat (48+d)).toNat=48+d:=by simp;omega
 rw[e,if_pos (by omega)]
 congr 1
 omega
theorem uh(u:Nat):Lib.decFrom 0 (Lib.decDigits u)=some u:=by
 induction u using Nat.strongRecOn with
 | _ u ih =>
  by_cases h:u<10
  ·
   rw[Lib.decDigits_one h];simp only[Lib.decFrom,xA u h]
   congr 1
   omega
  ·
   rw[Lib.decDigits,dif_neg h,ve,ih (u / 10) (by omega)];simp only[Option.bind_some,Lib.decFrom,xA (u % 10) (Nat.mod_lt _ (by decide))]
   congr 1
   omega
theorem zH{c:UInt8}{d:Nat}(h:Lib.digitVal c=some d):d<10/\UInt8.ofNat (48+d)=c/\48<=c.toNat/\c.toNat<=57:=by
 unfold Lib.digitVal at h
 split at h
 ·
  rename_i hc
  have:=Option.some.inj h;refine ⟨by omega,?_,hc⟩;apply UInt8.toNat_inj.1;simp;omega
 · cases h
theorem Gy:∀ (n:Nat) (l:List UInt8) (u:Nat),l.length=n->l≠[]->(l.head?=some 48->l.length=1)->Lib.decFrom 0 l=some u->Lib.decDigits u=l/\(u=0->l.length=1):=by
 intro n
 induction n with
 | zero=>intro l u hn h0;exact absurd (List.eq_nil_of_length_eq_zero hn) h0
 | succ n ih =>
  intro l u hn h0 hz hd
  obtain ⟨x,c,rfl⟩:∃x c,l=x++[c]:=⟨l.dropLast,l.getLast h0,(List.dropLast_concat_getLast h0).symm⟩
  rw[ve]at hd
  cases hx:Lib.decFrom 0 x with
  | none=>rw[hx]at hd;cases hd
  | some v =>
   rw[hx,Option.bind_some]at hd;simp only[Lib.decFrom]at hd
   cases hc:Lib.digitVal c with
   | none=>rw[hc]at hd;cases hd
   | some d =>
    rw[hc]at hd;obtain ⟨d1,d2,d3⟩:=zH hc;have hu:=Option.some.inj hd
    by_cases hx0:x=[]
    ·
     subst hx0;have hv:v=0:=(Option.some.inj hx).symm;subst hv;refine ⟨?_,λ_=>by simp⟩;rw[Lib.decDigits_one (by omega),show u=d by omega,d2,List.nil_append]
    ·
     have hlen:x.length=n:=by simpa using hn
     have hzx:x.head?=some 48->x.length=1:=by
      intro h
      have h1:(x++[c]).head?=some 48:=by
       cases x with
       | nil=>exact absurd rfl hx0
       | cons a r=>simpa using h
      have:=hz h1;simp at this;exact absurd this hx0
     have hx48:x.head?≠some 48:=by
      intro h
      have h1:(x++[c]).head?=some 48:=by
       cases x with
       | nil=>exact absurd rfl hx0
       | cons a r=>simpa using h
      have:=hz h1;simp at this;exact absurd this hx0
     obtain ⟨e1,e2⟩:=ih x v hlen hx0 hzx hx
     have hv0:v≠0:=by
      intro h;rw[h,Lib.decDigits_one (by decide)]at e1;rw[<- e1]at hx48;exact hx48 rfl
     refine ⟨?_,λh=>by omega⟩;rw[Lib.decDigits,dif_neg (by omega),show u / 10=v by omega,show u % 10=d by omega,e1,d2]
theorem GK(u:Nat):(Lib.decDigits u).head?=some 48->(Lib.decDigits u).length=1:=by
 induction u using Nat.strongRecOn with
 | _ u ih =>
  by_cases h:u<10
  · rw[Lib.decDigits_one h];intro _;rfl
  ·
   intro h1
   exfalso
   have hne:Lib.decDigits (u / 10)≠[]:=λe=>by
    have:=uh (u / 10);rw[e]at this;have:=Option.some.inj this;omega
   have e:(Lib.decDigits u).head?=(Lib.decDigits (u / 10)).head?:=by
    conv=>lhs;rw[Lib.decDigits]
    rw[dif_neg h]
    cases hq:Lib.decDigits (u / 10) with
    | nil=>exact absurd hq hne
    | cons a r=>rfl
   rw[e]at h1;have h2:=ih (u / 10) (by omega) h1
   cases hq:Lib.decDigits (u / 10) with
   | nil=>exact hne hq
   | cons a r =>
    rw[hq]at h1 h2
    have ha:a=48:=by simpa using h1
    have hr:r=[]:=List.eq_nil_of_length_eq_zero (by simpa using h2);subst ha hr;have h3:=uh (u / 10);rw[hq]at h3;have:(0:Nat)=u / 10:=Option.some.inj h3;omega
def mM(l:List UInt8):Option Nat:=if (1<=l.length/\l.length<=6)/\(l.head?=some 48->l.length=1)then Lib.decFrom 0 l else none
theorem uG(s:ByteArray):bT s=(mM s.data.toList).map λ(u:Nat)=>(u:Int):=by
 have key:∀n,bT s=some n->mM s.data.toList=some n.toNat/\0<=n:=by
  intro n h;unfold bT rdNum at h
  rcases wu (Lib.atoiAll s.data.toList)with ha|ha|⟨m,ha⟩
  · rw[ha]at h;cases h
  · rw[ha]at h;cases h
  ·
   rw[ha]at h;dsimp only at h
   by_cases hm:Lib.itoa m=s.data.toList
   ·
    rw[if_pos hm]at h;dsimp only at h
    split at h
    ·
     rename_i hr
     obtain rfl:=Option.some.inj h
     have e:Lib.decDigits m.toNat=s.data.toList:=by rw[<- hm];unfold Lib.itoa;rw[if_neg (by omega)]
     have h1:=GK m.toNat;have h2:=uh m.toNat
     have h3:(Lib.decDigits m.toNat).length<=6:=by rw[Lib.decDigits_length];exact qd 6 _ (by decide) (by omega)
     have h4:1<=(Lib.decDigits m.toNat).length:=by rw[Lib.decDigits_length];exact Lib.nDigits_pos _
     rw[e]at h1 h2 h3 h4;refine ⟨?_,hr.1⟩;unfold mM;rw[if_pos ⟨⟨h4,h3⟩,h1⟩];exact h2
    · cases h
   · rw[if_neg hm]at h;cases h
 cases hr:mM s.data.toList with
 | none =>
  cases hc:bT s with
  | none=>rfl
  | some n=>have:=(key n hc).1;rw[hr]at this;cases this
 | some u =>
  unfold mM at hr
  split at hr
  ·
   rename_i hc
   have hne:s.data.toList≠[]:=λe=>by rw[e]at hc;simp at hc
   obtain ⟨e1,_⟩:=Gy _ _ u rfl hne hc.2 hr
   have hlt:u<10 ^ 6:=by
    have h1:=Lib.lt_pow_nDigits u;rw[<- Lib.decDigits_length,e1]at h1;exact Nat.lt_of_lt_of_le h1 (Nat.pow_le_pow_right (by decide) hc.1.2)
   have hi:Lib.itoa (u:Int)=s.data.toList:=by unfold Lib.itoa;rw[if_neg (by omega)];exact e1
   have ha:Lib.atoiAll s.data.toList=.ok (u:Int):=by
    cases hl:s.data.toList with
    | nil=>exact absurd hl hne
    | cons c r =>
     have h48:48<=c.toNat:=by
      rw[hl]at hr;simp only[Lib.decFrom]at hr
      cases hd:Lib.digitVal c with
      | none=>rw[hd]at hr;cases hr
      | some d=>exact (zH hd).2.2.1
     have hlen:(c :: r).length<=18:=by rw[<- hl];omega
     rw[Lib.atoiAll_plain c r (by omega) (by omega),Lib.signless_short hlen];rw[hl]at hr
     have hn:Lib.decNat (c :: r)=some u:=by
      unfold Lib.decNat;exact hr
     rw[hn];rfl
   unfold bT rdNum;rw[ha];dsimp only;rw[if_pos hi];dsimp only;rw[if_pos (by have e6:(10:Nat) ^ 6=1000000:=(by decide);omega)];rfl
  · cases hr
theorem BA(s:ByteArray)(hs:s.size<=6):∀ (d i a:Nat),i+d=s.size->a<10 ^ i ->
  Ev (λk=>eU.l0 k s (a:Int) (i:Int)) (((Lib.decFrom a (s.data.toList.drop i)).map λ(u:Nat)=>(u:Int)).getD (-1)):=by
 intro d
 induction d with
 | zero =>
  intro i a hi ha;have hl:=size_list s;rw[show s.data.toList.drop i=[] from List.drop_eq_nil_of_le (by omega)];refine Ev.step (f:=λ_=>some (a:Int)) (λk=>?_) (Ev.now _);rw[eU.l0,if_neg (by omega)]
 | succ d ih =>
  intro i a hi ha;have hl:=size_list s
  have h1:i<s.size:=by omega
  have h2:i<s.data.toList.length:=by omega
  have hp:10 ^ i<=10 ^ 6:=Nat.pow_le_pow_right (by decide) (by omega)
  have e6:(10:Nat) ^ 6=1000000:=by decide
  have hb:=D_ s (i:Int);have hbt:=bt_get s i h1;rw[List.drop_eq_getElem_cons h2]
  generalize s.data.toList[i]=c at hbt
  simp only[Lib.decFrom]
  by_cases hd:48<=c.toNat/\c.toNat<=57
  ·
   have e1:Lib.digitVal c=some (c.toNat - 48):=by unfold Lib.digitVal;rw[if_pos hd]
   rw[e1];dsimp only;have h3:=ih (i+1) (a * 10+(c.toNat - 48)) (by omega) (by rw[Nat.pow_succ];omega);refine Ev.step (λk=>?_) h3
   have e4:wrap64 ((wrap64 (10 * (a:Int)))+((bt s (i:Int) - 48) % 256))=((a * 10+(c.toNat - 48):Nat):Int):=by
    rw[wrap64_in (10 * (a:Int)) (by omega) (by omega),wrap64_in _ (by omega) (by omega)];omega
   rw[eU.l0,if_pos (by omega),if_pos (by omega),if_neg (by omega),if_neg (by omega),e4,bX i (by omega)]
  ·
   have e1:Lib.digitVal c=none:=by unfold Lib.digitVal;rw[if_neg hd]
   rw[e1];dsimp only;refine Ev.step (f:=λ_=>some (-1)) (λk=>?_) (Ev.now _);rw[eU.l0,if_pos (by omega),if_pos (by omega)]
   by_cases h5:c.toNat<48
   · rw[if_pos (by omega)]
   · rw[if_neg (by omega),if_pos (by omega)]
theorem read_ev(s:ByteArray):Ev (λk=>eU.f k s) (mY s):=by
 have hl:=size_list s;unfold mY;rw[uG];unfold eU.f mM
 have bad:∀k,eU.j0 (k+1) s true=some (-1):=λk=>by rw[eU.j0,if_pos rfl]
 refine Ev.bindc (l1In_eq _ 1 6) ?_
 by_cases h:1<=(s.size:Int)/\(s.size:Int)<=6
 ·
  rw[decide_eq_true h]
  have good:∀k,eU.j0 (k+1) s false=eU.l0 k s 0 0:=λk=>by rw[eU.j0,if_neg (by decide)]
  have h0:=BA s (by omega) s.size 0 0 (by omega) (by simp);rw[List.drop_zero]at h0;refine Ev.pos rfl (Ev.pos (by omega) ?_);have hbt:=bt_get s 0 (by omega)
  have hh:s.data.toList.head?=some (s.data.toList[0]'(by omega)):=by rw[List.head?_eq_getElem?,List.getElem?_eq_getElem]
  by_cases hz:bt s 0=48
  ·
   refine Ev.pos hz ?_
   have h48:s.data.toList[0]'(by omega)=48:=UInt8.toNat_inj.1 (by rw[show ((0:Nat):Int)=0 from rfl]at hbt;have:(48:UInt8).toNat=48:=rfl;omega)
   by_cases h1:s.size=1
   ·
    rw[decide_eq_false (by omega),if_pos ⟨by omega,λ_=>by omega⟩];exact Ev.step good h0
   ·
    rw[decide_eq_true (by omega),if_neg (λh=>by have:=h.2 (by rw[hh,h48]);omega)];exact Ev.step (f:=λ_=>some (-1)) bad (Ev.now _)
  ·
   refine Ev.neg hz ?_
   rw[if_pos ⟨by omega,λh=>by
    rw[hh]at h;have h48:=Option.some.inj h;rw[h48]at hbt
    exact absurd hbt hz⟩]
   exact Ev.step good h0
 ·
  rw[decide_eq_false h,if_neg (λh2=>h (by omega))];exact Ev.neg (by decide) (Ev.step (f:=λ_=>some (-1)) bad (Ev.now _))
def iO:List ByteArray->Option (List Int)
 | []=>some []
 | s :: r=>match bT s with
  | some n=>(iO r).map (n :: ·)
  | none=>none
theorem wC:∀l:List ByteArray,iO l=match iH l with
  | some a=>if (a.all λx=>decide (0<=x/\x<=999999))=true then some a else none
  | none=>none
 | []=>rfl
 | s :: r=>by
  rw[iO,iH,wC r];unfold bT
  cases hs:rdNum s with
  | none=>rfl
  | some n =>
   dsimp only
   cases hr:iH r with
   | none=>split <;> rfl
   | some a =>
    dsimp only[Option.map_some];rw[List.all_cons]
    by_cases hn:0<=n/\n<=999999
    ·
     rw[if_pos hn,decide_eq_true hn,Bool.true_and];dsimp only
     split <;> rfl
    · rw[if_neg hn,decide_eq_false hn,Bool.false_and,if_neg Bool.false_ne_true]
theorem Dv(s:ByteArray)(h:s.toList≠[45]):Hand.told s=iO (pieces s 44):=by
 unfold Hand.told iX
 by_cases h0:s.toList=[]
 ·
  rw[if_pos h0,pieces_eq];rw[Lib.toList_data]at h0;rw[h0];rfl
 ·
  rw[if_neg h0,if_neg h];rw[Lib.toList_data]at h0 h
  cases hl:s.data.toList with
  | nil=>exact absurd hl h0
  | cons b r =>
   by_cases hb:b=45
   ·
    subst hb;rw[if_pos (by simp[Lib.hasPrefix,List.isPrefixOf]),pieces_eq,hl,cutL,if_neg (by decide)];dsimp only;have hne:=l5 44 r
    cases hq:cutL 44 r with
    | nil=>exact absurd hq hne
    | cons p ps =>
     rw[List.map_cons,iO,uG]
     have:mM (gQ (45 :: p)).data.toList=none:=by
      unfold mM
      split
      · rfl
      · rfl
     rw[this];rfl
   ·
    rw[if_neg (by simp[Lib.hasPrefix,List.isPrefixOf];exact λe=>hb e.symm)];unfold nS;rw[if_neg (by have:=size_list s;rw[hl]at this;simp at this;omega),wC];rfl
theorem IC(ps:List ByteArray)(hs:ps.length<=1000000):∀ (d i:Nat) (a:List Int),i+d=ps.length->a.length=i ->
  Ev (λk=>jI.l0 k a ps (ps.length:Int) (i:Int)) (((iO (ps.drop i)).map (a++·)).getD [],(iO (ps.drop i)).isSome):=by
 intro d
 induction d with
 | zero =>
  intro i a hi ha;rw[List.drop_eq_nil_of_le (by omega)];refine Ev.step (f:=λ_=>some (a,true)) (λk=>?_) (Ev.const (by simp[iO]));rw[jI.l0,if_neg (by omega)]
 | succ d ih =>
  intro i a hi ha
  have h1:i<ps.length:=by omega
  rw[List.drop_eq_getElem_cons h1,iO];have hr:=read_ev ps[i];unfold mY at hr
  have hat:dS ByteArray.empty ps (i:Int)=ps[i]:=by
   unfold dS;rw[Int.toNat_natCast,List.getD_eq_getElem?_getD,List.getElem?_eq_getElem h1];rfl
  refine Ev.step (f:=?f1) (λk=>?h1) ?g1
  case h1=>rw[jI.l0,if_pos (by omega),if_pos (by omega),if_pos (by omega),hat,bX i (by omega)]
  refine Ev.bind hr ?_
  cases hc:bT ps[i] with
  | none=>exact Ev.pos (by decide) (Ev.now _)
  | some n =>
   have h0:0<=n:=by
    rw[uG]at hc;obtain ⟨u,_,hu⟩:=Option.map_eq_some_iff.1 hc;exact hu▸Int.natCast_nonneg u
   have h3:=ih (i+1) (a++[n]) (by omega) (by simp;omega);refine Ev.neg (by show ¬ n<0;omega) (Ev.pos (by omega) ?_)
   have e:(((iO (ps.drop (i+1))).map (a++[n]++·)).getD [],(iO (ps.drop (i+1))).isSome)=((((iO (ps.drop (i+1))).map (n :: ·)).map (a++·)).getD [],((iO (ps.drop (i+1))).map (n :: ·)).isSome):=by
    cases iO (ps.drop (i+1)) <;> simp
   rw[e]at h3;exact h3
theorem coParse_ev(s:ByteArray)(hs:s.size<=100000):Ev (λk=>jI.f k s) ((Hand.told s).getD [],(Hand.told s).isSome):=by
 unfold jI.f
 by_cases h:s.toList=[45]
 ·
  have e:Hand.told s=some []:=by
   unfold Hand.told iX;rw[if_neg (by rw[h];decide),if_pos h];rfl
  rw[e];exact Ev.pos h (Ev.now _)
 ·
  rw[Dv s h];have hp:=split_ev s 44 (by omega)
  have hl:(pieces s 44).length<=1000000:=by
   rw[jE];have:=Lib.countB_le ⟨#[44]⟩ (by decide) s.size s (Nat.le_refl _);omega
  have h2:=IC (pieces s 44) hl (pieces s 44).length 0 [] (by omega) rfl;rw[List.drop_zero]at h2
  have e:((iO (pieces s 44)).map ([]++·)).getD []=(iO (pieces s 44)).getD []:=by cases iO (pieces s 44) <;> rfl
  rw[e]at h2;exact Ev.neg h (Ev.bind hp h2)
theorem DF(s:ByteArray)(r:ByteArray)(h:Ev (λ_=>(if s.toList=([97,116]:List UInt8)then (some (⟨#[110,110]⟩:ByteArray))else (if s.toList=([116,97,107,101]:List UInt8)then (some (⟨#[108]⟩:ByteArray))else (if s.toList=([106,111,105,110]:List UInt8)then (some (⟨#[108]⟩:ByteArray))else (if s.toList=([99,108,97,115,115]:List UInt8)then (some (⟨#[108]⟩:ByteArray))else (some (⟨#[63]⟩:ByteArray))))))) r):Ev (λk=>ed.j1 k s false) r:=by
 refine Ev.step (λk=>?_) h;rw[ed.j1,if_neg (by decide)]
theorem pg(s:ByteArray):Ev (λk=>ed.j1 k s true) ⟨#[110]⟩:=by
 refine Ev.step (f:=λ_=>some ⟨#[110]⟩) (λk=>?_) (Ev.now _);rw[ed.j1,if_pos rfl]
theorem nA(s:ByteArray):Ev (λk=>ed.j0 k s true) ⟨#[]⟩:=by
 refine Ev.step (f:=λ_=>some ⟨#[]⟩) (λk=>?_) (Ev.now _);rw[ed.j0,if_pos rfl]
theorem jP{s:ByteArray}{l:List UInt8}(h:s.toList=l):(s.toList == l)=true:=beq_iff_eq.2 h
theorem zo{s:ByteArray}{l:List UInt8}(h:s.toList≠l):(s.toList == l)=false:=beq_eq_false_iff_ne.2 h
theorem shape_ev(s:ByteArray):Ev (λk=>ed.f k s) (bV s):=by
 unfold ed.f bV
 by_cases h_next:s.toList=[110,101,120,116]
 ·
  rw[if_pos (by simp only[h_next,true_or,or_true])]
  refine Ev.pos h_next ?_
  rw[jP h_next];exact nA s
 refine Ev.neg h_next ?_
 by_cases h_cars:s.toList=[99,97,114,115]
 ·
  rw[if_pos (by simp only[h_cars,true_or,or_true])]
  refine Ev.pos h_cars ?_
  rw[jP h_cars];exact nA s
 refine Ev.neg h_cars ?_
 by_cases h_far:s.toList=[102,97,114]
 ·
  rw[if_pos (by simp only[h_far,true_or,or_true])]
  refine Ev.pos h_far ?_
  rw[jP h_far];exact nA s
 refine Ev.neg h_far ?_
 by_cases h_cuts:s.toList=[99,117,116,115]
 ·
  rw[if_pos (by simp only[h_cuts,true_or,or_true])]
  refine Ev.pos h_cuts ?_
  rw[jP h_cuts];exact nA s
 refine Ev.neg h_cuts ?_
 by_cases h_rank:s.toList=[114,97,110,107]
 ·
  rw[if_pos (by simp only[h_rank,true_or,or_true])]
  refine Ev.pos h_rank ?_
  rw[jP h_rank];exact nA s
 refine Ev.neg h_rank ?_
 by_cases h_table:s.toList=[116,97,98,108,101]
 ·
  rw[if_pos (by simp only[h_table,true_or,or_true])]
  refine Ev.pos h_table ?_
  rw[jP h_table];exact nA s
 refine Ev.neg h_table ?_
 by_cases h_cost:s.toList=[99,111,115,116]
 ·
  rw[if_pos (by simp only[h_cost,true_or,or_true])]
  refine Ev.pos h_cost ?_
  rw[jP h_cost];exact nA s
 refine Ev.neg h_cost ?_
 by_cases h_list:s.toList=[108,105,115,116]
 ·
  rw[if_pos (by simp only[h_list,true_or,or_true]),jP h_list];exact nA s
 rw[if_neg (by simp only[h_next,h_cars,h_far,h_cuts,h_rank,h_table,h_cost,h_list,or_self,not_false_eq_true]),zo h_list];refine Ev.step (f:=?f1) (λk=>?h1) ?g1
 case h1=>rw[ed.j0,if_neg (by decide)]
 by_cases h_count:s.toList=[99,111,117,110,116]
 ·
  rw[if_pos (by simp only[h_count,true_or,or_true])]
  refine Ev.pos h_count ?_
  rw[jP h_count];exact pg s
 refine Ev.neg h_count ?_
 by_cases h_back:s.toList=[98,97,99,107]
 ·
  rw[if_pos (by simp only[h_back,true_or,or_true])]
  refine Ev.pos h_back ?_
  rw[jP h_back];exact pg s
 refine Ev.neg h_back ?_
 by_cases h_new:s.toList=[110,101,119]
 ·
  rw[if_pos (by simp only[h_new,true_or,or_true])]
  refine Ev.pos h_new ?_
  rw[jP h_new];exact pg s
 refine Ev.neg h_new ?_
 by_cases h_put:s.toList=[112,117,116]
 ·
  rw[if_pos (by simp only[h_put,true_or,or_true])]
  refine Ev.pos h_put ?_
  rw[jP h_put];exact pg s
 refine Ev.neg h_put ?_
 by_cases h_drop:s.toList=[100,114,111,112]
 ·
  rw[if_pos (by simp only[h_drop,true_or,or_true])]
  refine Ev.pos h_drop ?_
  rw[jP h_drop];exact pg s
 refine Ev.neg h_drop ?_
 by_cases h_find:s.toList=[102,105,110,100]
 ·
  rw[if_pos (by simp only[h_find,true_or,or_true]),jP h_find];exact pg s
 rw[if_neg (by simp only[h_count,h_back,h_new,h_put,h_drop,h_find,or_self,not_false_eq_true]),zo h_find]
 refine DF s _ ?_
 by_cases h_at:s.toList=[97,116]
 ·
  refine Ev.pos h_at ?_
  rw[if_pos h_at];exact Ev.now _
 refine Ev.neg h_at ?_
 rw[if_neg h_at]
 by_cases h_take:s.toList=[116,97,107,101]
 ·
  refine Ev.pos h_take ?_
  rw[if_pos (.inl h_take)];exact Ev.now _
 refine Ev.neg h_take ?_
 by_cases h_join:s.toList=[106,111,105,110]
 ·
  refine Ev.pos h_join ?_
  rw[if_pos (.inr (.inl h_join))];exact Ev.now _
 refine Ev.neg h_join ?_
 by_cases h_class:s.toList=[99,108,97,115,115]
 ·
  refine Ev.pos h_class ?_
  rw[if_pos (.inr (.inr h_class))];exact Ev.now _
 refine Ev.neg h_class ?_
 rw[if_neg (by simp only[h_take,h_join,h_class,or_self,not_false_eq_true])];exact Ev.now _
def insO(o:Option (List Int × Int)):List Int × Int × Bool:=((o.getD ([],0)).1,(o.getD ([],0)).2,o.isSome)
theorem yC(t:List Int):0<=kC t/\kC t<=(t.length:Int):=⟨lY _ _,nM _ _⟩
theorem implInsert_ev{t:List Int}(ht:table t=true)(n:Int):Ev (λk=>eX.f k t n) (insO (insL t n)):=by
 have hT:=(table_iff t).1 ht;have h12:=hT.fit.len;have h2:=hT.fit.two;have hb:=isTable_ev t (by omega);rw[ht]at hb;have hm:=yC t
 have bad:∀k,eX.j0 (k+1) n true t=some ([],0,false):=λk=>by rw[eX.j0,if_pos rfl]
 unfold eX.f insL;refine Ev.bind hb (Ev.pos rfl (Ev.bindc (a:=decide (0<=n/\n<=999)) (by unfold lh.f;rw[between_eq];rfl) ?_))
 by_cases hk:0<=n/\n<=999
 ·
  rw[decide_eq_true hk];refine Ev.pos rfl (Ev.bind (qW t n (by omega)) ?_)
  by_cases hc:n∈t
  ·
   rw[decide_eq_true hc,if_neg (λh=>h.2.1 hc)];exact Ev.pos rfl (Ev.step (f:=λ_=>some ([],0,false)) bad (Ev.now _))
  ·
   rw[decide_eq_false hc]
   have e:nJ.f t=some (qB t):=by unfold nJ.f;rw[if_pos (by omega)]
   have hl:((qB t).length:Int)=kC t:=by rw[Aw];rfl
   refine Ev.neg (by decide) (Ev.bindc e ?_);rw[hl,wrap64_in _ (by omega) (by omega)]
   by_cases hf:kC t+1=(t.length:Int)
   ·
    rw[if_neg (λh=>h.2.2 hf),beq_iff_eq.2 hf];exact Ev.step (f:=λ_=>some ([],0,false)) bad (Ev.now _)
   ·
    rw[if_pos ⟨hk,hc,hf⟩,beq_eq_false_iff_ne.2 hf];refine Ev.step (f:=?f1) (λk=>?h1) ?g1
    case h1=>rw[eX.j0,if_neg (by decide),show kX.f t=some t by unfold kX.f;rw[sW t (by omega)];rfl,Option.bind_some]
    exact Ev.bind (JK hT hk.1) (Ev.now _)
 ·
  rw[decide_eq_false hk,if_neg (λh=>hk h.1)];exact Ev.neg (by decide) (Ev.step (f:=λ_=>some ([],0,false)) bad (Ev.now _))
theorem specInsert_ev{t:List Int}(ht:table t=true)(n:Int):Ev (λk=>eT.f k t n) (insO (insL t n)):=by
 have hT:=(table_iff t).1 ht;have h12:=hT.fit.len;have h2:=hT.fit.two;have hb:=prGood_ev t (by omega);rw[ht]at hb;have hm:=yC t
 have bad:∀k,eT.j0 (k+1) n true t=some ([],0,false):=λk=>by rw[eT.j0,if_pos rfl]
 unfold eT.f insL;refine Ev.bind hb (Ev.pos rfl (Ev.bindc (a:=decide (0<=n/\n<=999)) (by unfold kr.f;rw[l1In_eq];rfl) ?_))
 by_cases hk:0<=n/\n<=999
 ·
  rw[decide_eq_true hk];refine Ev.pos rfl (Ev.bind (nG t n (by omega)) ?_)
  by_cases hc:n∈t
  ·
   rw[decide_eq_true hc,if_neg (λh=>h.2.1 hc)];exact Ev.pos rfl (Ev.step (f:=λ_=>some ([],0,false)) bad (Ev.now _))
  ·
   rw[decide_eq_false hc];refine Ev.neg (by decide) (Ev.bind (Dh hT) ?_);rw[wrap64_in _ (by omega) (by omega)]
   by_cases hf:kC t+1=(t.length:Int)
   ·
    rw[if_neg (λh=>h.2.2 hf),beq_iff_eq.2 (show kC t=(t.length:Int) - 1 by omega)];exact Ev.step (f:=λ_=>some ([],0,false)) bad (Ev.now _)
   ·
    rw[if_pos ⟨hk,hc,hf⟩,beq_eq_false_iff_ne.2 (show kC t≠(t.length:Int) - 1 by omega)];refine Ev.step (f:=?f1) (λk=>?h1) ?g1
    case h1=>rw[eT.j0,if_neg (by decide),own_eq t (by omega),Option.bind_some]
    exact Ev.bind (EG hT hk.1) (Ev.now _)
 ·
  rw[decide_eq_false hk,if_neg (λh=>hk h.1)];exact Ev.neg (by decide) (Ev.step (f:=λ_=>some ([],0,false)) bad (Ev.now _))
end Go.Proofs.YtjdlhefjgceabaaGreatDoor.Plain

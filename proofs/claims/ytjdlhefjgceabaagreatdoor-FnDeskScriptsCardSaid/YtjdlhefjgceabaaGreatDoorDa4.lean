/- The program's calls on tables, by hand: the costs of its keys, empty tables. Conditions: those that each theorem states. -/
import Derived.Test.YtjdlhefjgceabaaGreatDoorCc4
import Derived.Test.YtjdlhefjgceabaaGreatDoorPm4
set_option linter.unusedVariables false
set_option linter.unusedSimpArgs false
namespace Go.Proofs.YtjdlhefjgceabaaGreatDoor.Hand
open Go.RowKit Go.Shelf Go.Maps Go.Sort YtjdlhefjgceabaaGreatDoorW.PrintWords YtjdlhefjgceabaaGreatDoorW.PrintLast YtjdlhefjgceabaaGreatDoorW.PrintMore PAll
set_option maxRecDepth 100000
set_option maxHeartbeats 2000000
section
variable {ops:Array Oper} {rest:List Oper} {o:Oper} {a:Act} {Q:Exit->Act->World->Prop}
theorem CK{w0 W:World}(s x:Operand)(v:Value)(xs:List Int)(p:Int)(HO:Kd.R (Kd.int .i64) 3 W w0.heap.size (λ_=>True) v xs)(HB:Below w0.heap.size w0 W)(hl:xs.length<17592186044416)
  (h:∀v1 w1,Kd.R (Kd.int .i64) 3 w1 w0.heap.size (λ_=>True) v1 (xs++[p])->Below w0.heap.size w0 w1->W.grownBy w1 v.ownBlock->(v1.ownBlock=v.ownBlock\/∃b,v1.ownBlock=some b/\W.heap.size<=b)->wpList Tryz.prog ops Q rest (a.put o.dst v1) w1)
  (hgd:o.guard=none:=by exact rfl) (ho:o.op=.call { callee:=.builtin .append,args:=#[s,x],argTypes:=#[22,22] }:=by exact rfl) (hs:a.eval s=v:=by exact rfl) (hx:a.eval x=.slice (some ⟨W.heap.size,0,none⟩) 1 1:=by exact rfl) :
  wpList Tryz.prog ops Q (o :: rest) a (W.alloc (.cells #[.int .i64 p] 3)) :=
 Kd.R_append (Kd.int .i64) w0.heap.size hgd s x 22 3 (.int .i64 0) 8 ho Tryz.underlying22 mq rfl (by decide) (by omega) v xs p [.int .i64 p] (λ_=>True) (λ_=>False) hs hx rfl (λ_ hk=>hk.elim) (λ_ _=>trivial) HO HB HB.size (by omega) λv1 w1 h1 h2 h3 h4=>h v1 w1 h1 h2 h3 h4
end
theorem Gn:xU 252 #[] (λx=>decide (x >= 0)):=by
 intro x V;show Calls Tryz.prog 252 #[.int .i64 x] V _;go_enter Tryz.func252,Tryz.ntmps252;go_wp2;go_ret;exact ⟨rfl,bg.refl _⟩
def nu(l:List Int):List Int:=gD (λx=>decide (x >= 0)) l l.length
theorem IZ(A:Option Addr)(c:Nat)(l:List Int)(w:World)(hL:aM w A c l)(hl:l.length<=1000) :
  Calls Tryz.prog 234 #[.agg #[.slice A l.length c]] w (qQ (nu l) w):=by
 have hu:=Tryz.underlying34;have b1:=aG (Below.refl w.heap.size w) (.cells #[.slice A l.length c] 34);have HS:=aa (IR (λx=>decide (x >= 0)) 252 #[] (enters_of Tryz.func252 (by kernel_rfl) rfl) A c l (w.alloc (.cells #[.slice A l.length c] 34)) (Kd.C_below hL.1 b1) hl Gn);have HB:=aa b1;clear hL hl b1;go_enter Tryz.func234,Tryz.ntmps234
 go_wp2_with (go_at_call 251;go_loud (refine HS.out.mono ?_;rintro e w1 ⟨v,rfl,hv,hb⟩;have HV:=aa (Kd.R_lower hv (ay HB.out));have HB1:=aa (aj HB.out hb);clear hv hb))
 go_ret;exact ⟨v,rfl,HV.out,HB1.out⟩
def mP(t us:List Int)(n:Nat):List Int:=(us.take n).map λi=>(Plain.cost t.length i.toNat (rd t i).toNat:Int)
theorem Gd(t:List Int):∀n,∀i∈gD (λx=>decide (x >= 0)) t n,0<=i/\i<(n:Int)/\rd t i >= 0:=by
 intro n
 induction n with
 | zero=>intro i h;cases h
 | succ n ih =>
  intro i h;rw[gD]at h
  split at h
  ·
   rename_i hq
   rw[List.mem_append,List.mem_singleton]at h
   rcases h with h|h
   · have:=ih i h;omega
   ·
    subst h;exact ⟨by omega,by omega,of_decide_eq_true hq⟩
  · have:=ih i h;omega
theorem DX{t:List Int}(hT:Plain.Tb t):∀d n,n+d=t.length->(gD (λx=>decide (x >= 0)) t n).map (λi=>(Plain.cost t.length i.toNat (rd t i).toNat:Int))++Plain.costsR t d n=(nu t).map λi=>(Plain.cost t.length i.toNat (rd t i).toNat:Int):=by
 intro d
 induction d with
 | zero =>
  intro n hn;rw[Plain.costsR,List.append_nil];unfold nu;rw[show n=t.length by omega]
 | succ d ih =>
  intro n hn;have hin:=hT.fit.inn n (by omega);rw[<- ih (n+1) (by omega),Plain.costsR,gD,<- List.append_assoc]
  congr 1
  by_cases hx:rd t (n:Int)=-1
  · rw[if_pos hx,if_neg (by rw[decide_eq_false (by omega)];decide),List.append_nil]
  · rw[if_neg hx,if_pos (decide_eq_true (by omega)),List.map_append,List.map_singleton,Int.toNat_natCast]
theorem JE{t:List Int}(hT:Plain.Tb t):mP t (nu t) (nu t).length=Plain.costsR t t.length 0:=by
 have h:=DX hT t.length 0 (by omega);unfold mP;rw[List.take_length,<- h];rfl
theorem AZ(A:Option Addr)(c:Nat)(t:List Int)(w:World)(hL:aM w A c t)(hT:Plain.Tb t) :
  Calls Tryz.prog 203 #[.agg #[.slice A t.length c]] w (qQ (Plain.costsR t t.length 0) w):=by
 have hu:=Tryz.underlying34;have h12:=hT.fit.len;have HE:=aa (JE hT);have HT:=aa hT;have HL:=aa hL;have HN:=aa (uR (λx=>decide (x >= 0)) t t.length);have HI:=aa (Gd t t.length)
 have hz:(w.alloc (.cells #[.slice A t.length c] 34)).heap.size=w.heap.size+1:=by simp
 have b1:=aG (aG (Below.refl w.heap.size w) (.cells #[.slice A t.length c] 34)) (.cells #[] 3);have hO:=rY (w.alloc (.cells #[.slice A t.length c] 34));rw[hz]at hO;have HO:=aa (Kd.R_lower (base':=w.heap.size) hO (by omega));have HB:=aa b1;have HX:=aa (bq (bC w (.cells #[.slice A t.length c] 34)) (.cells #[] 3));have HU:=aa (IZ A c t _ (aM.below hL b1) (by omega))
 obtain ⟨us,hus⟩:∃us,us=nu t:=⟨_,rfl⟩
 have HUS:=aa hus;rw[<- hus]at HU HE;clear hL hT hz b1 hO hus h12;go_enter Tryz.func203,Tryz.ntmps203
 go_wp2_with (go_at_call 234;go_loud (refine HU.out.mono ?_;rintro e w1 ⟨v,rfl,hv,hb⟩;obtain ⟨Au,cu,rfl,hcu,hCu⟩:=Kd.R_reads hv;have HV:=aa (show Kd.R (Kd.int .i64) 3 w1 _ (λk=>True/\some k≠(Value.slice (some ⟨w.heap.size+1,0,none⟩) 0 0).ownBlock) (.slice Au us.length cu) us from Kd.R_of_own (Kd.own_of_R hv) (λk hk=>⟨trivial,λe=>l7 hv HO.out k hk e.symm⟩));replace HO:=aa (Kd.R_below HO.out hb);replace HX:=aa (aI HX.out hb);replace HB:=aa (aj HB.out hb);clear hv hb hcu hCu))
 go_loopg [3,10] us.length (λkq v3 v10 w'=>∃ (i:Nat) (iz:Int),v10=.int .i64 iz/\ae (iz=(i:Int))/\ae (i+kq=us.length)/\ae (Kd.R (Kd.int .i64) 3 w' w.heap.size (λ_=>True) v3 (mP t us i))/\ae (Below w.heap.size w w')/\ae (Kd.R (Kd.int .i64) 3 w' (w.heap.size+2) (λk=>True/\some k≠v3.ownBlock) (.slice Au us.length cu) us)/\ae (w'.heap[w.heap.size]?=some (.cells #[.slice A t.length c] 34 (0,0))))
 case atStart=>exact ⟨0,0,rfl,⟨rfl⟩,⟨by omega⟩,HO,HB,⟨by simpa using HV.out⟩,HX⟩
 case round =>
  clear HO HB HV HX;obtain ⟨i,iz,rfl,NI,NK,HO,HB,HV,HX⟩:=hrel;have hcz:wr.cell? ⟨w.heap.size,0,none⟩=some (.slice A t.length c):=(ah HX.out 0).trans rfl
  cases gk with
  | zero =>
   have hi:i=us.length:=by have:=NK.out;omega
   subst hi;rw[HE.out]at HO;have q1:decide (iz<(us.length:Int))=false:=decide_eq_false (by have:=NI.out;omega);go_wp2;go_ret;exact ⟨_,rfl,HO.out,HB.out⟩
  | succ d =>
   have hi0:0<=iz:=by have:=NI.out;omega
   have hin:iz<(us.length:Int):=by have:=NI.out;have:=NK.out;omega
   have q1:decide (iz<(us.length:Int))=true:=decide_eq_true hin;obtain ⟨ad0,e0,hx⟩:=Kd.at_int (Kd.R_reads' HV.out).2.2 iz hi0 hin;cases e0
   have hi1:i<us.length:=by have:=NK.out;omega
   obtain ⟨x,hxx⟩:∃x,x=rd us iz:=⟨_,rfl⟩
   have HM:=aa (show x∈us by rw[hxx,NI.out,nE us i hi1];exact List.getElem_mem _);have HP:=aa (HI.out x (by have h:=HM.out;rw[HUS.out]at h;exact h))
   have HC:=aa λW (h:aM W A c t)=>jO.calls A c t x (Plain.cost t.length x.toNat (rd t x).toNat:Int) W h.1 h.2 (by
    obtain ⟨p0,p1,p2⟩:=HP.out;obtain ⟨q,rfl⟩:=Int.eq_ofNat_of_zero_le p0;rw[Int.toNat_natCast]
    exact Plain.implCost_eq HT.out (by omega) (by omega))
   have HQ:=aa (show mP t us i++[(Plain.cost t.length x.toNat (rd t x).toNat:Int)]=mP t us (i+1) by
    unfold mP
    rw[List.take_succ_eq_append_getElem hi1,List.map_append,List.map_singleton,hxx,NI.out,nE us i hi1])
   rw[<- hxx]at hx;have HLt:=aa (show (mP t us i).length<17592186044416 by unfold mP;rw[List.length_map,List.length_take];have:=HN.out;have:=HT.out.fit.len;rw[HUS.out];unfold nu;omega);have HN1:=aa (show wrap64 (iz+1)=((i+1:Nat):Int) by rw[NI.out];have:=HN.out;have:=HT.out.fit.len;have hq:=hi1;rw[HUS.out]at hq;unfold nu at hq;rw[wrap64_in _ (by omega) (by omega)];omega)
   obtain ⟨cz,hcz1⟩:∃cz,cz=(Plain.cost t.length x.toNat (rd t x).toNat:Int):=⟨_,rfl⟩
   rw[<- hcz1]at HC HQ;clear hi1 hxx hcz1;replace hi0:=eq_true hi0;replace hin:=eq_true hin
   go_wp2_with (first
    | (go_at_call 97;go_loud (refine (HC.out _ (aM.below HL.out aW)).mono ?_;rintro e w2 ⟨rfl,hb⟩;have hb2:=hb;replace HO:=aa (Kd.R_below HO.out hb2);replace HB:=aa (aj HB.out hb2);replace HV:=aa (Kd.R_below HV.out hb2);replace HX:=aa (aI HX.out hb2);clear hb hb2))
    | (at_builtin;refine CK (.tmp 14) (.tmp 18) _ _ _ HO.out HB.out HLt.out ?_;intro v1 w3 ho hb hg hat;rw[HQ.out]at ho;replace HV:=aa (Kd.R_after HV.out hg hat);replace HX:=aa (iM HX.out hg (Kd.R_ne HO.out HX.out (by decide)));replace HO:=aa ho;replace HB:=aa hb;clear ho hb hg hat))
   go_roundg d
   case measure=>omega
   case rel=>exact ⟨i+1,_,rfl,HN1,⟨by have:=NK.out;omega⟩,HO,HB,HV,HX⟩
def tC(b:Bool)(w:World)(e:Ending)(w':World):Prop:=e=.returned (.bool b)/\Below w.heap.size w w'
theorem I9{A:Option Addr}{c:Nat}{t:List Int}(ht:Plain.table t=true)(w:World)(hL:aM w A c t):Calls Tryz.prog 61 #[.agg #[.slice A t.length c]] w (tC true w):=by
 have h12:=((Plain.table_iff t).1 ht).fit.len;obtain ⟨k,hk⟩:=Plain.isTable_ev t (by omega);rw[ht]at hk;exact (dz.calls k A c t true w hL.1 hL.2 (hk k (Nat.le_refl _))).mono λe w' h=>h
theorem EH{A:Option Addr}{c:Nat}{t:List Int}(ht:Plain.table t=true)(w:World)(hL:aM w A c t):Calls Tryz.prog 145 #[.agg #[.slice A t.length c]] w (kg (some (Plain.costL t)) w):=by
 have hu:=Tryz.underlying34;have hT:=(Plain.table_iff t).1 ht;have b1:=aG (Below.refl w.heap.size w) (.cells #[.slice A t.length c] 34);have HX:=aa (bC w (.cells #[.slice A t.length c] 34));have HL:=aa hL;have HB:=aa b1;have H1:=aa λW (h:aM W A c t)=>I9 ht W h;have H2:=aa λW (h:aM W A c t)=>AZ A c t W h hT;obtain ⟨k,hk⟩:=Plain.implTotal_ev hT
 obtain ⟨cs,hcs⟩:∃cs,cs=Plain.costsR t t.length 0:=⟨_,rfl⟩
 obtain ⟨z,hz⟩:∃z,z=Plain.costL t:=⟨_,rfl⟩
 rw[<- hcs,<- hz]at hk;rw[<- hcs]at H2;rw[<- hz];have H3:=aa λA c W (h:aM W A c cs)=>kE.calls k A c cs z W h.1 h.2 (hk k (Nat.le_refl _));clear hL b1 hT ht hk hcs hz;go_enter Tryz.func145,Tryz.ntmps145
 go_wp2_with (first
  | (go_at_call 61;go_loud (refine (H1.out _ (aM.below HL.out aW)).mono ?_;rintro e w1 ⟨rfl,hb⟩;replace HX:=aa (aI HX.out hb);have hcz:w1.cell? ⟨w.heap.size,0,none⟩=some (.slice A t.length c):=(ah HX.out 0).trans rfl;replace HB:=aa (aj HB.out hb);clear hb))
  | (go_at_call 203;go_loud (refine (H2.out _ (aM.below HL.out aW)).mono ?_;rintro e w2 ⟨v,rfl,hv,hb⟩;obtain ⟨Av,cv,rfl,hcv,hCv⟩:=Kd.R_reads hv;have HV:=aa (show aM w2 Av cv cs from ⟨hCv,hcv⟩);replace HB:=aa (aj HB.out hb);clear hv hb hcv hCv))
  | (go_at_call 202;go_loud (refine (H3.out _ _ _ HV.out).mono ?_;rintro e w3 ⟨rfl,hb⟩;replace HB:=aa (aj HB.out hb.below);clear hb)))
 go_ret2;exact ⟨z,rfl,λm h=>Option.some.inj h,HB.out⟩
theorem DI(n:Int)(w:World):Calls Tryz.prog 154 #[.int .i64 n] w (kP (Plain.emptyL n) w):=by
 have hu:=Tryz.underlying34;have HB:=aa (aG (Below.refl w.heap.size w) (.cells #[.slice none 0 0] 34));have HX:=aa (bC w (.cells #[.slice none 0 0] 34));have H1:=aa λW=>j6.calls n (decide (2<=n/\n<=12)) W (by unfold j6.f;rw[Plain.between_eq];rfl);unfold Plain.emptyL
 by_cases hn:2<=n/\n<=12
 ·
  rw[if_pos hn];rw[decide_eq_true hn]at H1;have H2:=aa λW=>yX n.toNat (by omega) (by omega) W;rw[show ((n.toNat:Nat):Int)=n by omega]at H2
  obtain ⟨N,hN⟩:∃N,N=n.toNat:=⟨_,rfl⟩
  rw[<- hN]at H2 ⊢;clear hn hN;go_enter Tryz.func154,Tryz.ntmps154
  go_wp2_with (first
   | (go_at_call 94;go_loud (refine (H1.out _).mono ?_;rintro e w1 ⟨rfl,hb⟩;replace HX:=aa (aI HX.out hb.below);replace HB:=aa (aj HB.out hb.below);clear hb))
   | (go_at_call 66;go_loud (refine (H2.out _).mono ?_;rintro e w2 ⟨v,rfl,hv,hb⟩;obtain ⟨Av,cv,rfl⟩:=Kd.R_slice hv;rw[List.length_replicate]at hv;replace HX:=aa (aI HX.out hb);have hcz:w2.cell? ⟨w.heap.size,0,none⟩=some (.slice none 0 0):=(ah HX.out 0).trans rfl;have hfz:=au HX.out 0;have HV:=aa (Kd.R_lower hv (ay HB.out));replace HB:=aa (aj HB.out hb);clear hv hb)))
  refine bodyPost_ret (ni rfl _ _ w.heap.size 34 #[.slice Av N cv] (0,0) _ rfl (by first|exact dV (cs:=#[.slice none 0 0]) HX.out 0 _ rfl|exact dV (cs:=#[.slice none 0 0]) (di HX.out _) 0 _ rfl) hu rfl (by kernel_rfl)) rfl ?_
  exact ⟨_,_,rfl,(by first|exact Kd.R_set HV.out HX.out (by decide) 0 _|exact Kd.R_set (Kd.R_drewN HV.out _) (di HX.out _) (by decide) 0 _),λm h=>Option.some.inj h,bf aW (Nat.le_refl _)⟩
 ·
  rw[if_neg hn];rw[decide_eq_false hn]at H1;clear hn;go_enter Tryz.func154,Tryz.ntmps154
  go_wp2_with (go_at_call 94;go_loud (refine (H1.out _).mono ?_;rintro e w1 ⟨rfl,hb⟩;replace HX:=aa (aI HX.out hb.below);replace HB:=aa (aj HB.out hb.below);have hcz:w1.cell? ⟨w.heap.size,0,none⟩=some (.slice none 0 0):=(ah HX.out 0).trans rfl;have hfz:=au HX.out 0;clear hb))
  refine bodyPost_ret (ni rfl _ _ w.heap.size 34 #[.slice none 0 0] (0,0) _ rfl (by first|exact dV (cs:=#[.slice none 0 0]) HX.out 0 _ rfl|exact dV (cs:=#[.slice none 0 0]) (di HX.out _) 0 _ rfl) hu rfl (by kernel_rfl)) rfl ?_
  exact ⟨_,_,rfl,Kd.R_nil _ _ _ _ _,λm h=>(by cases h),bf aW (Nat.le_refl _)⟩
structure Two (w0:World) (v2 v4:Value) (w:World):Prop where
 below:Below w0.heap.size w0 w
 b2:w.heap[w0.heap.size]?=some (.cells #[v2] 34 (0,0))
 b4:w.heap[w0.heap.size+1]?=some (.cells #[v4] 34 (0,0))
theorem Two.start(w:World)(v2 v4:Value):Two w v2 v4 ((w.alloc (.cells #[v2] 34)).alloc (.cells #[v4] 34)):=by
 have hz:(w.alloc (.cells #[v2] 34)).heap.size=w.heap.size+1:=by simp
 have hn:=bC (w.alloc (.cells #[v2] 34)) (.cells #[v4] 34);rw[hz]at hn;exact ⟨aG (aG (Below.refl _ _) _) _,bq (bC w _) _,hn⟩
theorem Two.after{w0 w w1:World}{v2 v4:Value}(h:Two w0 v2 v4 w)(hb:Below w.heap.size w w1):Two w0 v2 v4 w1:=⟨aj h.below hb,aI h.b2 hb,aI h.b4 hb⟩
theorem Two.drewN{w0 w:World}{v2 v4:Value}(h:Two w0 v2 v4 w)(n:Nat):Two w0 v2 v4 (w.drewN n):=⟨dD h.below n,di h.b2 n,di h.b4 n⟩
theorem Two.drew{w0 w:World}{v2 v4:Value}(h:Two w0 v2 v4 w):Two w0 v2 v4 w.drew:=⟨dw h.below,bS h.b2,bS h.b4⟩
theorem Two.alloc{w0 w:World}{v2 v4:Value}(h:Two w0 v2 v4 w)(o:Obj):Two w0 v2 v4 (w.alloc o):=⟨aG h.below o,bq h.b2 o,bq h.b4 o⟩
theorem Two.c2{w0 w:World}{v2 v4:Value}(h:Two w0 v2 v4 w):w.cell? ⟨w0.heap.size,0,none⟩=some v2:=(ah h.b2 0).trans rfl
theorem Two.c4{w0 w:World}{v2 v4:Value}(h:Two w0 v2 v4 w):w.cell? ⟨w0.heap.size+1,0,none⟩=some v4:=(ah h.b4 0).trans rfl
theorem fA{P:Prop}(h:P:=by repeat (first|(with_reducible first|exact HT.out|apply Two.drewN|apply Two.drew|apply Two.alloc)|exact HT.out)):P:=h
structure Three (w0:World) (v2 v4:Value) (g9:Nat) (v9:Value) (xs:List Int) (w:World):Prop where
 two:Two w0 v2 v4 w
 b9:w.heap[g9]?=some (.cells #[v9] 34 (0,0))
 far:w0.heap.size+2<=g9
 row:Kd.R (Kd.int .i64) 3 w w0.heap.size (λ_=>True) v9 xs
theorem Three.set{w0 W:World}{v2 v4 x v:Value}{g9:Nat}{xs:List Int}(hT:Two w0 v2 v4 W)(hk:W.heap[g9]?=some (.cells #[x] 34 (0,0)))(hg:w0.heap.size+2<=g9)(hv:Kd.R (Kd.int .i64) 3 W w0.heap.size (λ_=>True) v xs):Three w0 v2 v4 g9 v xs (W.setCell ⟨g9,0,none⟩ v) :=
 ⟨⟨bf hT.below (by show w0.heap.size<=g9;omega),fZ hT.b2 (p:=⟨g9,0,none⟩) (by show w0.heap.size≠g9;omega) _,fZ hT.b4 (p:=⟨g9,0,none⟩) (by show w0.heap.size+1≠g9;omega) _⟩,dV hk 0 _ rfl,hg,Kd.R_set hv hk (by decide) 0 _⟩
theorem Three.after{w0 w w1:World}{v2 v4 v9:Value}{g9:Nat}{xs:List Int}(h:Three w0 v2 v4 g9 v9 xs w)(hb:Below w.heap.size w w1):Three w0 v2 v4 g9 v9 xs w1:=⟨h.two.after hb,aI h.b9 hb,h.far,Kd.R_below h.row hb⟩
theorem Three.drewN{w0 w:World}{v2 v4 v9:Value}{g9:Nat}{xs:List Int}(h:Three w0 v2 v4 g9 v9 xs w)(n:Nat):Three w0 v2 v4 g9 v9 xs (w.drewN n):=⟨h.two.drewN n,di h.b9 n,h.far,Kd.R_drewN h.row n⟩
theorem Three.drew{w0 w:World}{v2 v4 v9:Value}{g9:Nat}{xs:List Int}(h:Three w0 v2 v4 g9 v9 xs w):Three w0 v2 v4 g9 v9 xs w.drew:=⟨h.two.drew,bS h.b9,h.far,Kd.R_drew h.row⟩
theorem Three.put{w0 w:World}{v2 v4:Value}{g9 gv n cap:Nat}{xs:List Int}(h:Three w0 v2 v4 g9 (.slice (some ⟨gv,0,none⟩) n cap) xs w)(hg:w0.heap.size<=gv)(i:Nat)(x:Int):Three w0 v2 v4 g9 (.slice (some ⟨gv,0,none⟩) n cap) (xs.set i x) (w.setCell ⟨gv,i,none⟩ (.int .i64 x)):=by
 have hne:∀ {g:Nat} {v:Value},w.heap[g]?=some (.cells #[v] 34 (0,0))->g≠gv:=λ{g v} hb e=>Kd.R_ne h.row hb (by decide) (by rw[e];rfl);have hp:=(Kd.R_putg h.row (i:Int) x).1;rw[Int.toNat_natCast]at hp;exact ⟨⟨bf h.two.below hg,fZ h.two.b2 (p:=⟨gv,i,none⟩) (hne h.two.b2) _,fZ h.two.b4 (p:=⟨gv,i,none⟩) (hne h.two.b4) _⟩,fZ h.b9 (p:=⟨gv,i,none⟩) (hne h.b9) _,h.far,hp⟩
theorem Three.c9{w0 w:World}{v2 v4 v9:Value}{g9:Nat}{xs:List Int}(h:Three w0 v2 v4 g9 v9 xs w):w.cell? ⟨g9,0,none⟩=some v9:=(ah h.b9 0).trans rfl
theorem wN{xs:List Int}{f k:Nat}(hR:Plain.Rm xs f k)(hk:k<xs.length):(f+k) % xs.length<xs.length/\Int.tmod ((f:Int)+(k:Int)) (xs.length:Int)=(((f+k) % xs.length:Nat):Int)/\(f+k) % xs.length≠f:=by
 have h2:=hR.fit.two;refine ⟨Nat.mod_lt _ (by omega),by rw[<- Int.natCast_add,Plain.tmod_nat],λe=>?_⟩
 have e2:(f+k) % xs.length=(f+0) % xs.length:=by rw[e,Nat.add_zero,Nat.mod_eq_of_lt hR.cell]
 have:=Plain.mod_one hk (by omega) e2;have:=hR.far;omega
def ik(d:Nat)(xs:List Int)(f k:Nat):Prop:=∃s,k<=s/\s<xs.length/\rd xs (((f+s) % xs.length:Nat):Int)=-1/\s - k<=d
theorem ik.zero{xs:List Int}{f k:Nat}(h:ik 0 xs f k):rd xs (((f+k) % xs.length:Nat):Int)=-1:=by
 obtain ⟨s,h1,h2,h3,h4⟩:=h;rw[show k=s by omega];exact h3
theorem ik.lt{d:Nat}{xs:List Int}{f k:Nat}(h:ik d xs f k):k<xs.length:=by
 obtain ⟨s,h1,h2,h3,h4⟩:=h;omega
theorem ik.stay{d:Nat}{xs:List Int}{f k:Nat}(h:ik (d+1) xs f k)(hx:rd xs (((f+k) % xs.length:Nat):Int)≠-1):ik d xs f (k+1):=by
 obtain ⟨s,h1,h2,h3,h4⟩:=h;have:k≠s:=λe=>hx (e▸h3);exact ⟨s,by omega,h2,h3,by omega⟩
theorem ik.move{d:Nat}{xs:List Int}{f k:Nat}(hR:Plain.Rm xs f k)(h:ik (d+1) xs f k)(hx:rd xs (((f+k) % xs.length:Nat):Int)≠-1):ik d ((xs.set f (rd xs (((f+k) % xs.length:Nat):Int))).set ((f+k) % xs.length) (-1)) ((f+k) % xs.length) 1:=by
 obtain ⟨s,h1,h2,h3,h4⟩:=h;have hne:k≠s:=λe=>hx (e▸h3)
 have hlen:((xs.set f (rd xs (((f+k) % xs.length:Nat):Int))).set ((f+k) % xs.length) (-1)).length=xs.length:=by simp
 have h2l:=hR.fit.two
 have e1:((f+k) % xs.length+(s - k)) % xs.length=(f+s) % xs.length:=by rw[Plain.mod_add,show f+k+(s - k)=f+s by omega]
 refine ⟨s - k,by omega,by omega,?_,by have:=hR.far;omega⟩;rw[hlen,e1]
 by_cases e2:(f+s) % xs.length=(f+k) % xs.length
 · rw[e2];exact Plain.rd_set_self _ (by simpa using Nat.mod_lt _ (by omega))
 ·
  rw[Plain.rd_set_ne _ e2,Plain.rd_set_ne _ (λe3=>?_),h3]
  have e4:(f+s) % xs.length=(f+0) % xs.length:=by rw[e3,Nat.add_zero,Nat.mod_eq_of_lt hR.cell]
  have:=Plain.mod_one h2 (by omega) e4;have:=hR.far;omega
theorem rG{P:Prop}(h:P:=by repeat (first|(with_reducible first|exact H3.out|apply Three.drewN|apply Three.drew)|exact H3.out)):P:=h
theorem Three.reads{w0 w:World}{v2 v4:Value}{g9 n c:Nat}{A:Option Addr}{xs:List Int}(h:Three w0 v2 v4 g9 (.slice A n c) xs w):aM w A c xs:=by
 have h1:=Kd.R_reads' h.row;exact ⟨h1.2.2,by omega⟩
theorem Dq{t:List Int}(hf:Plain.Fit t){i:Nat}(hi:i<t.length)(hn:rd t (i:Int)≠-1):jO.f t (i:Int)=some (Plain.cost t.length i (rd t (i:Int)).toNat:Int):=by
 have h2:=hf.two;have h12:=hf.len;have hin:=hf.inn i hi;obtain ⟨K,hK⟩:=Int.eq_ofNat_of_zero_le (show 0<=rd t (i:Int) by omega);unfold jO.f;rw[if_pos (by omega),if_pos (by omega),if_neg (by omega),hK,Int.toNat_natCast,Plain.cost_eq (by omega) h12 hi]
def yK:Bool × List (List Nat × List Nat):=(true,[([],[]),([0],[0]),([],[]),([],[]),([3],[3]),([],[]),([],[]),([6],[6]),([],[]),([7,8],[7,8]),([9],[9]),([1,2,0,1,2,6,7,8,9,10],[1,2]),([11,10,0,1,2,6,7,8,9,10],[10,11]),([4,5,0,1,2,3,4,5,6,7,8,9,10,11,12],[4,5]),([13,12,0,1,2,3,4,5,6,7,8,9,10,11,12],[13])])
def IL:List Nat:=[0,1,0,0,8,0,0,64,0,448,960,1991,4039,8191,16383]
theorem Ia:dQ .any (opsOf Tryz.f156 11)=yK:=by kernel_rfl
theorem Ff:jv yK.2 IL=true:=by kernel_rfl
section
variable {A:Option Addr} {c:Nat} {t:List Int} {n:Int}
theorem zw(ht:Plain.table t=true)(n:Int)(w:World)(hL:aM w A c t):Calls Tryz.prog 157 #[.agg #[.slice A t.length c],.int .i64 n] w λe w'=>e=.returned (.tuple #[.int .i64 (Plain.findO (Plain.findL t n)).1,.int .i64 (Plain.findO (Plain.findL t n)).2.1,.bool (Plain.findO (Plain.findL t n)).2.2])/\Below w.heap.size w w':=by
 obtain ⟨k,hk⟩:=Plain.implFind_ev ht n;exact iW.calls k A c t n _ _ _ w hL.1 hL.2 (hk k (Nat.le_refl _))
theorem DR(ht:Plain.table t=true)(w:World)(hL:aM w A c t)(ho:¬ ((0<=n/\n<=999)/\n∈t)) :
  Calls Tryz.prog 156 #[.agg #[.slice A t.length c],.int .i64 n] w (kP none w):=by
 have hu:=Tryz.underlying34;have HL:=aa hL;have HT:=aa (Two.start w (.slice A t.length c) (.slice none 0 0))
 have hz:Plain.findO (Plain.findL t n)=(0,0,false):=by unfold Plain.findL;rw[if_neg ho];rfl
 have H1:=aa λW (h:aM W A c t)=>zw ht n W h;simp only[hz]at H1;have hcz:((w.alloc (.cells #[.slice A t.length c] 34)).alloc (.cells #[.slice none 0 0] 34)).cell? ⟨w.heap.size,0,none⟩=some (.slice A t.length c):=HT.out.c2;clear hL ht ho hz;go_enter Tryz.func156,Tryz.ntmps156
 go_wp2_with (go_at_call 157;go_loud (refine (H1.out _ (aM.below HL.out (Two.below fA))).mono ?_;rintro e w1 ⟨rfl,hb⟩;have HT1:=aa (Two.after (show Two w _ _ _ from fA) hb);clear HT hb;have HT:=HT1;clear HT1;have hc4:World.cell? _ ⟨w.heap.size+1,0,none⟩=some (.slice none 0 0):=Two.c4 HT.out;have hf4:World.frozen? _ ⟨w.heap.size+1,0,none⟩=false:=au HT.out.b4 0))
 refine bodyPost_ret (ni rfl _ _ (w.heap.size+1) 34 #[.slice none 0 0] (0,0) _ rfl (by first|exact dV (cs:=#[.slice none 0 0]) HT.out.b4 0 _ rfl|exact dV (cs:=#[.slice none 0 0]) (di HT.out.b4 _) 0 _ rfl) hu rfl (by kernel_rfl)) rfl ?_
 exact ⟨_,[],rfl,Kd.R_nil _ _ _ _ _,λm h=>(by cases h),bf (Two.below fA) (Nat.le_succ _)⟩
theorem BU(ht:Plain.table t=true)(w:World)(hL:aM w A c t)(hn:0<=n/\n<=999)(hm:n∈t) :
  Calls Tryz.prog 156 #[.agg #[.slice A t.length c],.int .i64 n] w (kP (some (Plain.remL t (Plain.posL t n))) w):=by
 have hu:=Tryz.underlying34;have hT:=(Plain.table_iff t).1 ht;have h2:=hT.fit.two;have h12:=hT.fit.len;have HL:=aa hL;have HT:=aa (Two.start w (.slice A t.length c) (.slice none 0 0));obtain ⟨hp1,hp2⟩:=Plain.posL_ok hm
 have hz:Plain.findO (Plain.findL t n)=((Plain.posL t n:Int),(Plain.cost t.length (Plain.posL t n) n.toNat:Int),true):=by unfold Plain.findL;rw[if_pos ⟨hn,hm⟩];rfl
 have H1:=aa λW (h:aM W A c t)=>zw ht n W h;simp only[hz]at H1
 obtain ⟨f0,hf0⟩:∃f0,f0=Plain.posL t n:=⟨_,rfl⟩
 rw[<- hf0]at H1 hp1 hp2 ⊢;have HST:=aa (Plain.Rm.start hT hp1);obtain ⟨t0,ho1,ho2,ho3⟩:=Plain.other_free hT hp1 (by omega);have HO:=aa (⟨ho1,ho2,ho3⟩:1<=t0/\t0<t.length/\rd (t.set f0 (-1)) (((f0+t0) % t.length:Nat):Int)=-1);have H5:=aa λW (h:aM W A c t)=>kX.calls A c t t W h.1 h.2 (by unfold kX.f iw.f;rw[if_pos (by omega)];rfl)
 obtain ⟨cst,hcst⟩:∃cst,cst=(Plain.cost t.length f0 n.toNat:Int):=⟨_,rfl⟩
 rw[<- hcst]at H1
 obtain ⟨fz,hfz⟩:∃fz,fz=(f0:Int):=⟨_,rfl⟩
 rw[<- hfz]at H1;have HFZ:=aa hfz;have HP:=aa hp1;have HN2:=aa (⟨h2,h12⟩:2<=t.length/\t.length<=12)
 have hf00:0<=fz:=by omega
 have hf01:fz<(t.length:Int):=by omega
 replace hf00:=eq_true hf00;replace hf01:=eq_true hf01;have hcz:((w.alloc (.cells #[.slice A t.length c] 34)).alloc (.cells #[.slice none 0 0] 34)).cell? ⟨w.heap.size,0,none⟩=some (.slice A t.length c):=HT.out.c2;clear hL ht hT hm hn hp1 hp2 hz h2 h12 hf0 ho1 ho2 ho3 hcst hfz;go_enter Tryz.func156,Tryz.ntmps156
 go_wp2_with (go_at_call 157;go_loud (refine (H1.out _ (aM.below HL.out (Two.below fA))).mono ?_;rintro e w1 ⟨rfl,hb⟩;have HT1:=aa (Two.after (show Two w _ _ _ from fA) hb);clear HT hb;have HT:=HT1;clear HT1))
 have hc2:World.cell? _ ⟨w.heap.size,0,none⟩=some (.slice A t.length c):=Two.c2 HT.out;have HW1:=aa (show w.heap.size+2<=w1.heap.size from dC HT.out.b4)
 go_region_held3 (λW:World=>W.cell? ⟨w.heap.size,0,none⟩=some (.slice A t.length c)) (first|exact hc2|exact Two.c2 fA|exact Two.c2 (Three.set fA HK9.out HW1.out HV.out).two|exact Two.c2 (Three.set fA (bC _ _) (dC HT.out.b4) (Kd.R_alloc HV.out _)).two) (first
  | (go_at_call 54;go_loud (refine (H5.out _ (aM.below HL.out (Two.below fA))).mono ?_;rintro e w2 ⟨v,rfl,hv,hb⟩;obtain ⟨gv,cv,rfl,hgv0,hgv1,_⟩:=Kd.R_form hv (by have:=HN2.out;omega);have HGV:=aa (Nat.le_trans (ay (show Below w.heap.size w _ from Two.below fA)) hgv0);(try (have hkn:w2.heap[w1.heap.size]?=some (.cells #[.slice none 0 0] 34 (0,0)):=aI (bC w1.drew _) hb;have hcn:w2.cell? ⟨w1.heap.size,0,none⟩=some (.slice none 0 0):=ah hkn 0;have hfn:=au hkn 0;have HK9:=aa hkn;clear hkn));clear hgv0 hgv1;have HV:=aa (Kd.R_lower hv (ay (show Below w.heap.size w _ from Two.below fA)));have HT1:=aa (Two.after (show Two w _ _ _ from fA) hb);clear HT hb hv;have HT:=HT1;clear HT1)))
 all_goals
  first
   | (have H3:=aa (Three.set (show Two w _ _ w2 from HT.out) HK9.out HW1.out HV.out);clear hcn hfn HK9;generalize w2.setCell _ _=w3 at H3 ⊢;generalize w1.heap.size=g9 at H3 ⊢)
   | (have H3:=aa (Three.mk (HT.out.alloc (.cells #[.slice (some ⟨gv,0,none⟩) t.length cv] 34)) (bC w2 _) (dC HT.out.b4) (Kd.R_alloc HV.out _));generalize w2.alloc _=w3 at H3 ⊢;generalize w2.heap.size=g9 at H3 ⊢)
  clear HT HV HW1 H1 H5;have hc9:=H3.out.c9;obtain ⟨hxf,hff⟩:=Kd.R_celln 0 H3.out.row fz (by rw[hf00];trivial) (by rw[hf01];trivial);go_wp2;have H4:=aa (Three.put H3.out HGV.out fz.toNat (-1))
  have e4:t.set fz.toNat (-1)=t.set f0 (-1):=by rw[show fz.toNat=f0 by rw[HFZ.out];rfl]
  rw[e4]at H4;clear e4;have HL0:=aa (show (t.set f0 (-1)).length=t.length from List.length_set);have HRM:=aa (show Plain.remN (t.length - 1+1) (t.set f0 (-1)) f0 1=Plain.remL t f0 by unfold Plain.remL;rw[show t.length - 1+1=t.length by have:=HN2.out;omega]);have HLF:=aa (show ik (t.length - 1) (t.set f0 (-1)) f0 1 from ⟨t0,HO.out.1,by rw[HL0.out];exact HO.out.2.1,by rw[HL0.out];exact HO.out.2.2,by have:=HO.out.2.1;omega⟩)
  obtain ⟨res,hres⟩:∃res,res=Plain.remL t f0:=⟨_,rfl⟩
  rw[<- hres]at HRM;have HRS:=aa hres;clear H3 hc9 hxf hff HP HO hres
  go_loopg [6,11] (t.length - 1) (λkq v6 v11 w'=>∃ (f k:Nat) (fz kz:Int) (xs:List Int),v6=.int .i64 fz/\v11=.int .i64 kz/\ae (fz=(f:Int)/\kz=(k:Int))/\ae (Plain.Rm xs f k)/\ae (xs.length=t.length)/\ae (ik kq xs f k)/\ae (Plain.remN (kq+1) xs f k=res)/\ae (Three w (.slice A t.length c) (.slice none 0 0) g9 (.slice (some ⟨gv,0,none⟩) t.length cv) xs w'))
  case atStart=>exact ⟨f0,1,fz,1,_,rfl,rfl,⟨HFZ.out,rfl⟩,HST,HL0,HLF,HRM,H4⟩
  case round =>
   clear HST HL0 HLF HRM H4 HFZ hf00 hf01;obtain ⟨f,k,fz,kz,xs,rfl,rfl,NF,HR,HX,HF,HM,H3⟩:=hrel;have hlt:=HF.out.lt;obtain ⟨ha,hmod,hne⟩:=wN HR.out hlt;have hfc:=HR.out.cell;have h12:=HR.out.fit.len
   obtain ⟨a,hA⟩:∃a,a=(f+k) % xs.length:=⟨_,rfl⟩
   obtain ⟨az,hAZ⟩:∃az:Int,az=(a:Int):=⟨_,rfl⟩
   have hsum:wrap64 (fz+kz)=fz+kz:=by rw[NF.out.1,NF.out.2,wrap64_in _ (by omega) (by omega)]
   have hsum2:IntKind.i64.wrap (fz+kz)=fz+kz:=by rw[cO,hsum]
   have hrem:Int.tmod (fz+kz) (t.length:Int)=az:=by rw[NF.out.1,NF.out.2,<- HX.out,hmod,hAZ,hA]
   rw[<- hA]at ha hne
   have ha0:0<=az:=by omega
   have ha1:az<(t.length:Int):=by rw[<- HX.out];omega
   have hf0:0<=fz:=by have:=NF.out.1;omega
   have hf1:fz<(t.length:Int):=by rw[<- HX.out];have:=NF.out.1;omega
   have hn0:((t.length:Int) == 0)=false:=beq_eq_false_iff_ne.2 (by rw[<- HX.out];omega);have hn1:((t.length:Int) != 0)=true:=bne_iff_ne.2 (by rw[<- HX.out];omega)
   have hn2:¬ (t=[]):=λe=>by have:=HX.out;rw[e,List.length_nil]at this;omega
   obtain ⟨hxa,hfa⟩:=Kd.R_celln 0 H3.out.row az ha0 ha1;obtain ⟨hxf,hff⟩:=Kd.R_celln 0 H3.out.row fz hf0 hf1
   obtain ⟨x,hx⟩:∃x,x=dS 0 xs az:=⟨_,rfl⟩
   have HXV:=aa (show x=rd xs (((f+k) % xs.length:Nat):Int) by rw[hx,hAZ,hA];rfl);rw[<- hx]at hxa;have hin:=HR.out.fit.inn a ha;have HXA:=aa (show x=rd xs (a:Int) by rw[HXV.out,hA]);rw[<- HXA.out]at hin;have hc9:=H3.out.c9;have HNE:=aa hne;have HAZ:=aa hAZ;have HA:=aa hA;have HLE:=aa (⟨hlt,hfc,h12,ha⟩:k<xs.length/\f<xs.length/\xs.length<=12/\a<xs.length);have HIN:=aa hin;clear hlt hmod hne hfc h12 hx hAZ hA ha hin;replace ha0:=eq_true ha0;replace ha1:=eq_true ha1;replace hf0:=eq_true hf0;replace hf1:=eq_true hf1
   by_cases hh:x=-1
   ·
    have q1:decide (x >= 0)=false:=decide_eq_false (by omega)
    have hres:res=xs:=by have h:=HM.out;rw[Plain.remN,if_pos (by rw[<- HXV.out];exact hh)]at h;exact h.symm
    have HRES:=aa hres;have hc4:=H3.out.two.c4;have hf4:=au H3.out.two.b4 0;clear hh hres;go_wp2
    go_big_region
    all_goals
     go_wp2
     refine bodyPost_ret (ni rfl _ _ (w.heap.size+1) 34 #[.slice (some ⟨gv,0,none⟩) t.length cv] (0,0) _ rfl (by first|exact dV (cs:=#[.slice none 0 0]) H3.out.two.b4 0 _ rfl|exact dV (cs:=#[.slice none 0 0]) (di H3.out.two.b4 _) 0 _ rfl) hu rfl (by kernel_rfl)) rfl ?_
     exact ⟨_,xs,rfl,by first|exact Kd.R_set H3.out.row H3.out.two.b4 (by decide) 0 _|exact Kd.R_set (Kd.R_drewN H3.out.row _) (di H3.out.two.b4 _) (by decide) 0 _,λm h=>by rw[<- Option.some.inj h,<- HRS.out,HRES.out],by first|exact bf H3.out.two.below (Nat.le_succ _)|exact bf (dD H3.out.two.below _) (Nat.le_succ _)|exact bf (dw H3.out.two.below) (Nat.le_succ _)⟩
   ·
    have q1:decide (x >= 0)=true:=decide_eq_true (by have:=HIN.out;omega)
    cases gk with
    | zero=>exact absurd (HXV.out.trans HF.out.zero) hh
    | succ d =>
     have HNX:=aa (show rd xs (((f+k) % xs.length:Nat):Int)≠-1 by rw[<- HXV.out];exact hh)
     obtain ⟨cN,hcN⟩:∃cN,cN=Plain.cost xs.length a x.toNat:=⟨_,rfl⟩
     obtain ⟨cz,hcz9⟩:∃cz:Int,cz=(cN:Int):=⟨_,rfl⟩
     have HC:ae (∀W,aM W (some ⟨gv,0,none⟩) cv xs->Calls Tryz.prog 97 #[.agg #[.slice (some ⟨gv,0,none⟩) t.length cv],.int .i64 az] W λe w'=>e=.returned (.int .i64 cz)/\Below W.heap.size W w'):=⟨λW h=>by
      have h5:=jO.calls (some ⟨gv,0,none⟩) cv xs az cz W h.1 h.2 (by rw[HAZ.out,Dq HR.out.fit HLE.out.2.2.2 (by rw[<- HXA.out];exact hh),<- HXA.out,<- hcN,<- hcz9])
      rwa [HX.out]at h5⟩
     have HMM:=aa (show (if k<=cN then Plain.remN (d+1) ((xs.set f x).set a (-1)) a 1 else Plain.remN (d+1) xs f (k+1))=res by
      have h:=HM.out;rw[Plain.remN,if_neg HNX.out,<- HXV.out,<- HA.out,<- hcN]at h
      exact h)
     have HCN:=aa (show cN=Plain.cost xs.length ((f+k) % xs.length) (rd xs (((f+k) % xs.length:Nat):Int)).toNat by rw[hcN,<- HXV.out,<- HA.out]);clear hcN HM hh
     by_cases hk:k<=cN
     ·
      have q2:decide (cz >= kz)=true:=decide_eq_true (by have:=NF.out.2;omega)
      have HR1:=aa (show Plain.Rm ((xs.set f x).set a (-1)) a 1 by
       have h:=HR.out.move HLE.out.1 HNX.out (by rw[<- HCN.out];exact hk)
       rwa [<- HXV.out,<- HA.out]at h)
      have HF1:=aa (show ik d ((xs.set f x).set a (-1)) a 1 by
       have h:=ik.move HR.out HF.out HNX.out
       rwa [<- HXV.out,<- HA.out]at h)
      rw[if_pos hk]at HMM;have HX1:=aa (show ((xs.set f x).set a (-1)).length=t.length by simp[HX.out])
      have hne1:¬ (fz.toNat=az.toNat):=by rw[HAZ.out,NF.out.1];exact λe=>HNE.out (by simpa using e.symm)
      have hne2:¬ (az.toNat=fz.toNat):=λe=>hne1 e.symm;clear hk hcz9;go_wp2
      go_big_region
      all_goals
       go_wp2_with (go_at_call 97;go_loud (refine (HC.out _ (Three.reads (show Three w _ _ g9 _ xs _ from rG))).mono ?_;rintro e w4 ⟨rfl,hb⟩;have H5:=aa (Three.after (show Three w _ _ g9 _ xs _ from rG) hb);clear H3 hb;have H3:=H5;clear H5 hc9 hxa hfa hxf hff;have hc9:=H3.out.c9))
       obtain ⟨hxa,hfa⟩:=Kd.R_celln 0 H3.out.row az (by rw[ha0];trivial) (by rw[ha1];trivial);rw[show dS 0 xs az=x by rw[HXA.out,HAZ.out];rfl]at hxa;obtain ⟨hxf,hff⟩:=Kd.R_celln 0 H3.out.row fz (by rw[hf0];trivial) (by rw[hf1];trivial);refine jf (n:=15) (S:=λW=>W.cell? ⟨g9,0,none⟩=some (.slice (some ⟨gv,0,none⟩) t.length cv)/\W.cell? ⟨gv,az.toNat,none⟩=some (.int .i64 x)) (ds:=[14]) (fe 15 0) (by kernel_rfl) rfl (by kernel_rfl) ⟨H3.out.drew.c9,hxa⟩ (λhHeld=>?_);refine j5 Ia Ff (λHT_ HW_=>?_);have H6:=aa H3.out.drew;clear H3 hc9 hxa hfa hxf hff
       generalize w4.drew=w5 at H6 hHeld ⊢
       obtain ⟨hxf,hff⟩:=Kd.R_celln 0 H6.out.row fz (by rw[hf0];trivial) (by rw[hf1];trivial)
       refine aK 0 54 15 1 ?_
       refine aK 2 56 15 5 ?_
       refine aK 3 57 15 13 ?_
       refine aK 5 59 15 45 ?_
       refine aK 6 60 15 109 ?_
       refine aK 8 62 15 365 ?_
       refine il 1 55 15 367 ?_
       refine il 4 58 15 383 ?_
       refine il 7 61 15 511 ?_
       refine aK 9 63 15 1023 ?_
       refine il 10 64 15 2047 ?_
       refine aK 11 65 15 4095 ?_
       refine fV 12 none 15 8191 λK hK=>?_
       refine qi (w1:=?_) (by rfl) rfl ?_ ?_
       rotate_left
       ·
        go_simp
        rfl
       have H7:=aa (Three.put H6.out HGV.out fz.toNat x);have HS7:=aa (show rd (xs.set fz.toNat x) az=x by rw[HAZ.out,Plain.rd_set_ne _ (λe=>HNE.out (by rw[e,NF.out.1];rfl)),<- HXA.out]);clear hxf hff H6 hHeld
       generalize w5.setCell _ _=w6 at H7 ⊢
       obtain ⟨hxa,hfa⟩:=Kd.R_celln 0 H7.out.row az (by rw[ha0];trivial) (by rw[ha1];trivial);refine hK.out _ _ ⟨H7.out.c9,hxa.trans (by rw[show dS 0 (xs.set fz.toNat x) az=x from HS7.out])⟩ (λhHeld=>?_);clear hK K
       refine aK 13 66 15 16383 ?_
       refine rH 14 none 15 32767 λK hK=>?_
       refine qi (w1:=?_) (by rfl) rfl ?_ ?_
       rotate_left
       ·
        go_simp
        rfl
       refine hK.out _ _ ?_
       clear hK K
       refine iQ (jm HT_.out (by kernel_rfl)) ?_
       go_wp2;have H8:=aa (Three.put H7.out HGV.out az.toNat (-1))
       have e7:(xs.set fz.toNat x).set az.toNat (-1)=(xs.set f x).set a (-1):=by rw[show fz.toNat=f by rw[NF.out.1];rfl,show az.toNat=a by rw[HAZ.out];rfl]
       rw[e7]at H8;clear e7
       go_roundg d
       case measure=>omega
       case rel=>exact ⟨a,1,az,_,_,rfl,rfl,⟨HAZ.out,rfl⟩,HR1,HX1,HF1,HMM,H8⟩
     ·
      have q2:decide (cz >= kz)=false:=decide_eq_false (by have:=NF.out.2;omega);have HR1:=aa (show Plain.Rm xs f (k+1) from HR.out.stay HNX.out (by rw[<- HCN.out];exact hk));have HF1:=aa (show ik d xs f (k+1) from HF.out.stay HNX.out);rw[if_neg hk]at HMM;have HKZ:=aa (show wrap64 (kz+1)=((k+1:Nat):Int) by rw[NF.out.2];have:=HLE.out;rw[wrap64_in _ (by omega) (by omega)];omega);clear hk hcz9;go_wp2
      go_big_region
      all_goals
       go_wp2_with (go_at_call 97;go_loud (refine (HC.out _ (Three.reads (show Three w _ _ g9 _ xs _ from rG))).mono ?_;rintro e w4 ⟨rfl,hb⟩;have H5:=aa (Three.after (show Three w _ _ g9 _ xs _ from rG) hb);clear H3 hb;have H3:=H5;clear H5))
       go_roundg d
       case measure=>omega
       case rel=>exact ⟨f,k+1,fz,_,xs,rfl,rfl,⟨NF.out.1,HKZ.out⟩,HR1,HX,HF1,HMM,H3⟩
theorem Be(ht:Plain.table t=true)(w:World)(hL:aM w A c t):Calls Tryz.prog 156 #[.agg #[.slice A t.length c],.int .i64 n] w (kP (Plain.remK t n) w):=by
 unfold Plain.remK
 by_cases h:(0<=n/\n<=999)/\n∈t
 ·
  rw[if_pos h];exact BU ht w hL h.1 h.2
 ·
  rw[if_neg h];exact DR ht w hL h
end
theorem Hm{N f k:Nat}(h2:2<=N)(h12:N<=12)(hf:f<N)(hk:k<N):Int.tmod (wrap64 ((wrap64 ((((f+k) % N:Nat):Int) - (f:Int)))+(N:Int))) (N:Int)=(k:Int):=by
 have h:=Plain.cost_eq (i:=(f+k) % N) (K:=f) (show 0<N by omega) h12 (Nat.mod_lt _ (by omega));rw[Plain.tmod_nat,Nat.mod_eq_of_lt hf,Plain.cost_at hk]at h;exact h
section
variable {A:Option Addr} {c:Nat} {t:List Int} {n:Int}
theorem xu(ht:Plain.table t=true)(w:World)(hL:aM w A c t):Calls Tryz.prog 72 #[.agg #[.slice A t.length c]] w (tC true w):=by
 have h12:=((Plain.table_iff t).1 ht).fit.len;obtain ⟨k,hk⟩:=Plain.prGood_ev t (by omega);rw[ht]at hk;exact (cZ.calls k A c t true w hL.1 hL.2 (hk k (Nat.le_refl _))).mono λe w' h=>h
theorem x_(n:Int)(w:World):Calls Tryz.prog 183 #[.int .i64 n] w (tC (decide (0<=n/\n<=999)) w) :=
 (kr.calls n (decide (0<=n/\n<=999)) w (by unfold kr.f;rw[Plain.l1In_eq];rfl)).mono λe w' h=>⟨h.1,h.2.below⟩
theorem wE(hl:t.length<=1000)(n:Int)(w:World)(hL:aM w A c t):Calls Tryz.prog 186 #[.agg #[.slice A t.length c],.int .i64 n] w λe w'=>e=.returned (.int .i64 (if n∈t then (Plain.posL t n:Int)else -1))/\Below w.heap.size w w':=by
 obtain ⟨k,hk⟩:=Plain.place_ev t n hl;exact iB.calls k A c t n _ w hL.1 hL.2 (hk k (Nat.le_refl _))
theorem Ea(ht:Plain.table t=true)(w:World)(hL:aM w A c t)(ho:¬ ((0<=n/\n<=999)/\n∈t)) :
  Calls Tryz.prog 125 #[.agg #[.slice A t.length c],.int .i64 n] w (kP none w):=by
 have hu:=Tryz.underlying34;have h12:=((Plain.table_iff t).1 ht).fit.len;have HL:=aa hL;have HT:=aa (Two.start w (.slice A t.length c) (.slice none 0 0));have H1:=aa λW (h:aM W A c t)=>xu ht W h;have H2:=aa (x_ n);have H3:=aa λW (h:aM W A c t)=>wE (show t.length<=1000 by omega) n W h
 obtain ⟨q1,hq1⟩:∃q1,q1=decide (0<=n/\n<=999):=⟨_,rfl⟩
 obtain ⟨z,hz⟩:∃z:Int,z=if n∈t then (Plain.posL t n:Int)else -1:=⟨_,rfl⟩
 rw[<- hq1]at H2;rw[<- hz]at H3
 have hcase:q1=false\/(q1=true/\z=-1):=by
  by_cases a1:0<=n/\n<=999
  ·
   by_cases a2:n∈t
   · exact absurd ⟨a1,a2⟩ ho
   · exact .inr ⟨by rw[hq1];exact decide_eq_true a1,by rw[hz,if_neg a2]⟩
  · exact .inl (by rw[hq1];exact decide_eq_false a1)
 have hcz:((w.alloc (.cells #[.slice A t.length c] 34)).alloc (.cells #[.slice none 0 0] 34)).cell? ⟨w.heap.size,0,none⟩=some (.slice A t.length c):=HT.out.c2;clear hL ht ho hz hq1 h12
 rcases hcase with rfl|⟨rfl,rfl⟩
 all_goals
  go_enter Tryz.func125,Tryz.ntmps125
  go_wp2_with (first
   | (go_at_call 72;go_loud (refine (H1.out _ (aM.below HL.out (Two.below fA))).mono ?_;rintro e w1 ⟨rfl,hb⟩;have HT1:=aa (Two.after (show Two w _ _ _ from fA) hb);clear HT hb hcz;have HT:=HT1;clear HT1;have hcz:=HT.out.c2))
   | (go_at_call 183;go_loud (refine (H2.out _).mono ?_;rintro e w2 ⟨rfl,hb⟩;have HT1:=aa (Two.after (show Two w _ _ _ from fA) hb);clear HT hb hcz;have HT:=HT1;clear HT1;have hcz:=HT.out.c2;have hc4:World.cell? _ ⟨w.heap.size+1,0,none⟩=some (.slice none 0 0):=Two.c4 HT.out;have hf4:World.frozen? _ ⟨w.heap.size+1,0,none⟩=false:=au HT.out.b4 0))
   | (go_at_call 186;go_loud (refine (H3.out _ (aM.below HL.out (Two.below fA))).mono ?_;rintro e w3 ⟨rfl,hb⟩;have HT1:=aa (Two.after (show Two w _ _ _ from fA) hb);clear HT hb hcz hc4 hf4;have HT:=HT1;clear HT1;have hcz:=HT.out.c2;have hc4:World.cell? _ ⟨w.heap.size+1,0,none⟩=some (.slice none 0 0):=Two.c4 HT.out;have hf4:World.frozen? _ ⟨w.heap.size+1,0,none⟩=false:=au HT.out.b4 0)))
  refine bodyPost_ret (ni rfl _ _ (w.heap.size+1) 34 #[.slice none 0 0] (0,0) _ rfl (by first|exact dV (cs:=#[.slice none 0 0]) HT.out.b4 0 _ rfl|exact dV (cs:=#[.slice none 0 0]) (di HT.out.b4 _) 0 _ rfl) hu rfl (by kernel_rfl)) rfl ?_
  exact ⟨_,[],rfl,Kd.R_nil _ _ _ _ _,λm h=>(by cases h),bf (Two.below fA) (Nat.le_succ _)⟩
theorem B_(ht:Plain.table t=true)(w:World)(hL:aM w A c t)(hn:0<=n/\n<=999)(hm:n∈t) :
  Calls Tryz.prog 125 #[.agg #[.slice A t.length c],.int .i64 n] w (kP (some (Plain.remL t (Plain.posL t n))) w):=by
 have hu:=Tryz.underlying34;have hT:=(Plain.table_iff t).1 ht;have h2:=hT.fit.two;have h12:=hT.fit.len;have HL:=aa hL;have HT:=aa (Two.start w (.slice A t.length c) (.slice none 0 0));obtain ⟨hp1,hp2⟩:=Plain.posL_ok hm;have H1:=aa λW (h:aM W A c t)=>xu ht W h;have H2:=aa (x_ n);have H3:=aa λW (h:aM W A c t)=>wE (show t.length<=1000 by omega) n W h;rw[decide_eq_true hn]at H2;rw[if_pos hm]at H3
 obtain ⟨f0,hf0⟩:∃f0,f0=Plain.posL t n:=⟨_,rfl⟩
 rw[<- hf0]at H3 hp1 hp2 ⊢;have HST:=aa (Plain.Rm.start hT hp1);obtain ⟨t0,ho1,ho2,ho3⟩:=Plain.other_free hT hp1 (by omega);have HO:=aa (⟨ho1,ho2,ho3⟩:1<=t0/\t0<t.length/\rd (t.set f0 (-1)) (((f0+t0) % t.length:Nat):Int)=-1);have H5:=aa λW (h:aM W A c t)=>fH.calls A c t t W h.1 h.2 (Plain.own_eq t (by omega))
 obtain ⟨fz,hfz⟩:∃fz,fz=(f0:Int):=⟨_,rfl⟩
 rw[<- hfz]at H3;have HFZ:=aa hfz;have HP:=aa hp1;have HN2:=aa (⟨h2,h12⟩:2<=t.length/\t.length<=12)
 have hf00:0<=fz:=by omega
 have hf01:fz<(t.length:Int):=by omega
 have qz:decide (fz<0)=false:=decide_eq_false (by omega)
 obtain ⟨az0,haz0⟩:∃az0:Int,az0=(((f0+1) % t.length:Nat):Int):=⟨_,rfl⟩
 have hw1:wrap64 (fz+1)=fz+1:=wrap64_in _ (by omega) (by omega)
 have hw2:IntKind.i64.wrap (fz+1)=fz+1:=by rw[cO,hw1]
 have hm1:Int.tmod (fz+1) (t.length:Int)=az0:=by rw[hfz,haz0,show (f0:Int)+1=((f0+1:Nat):Int) by omega,Plain.tmod_nat]
 have hn0:((t.length:Int) == 0)=false:=beq_eq_false_iff_ne.2 (by omega);have hn1:((t.length:Int) != 0)=true:=bne_iff_ne.2 (by omega)
 have hn2:¬ (t=[]):=λe=>by rw[e,List.length_nil]at h2;omega
 have HAZ0:=aa haz0;replace hf00:=eq_true hf00;replace hf01:=eq_true hf01;have hcz:((w.alloc (.cells #[.slice A t.length c] 34)).alloc (.cells #[.slice none 0 0] 34)).cell? ⟨w.heap.size,0,none⟩=some (.slice A t.length c):=HT.out.c2;clear hL ht hT hm hn hp1 hp2 h2 h12 hf0 ho1 ho2 ho3 hfz haz0;go_enter Tryz.func125,Tryz.ntmps125
 go_wp2_with (first
  | (go_at_call 72;go_loud (refine (H1.out _ (aM.below HL.out (Two.below fA))).mono ?_;rintro e w1 ⟨rfl,hb⟩;have HT1:=aa (Two.after (show Two w _ _ _ from fA) hb);clear HT hb hcz;have HT:=HT1;clear HT1;have hcz:=HT.out.c2))
  | (go_at_call 183;go_loud (refine (H2.out _).mono ?_;rintro e w2 ⟨rfl,hb⟩;have HT1:=aa (Two.after (show Two w _ _ _ from fA) hb);clear HT hb hcz;have HT:=HT1;clear HT1;have hcz:=HT.out.c2))
  | (go_at_call 70;go_loud (refine (H5.out _ (aM.below HL.out (Two.below fA))).mono ?_;rintro e w4 ⟨v,rfl,hv,hb⟩;obtain ⟨gv,cv,rfl,hgv0,hgv1,_⟩:=Kd.R_form hv (by have:=HN2.out;omega);have HGV:=aa (Nat.le_trans (ay (show Below w.heap.size w _ from Two.below fA)) hgv0);have HV:=aa (Kd.R_lower hv (ay (show Below w.heap.size w _ from Two.below fA)));have HT1:=aa (Two.after (show Two w _ _ _ from fA) hb);clear HT hb hv hgv0 hgv1 hcz;have HT:=HT1;clear HT1;have H9:=aa (Three.mk (HT.out.alloc (.cells #[.slice (some ⟨gv,0,none⟩) t.length cv] 34)) (bC w4 _) (dC HT.out.b4) (Kd.R_alloc HV.out _));have HT:=HT;have hcz:=(HT.out.alloc (.cells #[.slice (some ⟨gv,0,none⟩) t.length cv] 34)).c2))
  | (go_at_call 186;first
    | (refine (H3.out _ (aM.below HL.out (Two.below (Three.two H9.out)))).mono ?_;rintro e w5 ⟨rfl,hb⟩;have H10:=aa (Three.after H9.out hb);clear H9 hb hcz;have hcz:=H10.out.two.c2;have hc9:=H10.out.c9;obtain ⟨hxf,hff⟩:=Kd.R_celln 0 H10.out.row fz (by rw[hf00];trivial) (by rw[hf01];trivial))
    | (refine (H3.out _ (aM.below HL.out (Two.below fA))).mono ?_;rintro e w3 ⟨rfl,hb⟩;have HT1:=aa (Two.after (show Two w _ _ _ from fA) hb);clear HT hb hcz;have HT:=HT1;clear HT1;have hcz:=HT.out.c2)))
 have H4:=aa (Three.put H10.out HGV.out fz.toNat (-1))
 have e4:t.set fz.toNat (-1)=t.set f0 (-1):=by rw[show fz.toNat=f0 by rw[HFZ.out];rfl]
 rw[e4]at H4;clear e4;have HL0:=aa (show (t.set f0 (-1)).length=t.length from List.length_set);have HRM:=aa (show Plain.remN (t.length - 1+1) (t.set f0 (-1)) f0 1=Plain.remL t f0 by unfold Plain.remL;rw[show t.length - 1+1=t.length by have:=HN2.out;omega]);have HLF:=aa (show ik (t.length - 1) (t.set f0 (-1)) f0 1 from ⟨t0,HO.out.1,by rw[HL0.out];exact HO.out.2.1,by rw[HL0.out];exact HO.out.2.2,by have:=HO.out.2.1;omega⟩)
 obtain ⟨res,hres⟩:∃res,res=Plain.remL t f0:=⟨_,rfl⟩
 rw[<- hres]at HRM;have HRS:=aa hres;have HAZ1:=aa (show az0=(((f0+1) % (t.set f0 (-1)).length:Nat):Int) by rw[HL0.out];exact HAZ0.out)
 generalize w4.heap.size=g9 at H4 ⊢
 clear H10 hc9 hxf hff HP HO hres hcz HT HV HAZ0 H1 H2 H3 H5
 go_loopg [8,9] (t.length - 1) (λkq v8 v9 w'=>∃ (f k:Nat) (fz az:Int) (xs:List Int),v8=.int .i64 fz/\v9=.int .i64 az/\ae (fz=(f:Int)/\az=(((f+k) % xs.length:Nat):Int))/\ae (Plain.Rm xs f k)/\ae (xs.length=t.length)/\ae (ik kq xs f k)/\ae (Plain.remN (kq+1) xs f k=res)/\ae (Three w (.slice A t.length c) (.slice none 0 0) g9 (.slice (some ⟨gv,0,none⟩) t.length cv) xs w'))
 case atStart=>exact ⟨f0,1,fz,az0,_,rfl,rfl,⟨HFZ.out,HAZ1.out⟩,HST,HL0,HLF,HRM,H4⟩
 case round =>
  clear HST HL0 HLF HRM H4 HFZ hf00 hf01 hw1 hw2 hm1 HAZ1 qz;obtain ⟨f,k,fz,az,xs,rfl,rfl,NF,HR,HX,HF,HM,H3⟩:=hrel;have hlt:=HF.out.lt;obtain ⟨ha,hmod,hne⟩:=wN HR.out hlt;have hfc:=HR.out.cell;have h12:=HR.out.fit.len;have h2:=HR.out.fit.two
  obtain ⟨a,hA⟩:∃a,a=(f+k) % xs.length:=⟨_,rfl⟩
  have hAZ:az=(a:Int):=by rw[NF.out.2,hA]
  obtain ⟨kz,hKZ⟩:∃kz:Int,kz=(k:Int):=⟨_,rfl⟩
  have hd0:Int.tmod (wrap64 ((wrap64 (az - fz))+(t.length:Int))) (t.length:Int)=kz:=by rw[NF.out.1,NF.out.2,<- HX.out,hKZ];exact Hm h2 h12 hfc hlt
  have hd1:Int.tmod (IntKind.i64.wrap ((IntKind.i64.wrap (az - fz))+(t.length:Int))) (t.length:Int)=kz:=by rw[cO,cO];exact hd0
  rw[<- hA]at ha hne
  obtain ⟨nz,hNZ⟩:∃nz:Int,nz=(((f+(k+1)) % xs.length:Nat):Int):=⟨_,rfl⟩
  have hs0:wrap64 (az+1)=az+1:=wrap64_in _ (by omega) (by omega)
  have hs1:IntKind.i64.wrap (az+1)=az+1:=by rw[cO,hs0]
  have hs2:Int.tmod (az+1) (t.length:Int)=nz:=by
   have h:=Plain.next_cell (K:=f) (c:=k) h2 h12;rw[<- NF.out.2,hs0,HX.out,<- Nat.add_assoc]at h;rw[h,hNZ,HX.out,<- Nat.add_assoc]
  have ha0:0<=az:=by omega
  have ha1:az<(t.length:Int):=by rw[<- HX.out];omega
  have hf0:0<=fz:=by have:=NF.out.1;omega
  have hf1:fz<(t.length:Int):=by rw[<- HX.out];have:=NF.out.1;omega
  obtain ⟨hxa,hfa⟩:=Kd.R_celln 0 H3.out.row az ha0 ha1;obtain ⟨hxf,hff⟩:=Kd.R_celln 0 H3.out.row fz hf0 hf1
  obtain ⟨x,hx⟩:∃x,x=dS 0 xs az:=⟨_,rfl⟩
  have HXV:=aa (show x=rd xs (((f+k) % xs.length:Nat):Int) by rw[hx,hAZ,hA];rfl);rw[<- hx]at hxa;have hin:=HR.out.fit.inn a ha;have HXA:=aa (show x=rd xs (a:Int) by rw[HXV.out,hA]);rw[<- HXA.out]at hin;have hc9:=H3.out.c9;have hg1:g9≠gv:=λe=>Kd.R_ne H3.out.row H3.out.b9 (by decide) (by rw[e];rfl);have hg2:gv≠g9:=λe=>hg1 e.symm;have HNE:=aa hne;have HAZ:=aa hAZ;have HA:=aa hA;have HLE:=aa (⟨hlt,hfc,h12,ha⟩:k<xs.length/\f<xs.length/\xs.length<=12/\a<xs.length);have HIN:=aa hin;have HK:=aa hKZ;have HNZ:=aa hNZ;clear hlt hmod hne hfc h12 h2 hx hAZ hA ha hin hKZ hNZ hs0 hd0;replace ha0:=eq_true ha0;replace ha1:=eq_true ha1;replace hf0:=eq_true hf0;replace hf1:=eq_true hf1
  by_cases hh:x=-1
  ·
   have q1:(x != -1)=false:=by rw[hh];decide
   have HRES:=aa (show res=xs by have h:=HM.out;rw[Plain.remN,if_pos (by rw[<- HXV.out];exact hh)]at h;exact h.symm);have hc4:=H3.out.two.c4;have hf4:=au H3.out.two.b4 0;clear hh;go_wp2
   refine bodyPost_ret (ni rfl _ _ (w.heap.size+1) 34 #[.slice (some ⟨gv,0,none⟩) t.length cv] (0,0) _ rfl (by first|exact dV (cs:=#[.slice none 0 0]) H3.out.two.b4 0 _ rfl|exact dV (cs:=#[.slice none 0 0]) (di H3.out.two.b4 _) 0 _ rfl) hu rfl (by kernel_rfl)) rfl ?_
   exact ⟨_,xs,rfl,by first|exact Kd.R_set H3.out.row H3.out.two.b4 (by decide) 0 _|exact Kd.R_set (Kd.R_drewN H3.out.row _) (di H3.out.two.b4 _) (by decide) 0 _,λm h=>by rw[<- Option.some.inj h,<- HRS.out,HRES.out],by first|exact bf H3.out.two.below (Nat.le_succ _)|exact bf (dD H3.out.two.below _) (Nat.le_succ _)|exact bf (dw H3.out.two.below) (Nat.le_succ _)⟩
  ·
   have q1:(x != -1)=true:=bne_iff_ne.2 hh
   cases gk with
   | zero=>exact absurd (HXV.out.trans HF.out.zero) hh
   | succ d =>
    have HNX:=aa (show rd xs (((f+k) % xs.length:Nat):Int)≠-1 by rw[<- HXV.out];exact hh)
    obtain ⟨cN,hcN⟩:∃cN,cN=Plain.cost xs.length a x.toNat:=⟨_,rfl⟩
    obtain ⟨cz,hcz9⟩:∃cz:Int,cz=(cN:Int):=⟨_,rfl⟩
    have HC:ae (∀W,Calls Tryz.prog 114 #[.int .i64 x,.int .i64 az,.int .i64 (t.length:Int)] W λe w'=>e=.returned (.int .i64 cz)/\bg W w'):=⟨λW=>jB.calls x az (t.length:Int) cz W (by
     have h2:=HR.out.fit.two;obtain ⟨K,hK⟩:=Int.eq_ofNat_of_zero_le (show 0<=x by have:=HIN.out;omega);unfold jB.f
     rw[if_neg (by rw[<- HX.out];omega),<- HX.out,HAZ.out,hcz9,hcN,hK,Int.toNat_natCast,Plain.cost_eq (by omega) HLE.out.2.2.1 HLE.out.2.2.2])⟩
    have HMM:=aa (show (if k<=cN then Plain.remN (d+1) ((xs.set f x).set a (-1)) a 1 else Plain.remN (d+1) xs f (k+1))=res by
     have h:=HM.out;rw[Plain.remN,if_neg HNX.out,<- HXV.out,<- HA.out,<- hcN]at h
     exact h)
    have HCN:=aa (show cN=Plain.cost xs.length ((f+k) % xs.length) (rd xs (((f+k) % xs.length:Nat):Int)).toNat by rw[hcN,<- HXV.out,<- HA.out]);clear hcN HM hh
    by_cases hk:k<=cN
    ·
     have q2:decide (cz >= kz)=true:=decide_eq_true (by have:=HK.out;omega)
     have HR1:=aa (show Plain.Rm ((xs.set f x).set a (-1)) a 1 by
      have h:=HR.out.move HLE.out.1 HNX.out (by rw[<- HCN.out];exact hk)
      rwa [<- HXV.out,<- HA.out]at h)
     have HF1:=aa (show ik d ((xs.set f x).set a (-1)) a 1 by
      have h:=ik.move HR.out HF.out HNX.out
      rwa [<- HXV.out,<- HA.out]at h)
     rw[if_pos hk]at HMM;have HX1:=aa (show ((xs.set f x).set a (-1)).length=t.length by simp[HX.out]);have HNZ1:=aa (show nz=(((a+1) % ((xs.set f x).set a (-1)).length:Nat):Int) by rw[HNZ.out,HX1.out,HA.out,<- HX.out,Plain.mod_add,Nat.add_assoc])
     have hne1:¬ (fz.toNat=az.toNat):=by rw[HAZ.out,NF.out.1];exact λe=>HNE.out (by simpa using e.symm)
     have hne2:¬ (az.toNat=fz.toNat):=λe=>hne1 e.symm;clear hk hcz9;go_wp2
     go_region_held3 (λW:World=>True) (trivial) (first
      | (go_at_call 114;go_loud (refine (HC.out _).mono ?_;rintro e w6 ⟨rfl,⟨nd,rfl⟩⟩)))
     all_goals
      go_wp2;have H7:=aa (Three.put (Three.put (H3.out.drewN (1+nd)) HGV.out fz.toNat x) HGV.out az.toNat (-1))
      have e7:(xs.set fz.toNat x).set az.toNat (-1)=(xs.set f x).set a (-1):=by rw[show fz.toNat=f by rw[NF.out.1];rfl,show az.toNat=a by rw[HAZ.out];rfl]
      rw[e7]at H7;clear e7
      go_roundg d
      case measure=>omega
      case rel=>exact ⟨a,1,az,nz,_,rfl,rfl,⟨HAZ.out,HNZ1.out⟩,HR1,HX1,HF1,HMM,H7⟩
    ·
     have q2:decide (cz >= kz)=false:=decide_eq_false (by have:=HK.out;omega);have HR1:=aa (show Plain.Rm xs f (k+1) from HR.out.stay HNX.out (by rw[<- HCN.out];exact hk));have HF1:=aa (show ik d xs f (k+1) from HF.out.stay HNX.out);rw[if_neg hk]at HMM;clear hk hcz9;go_wp2
     go_region_held3 (λW:World=>True) (trivial) (first
      | (go_at_call 114;go_loud (refine (HC.out _).mono ?_;rintro e w6 ⟨rfl,⟨nd,rfl⟩⟩)))
     all_goals
      go_wp2
      go_roundg d
      case measure=>omega
      case rel=>exact ⟨f,k+1,fz,nz,xs,rfl,rfl,⟨NF.out.1,HNZ.out⟩,HR1,HX,HF1,HMM,⟨H3.out.drewN (1+nd)⟩⟩
theorem Ga(ht:Plain.table t=true)(w:World)(hL:aM w A c t):Calls Tryz.prog 125 #[.agg #[.slice A t.length c],.int .i64 n] w (kP (Plain.remK t n) w):=by
 unfold Plain.remK
 by_cases h:(0<=n/\n<=999)/\n∈t
 ·
  rw[if_pos h];exact B_ ht w hL h.1 h.2
 ·
  rw[if_neg h];exact Ea ht w hL h
end
end Go.Proofs.YtjdlhefjgceabaaGreatDoor.Hand

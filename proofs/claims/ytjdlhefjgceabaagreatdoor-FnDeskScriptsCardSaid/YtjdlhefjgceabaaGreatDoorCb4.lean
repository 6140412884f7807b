/- The reference's console: the line in memory, and what it asks. Conditions: numbers that are not negative. -/
import Derived.Test.YtjdlhefjgceabaaGreatDoorCa4
set_option linter.unusedVariables false
set_option linter.unusedSimpArgs false
namespace Go.Proofs.YtjdlhefjgceabaaGreatDoor.Hand
open Go.RowKit YtjdlhefjgceabaaGreatDoorW.PrintWords YtjdlhefjgceabaaGreatDoorW.PrintLast YtjdlhefjgceabaaGreatDoorW.PrintMore
set_option maxRecDepth 100000
set_option maxHeartbeats 1000000
structure Pos (F:aN):Prop where
 cars:∀l,F.park l=true->∀x∈F.cars l,0<=x
 far:∀l,F.park l=true->∀x∈F.far l,0<=x
 cuts:∀l,F.park l=true->∀x∈F.cuts l,0<=x
 cls:∀l m,F.cls l=some m->∀x∈m,0<=x
 rank:∀l,F.park l=true->0<=F.rank l
 count:∀n m,F.count n=some m->0<=m
 back:∀n m,F.back n=some m->0<=m
 cost:∀t,F.tab t=true->0<=F.cost t
 ins:∀t n t' a,F.tab t=true->F.ins t n=some (t',a)->0<=a
def qQ(l:List Int)(w:World)(e:Ending)(w':World):Prop:=∃v,e=.returned v/\Kd.R (Kd.int .i64) 3 w' w.heap.size (λ_=>True) v l/\Below w.heap.size w w'
def mh(r:ByteArray)(w:World)(e:Ending)(w':World):Prop:=e=.returned (.string r)/\Below w.heap.size w w'
def bV(s:ByteArray):ByteArray :=
 if s.toList=[110,101,120,116]\/s.toList=[99,97,114,115]\/s.toList=[102,97,114]\/s.toList=[99,117,116,115]\/s.toList=[114,97,110,107]\/s.toList=[116,97,98,108,101]\/s.toList=[99,111,115,116]\/s.toList=[108,105,115,116] then ⟨#[]⟩ else
 if s.toList=[99,111,117,110,116]\/s.toList=[98,97,99,107]\/s.toList=[110,101,119]\/s.toList=[112,117,116]\/s.toList=[100,114,111,112]\/s.toList=[102,105,110,100] then ⟨#[110]⟩ else
 if s.toList=[97,116] then ⟨#[110,110]⟩ else
 if s.toList=[116,97,107,101]\/s.toList=[106,111,105,110]\/s.toList=[99,108,97,115,115] then ⟨#[108]⟩else ⟨#[63]⟩
def mY(s:ByteArray):Int:=(bT s).getD (-1)
structure iK (F:aN):Prop where
 split32:∀s w,s.size<=2000000->Calls Tryz.prog 48 #[.string s,.int .u8 32] w λe w'=>∃v,e=.returned v/\Kd.R Kd.string 9 w' w.heap.size (λ_=>True) v (pieces s 32)/\Below w.heap.size w w'
 split10:∀s w,s.size<=2000000->Calls Tryz.prog 48 #[.string s,.int .u8 10] w λe w'=>∃v,e=.returned v/\Kd.R Kd.string 9 w' w.heap.size (λ_=>True) v (pieces s 10)/\Below w.heap.size w w'
 shape:∀s w,Calls Tryz.prog 115 #[.string s] w (mh (bV s) w)
 read:∀s w,s.size<=2000000->Calls Tryz.prog 116 #[.string s] w λe w'=>e=.returned (.int .i64 (mY s))/\Below w.heap.size w w'
 parse:∀s w,s.size<=3000->Calls Tryz.prog 117 #[.string s] w (jo (told s) w)
 park:∀A c l w,aM w A c l->fG l->Calls Tryz.prog 71 #[.slice A l.length c] w λe w'=>e=.returned (.bool (F.park l))/\Below w.heap.size w w'
 next:∀A c l w,aM w A c l->F.park l=true->Calls Tryz.prog 119 #[.slice A l.length c] w (jo (F.next l) w)
 at_:∀n r w,0<=n->n<=999999->0<=r->r<=999999->Calls Tryz.prog 120 #[.int .i64 n,.int .i64 r] w (jo (F.at_ n r) w)
 join:∀A c l A' c' m w,aM w A c l->aM w A' c' m->F.park l=true->fG m->Calls Tryz.prog 121 #[.slice A l.length c,.slice A' m.length c'] w (jo (F.join l m) w)
 empty:∀n w,0<=n->n<=999999->Calls Tryz.prog 122 #[.int .i64 n] w (kP (F.empty n) w)
 ins:∀A c t n w,aM w A c t->F.tab t=true->0<=n->n<=999999->Calls Tryz.prog 124 #[.agg #[.slice A t.length c],.int .i64 n] w (tQ (F.ins t n) w)
 rem:∀A c t n w,aM w A c t->F.tab t=true->0<=n->n<=999999->Calls Tryz.prog 125 #[.agg #[.slice A t.length c],.int .i64 n] w (kP (F.rem t n) w)
 num:∀n w,0<=n->bJ n->Calls Tryz.prog 86 #[.int .i64 n] w (mh (bL n) w)
 text:∀A c l w,aM w A c l->fG l->(∀x∈l,0<=x)->Calls Tryz.prog 89 #[.slice A l.length c] w (mh (fO l) w)
 cars:∀A c l w,aM w A c l->F.park l=true->Calls Tryz.prog 126 #[.slice A l.length c,.int .i64 (l.length:Int)] w (qQ (F.cars l) w)
 far:∀A c l w,aM w A c l->F.park l=true->Calls Tryz.prog 127 #[.slice A l.length c,.int .i64 (l.length:Int)] w (qQ (F.far l) w)
 cuts:∀A c l w,aM w A c l->F.park l=true->Calls Tryz.prog 128 #[.slice A l.length c] w (qQ (F.cuts l) w)
 rank:∀A c l w,aM w A c l->F.park l=true->Calls Tryz.prog 130 #[.slice A l.length c] w (kg (some (F.rank l)) w)
 count:∀n w,0<=n->n<=999999->Calls Tryz.prog 131 #[.int .i64 n] w (kg (F.count n) w)
 back:∀n w,0<=n->n<=999999->Calls Tryz.prog 134 #[.int .i64 3,.int .i64 n] w (kg (F.back n) w)
 cls:∀A c l w,aM w A c l->fG l->Calls Tryz.prog 132 #[.slice A l.length c] w (uF (F.cls l) w)
 cost:∀A c t w,aM w A c t->F.tab t=true->Calls Tryz.prog 136 #[.agg #[.slice A t.length c]] w (kg (some (F.cost t)) w)
 find:∀A c t n w,aM w A c t->F.tab t=true->0<=n->n<=999999->Calls Tryz.prog 137 #[.agg #[.slice A t.length c],.int .i64 n] w (uO (F.find t n) w)
 table:∀A c t w,aM w A c t->F.tab t=true->Calls Tryz.prog 135 #[.agg #[.slice A t.length c]] w (mh (mO t) w)
structure jH (w:World) (B g:Nat) (l t m n:List Int):Prop where
 lo:B<=g
 rows:∃v0 v1 v2 v3,w.heap[g]?=some (.cells #[v0,v1,v2,v3] 87 (0,0))/\Kd.R (Kd.int .i64) 3 w B (λ_=>True) v0 l/\Kd.R (Kd.int .i64) 3 w B (λ_=>True) v1 t/\Kd.R (Kd.int .i64) 3 w B (λ_=>True) v2 m/\Kd.R (Kd.int .i64) 3 w B (λ_=>True) v3 n/\gZ v0 v1/\gZ v2 v1
theorem jH.below{w w':World}{B g:Nat}{l t m n:List Int}(h:jH w B g l t m n)(hb:Below w.heap.size w w'):jH w' B g l t m n:=by
 obtain ⟨h0,v0,v1,v2,v3,h1,h2,h3,h4,h5,h6⟩:=h;exact ⟨h0,v0,v1,v2,v3,aI h1 hb,Kd.R_below h2 hb,Kd.R_below h3 hb,Kd.R_below h4 hb,Kd.R_below h5 hb,h6⟩
theorem jH.open_{w:World}{B g:Nat}{l t m n:List Int}(h:jH w B g l t m n):∃A c A' c' A2 c2 A3 c3,ae (aM w A c l)/\ae (aM w A' c' t)/\ae (aM w A2 c2 m)/\ae (aM w A3 c3 n)/\w.cell? ⟨g,0,none⟩=some (.slice A l.length c)/\w.cell? ⟨g,1,none⟩=some (.slice A' t.length c')/\w.cell? ⟨g,2,none⟩=some (.slice A2 m.length c2)/\w.cell? ⟨g,3,none⟩=some (.slice A3 n.length c3):=by
 obtain ⟨_,v0,v1,v2,v3,h1,h2,h3,h4,h5,_,_⟩:=h;obtain ⟨A,c,rfl,p0,q0⟩:=Kd.R_reads h2;obtain ⟨A',c',rfl,p1,q1⟩:=Kd.R_reads h3;obtain ⟨A2,c2,rfl,p2,q2⟩:=Kd.R_reads h4;obtain ⟨A3,c3,rfl,p3,q3⟩:=Kd.R_reads h5;exact ⟨A,c,A',c',A2,c2,A3,c3,⟨q0,p0⟩,⟨q1,p1⟩,⟨q2,p2⟩,⟨q3,p3⟩,(ah h1 0).trans rfl,(ah h1 1).trans rfl,(ah h1 2).trans rfl,(ah h1 3).trans rfl⟩
def eY(B g:Nat)(x:gF)(m n:List Int)(w:World)(e:Ending)(w':World):Prop:=e=.returned (.string x.r)/\jH w' B g x.l x.t m n/\w.grownBy w' (some g)
theorem lS{B g:Nat}{x:gF}{m n:List Int}{w w1 w2:World}{e:Ending}(hb:Below w.heap.size w w1)(h:eY B g x m n w1 e w2):eY B g x m n w e w2:=⟨h.1,h.2.1,mR (ku hb _) h.2.2⟩
theorem um(o:Option (List Int)){v:Value}{B g:Nat}{l l' t m n:List Int}{w0 w:World}(hd:jH w0 B g l t m n)(hb:Below w0.heap.size w0 w)(hB0:B<=w0.heap.size)(hv:Kd.R (Kd.int .i64) 3 w w0.heap.size (λ_=>True) v l')(ho:∀m,o=some m->l'=m) :
  Calls Tryz.prog 118 #[.pointer (some ⟨g,0,none⟩),v,.bool o.isSome] w (eY B g (fw l t o) m n w):=by
 cases o with
 | none =>
  have HD:=aa (hd.below hb);clear hd hb hv ho;go_enter Tryz.func118,Tryz.ntmps118;go_wp2;go_ret;exact ⟨rfl,HD.out,World.grownBy.refl _ _⟩
 | some p =>
  obtain rfl:=ho p rfl;obtain ⟨hB,v0,v1,v2,v3,h1,h2,h3,h4,h5,h6⟩:=hd;obtain ⟨h6,h7⟩:=h6;have hne:=l7 hv h3;replace h1:=aI h1 hb;replace h3:=Kd.R_below h3 hb;replace h4:=Kd.R_below h4 hb;replace h5:=Kd.R_below h5 hb;obtain ⟨A,c,rfl⟩:=Kd.R_slice hv
  have HR:=aa (show jH (w.setCell ⟨g,0,none⟩ (.slice A l'.length c)) B g l' t m n from
   ⟨hB,.slice A l'.length c,v1,v2,v3,dV h1 0 _ rfl,Kd.R_set (Kd.R_lower hv hB0) h1 (by decide) _ _,Kd.R_set h3 h1 (by decide) _ _,Kd.R_set h4 h1 (by decide) _ _,Kd.R_set h5 h1 (by decide) _ _,hne,h7⟩)
  have hc:w.cell? ⟨g,0,none⟩=some v0:=(ah h1 0).trans rfl;have hf:=au h1 0;clear h1 h2 h3 h4 h5 h6 h7 hv hB hb hB0 hne;go_enter Tryz.func118,Tryz.ntmps118;go_wp2;go_ret;exact ⟨rfl,HR.out,qw _ _ _⟩
def keepR(l t:List Int)(r:ByteArray):Option (List Int)->gF
 | some t'=>⟨l,t',r⟩
 | none=>⟨l,t,iI⟩
theorem oh(o:Option (List Int))(r:ByteArray){v:Value}{B g:Nat}{l t t' m n:List Int}{w0 w:World}(hd:jH w0 B g l t m n)(hb0:Below w0.heap.size w0 w)(hB0:B<=w0.heap.size)(hv:Kd.R (Kd.int .i64) 3 w w0.heap.size (λ_=>True) v t')(ho:∀m,o=some m->t'=m) :
  Calls Tryz.prog 123 #[.pointer (some ⟨g,0,none⟩),.agg #[v],.bool o.isSome,.string r] w (eY B g (keepR l t r o) m n w):=by
 obtain ⟨A,c,rfl⟩:=Kd.R_slice hv;have hb:=aG (Below.refl w.heap.size w) (.cells #[.slice A t'.length c] 34)
 cases o with
 | none =>
  have HD:=aa ((hd.below hb0).below hb);have HB:=aa (ku hb (some g));clear hd hb hv ho hb0;go_enter Tryz.func123,Tryz.ntmps123;go_wp2;go_ret;exact ⟨rfl,HD.out,HB.out⟩
 | some p =>
  obtain rfl:=ho p rfl;obtain ⟨hB,v0,v1,v2,v3,h1,h2,h3,h4,h5,h6⟩:=hd;obtain ⟨h6,h7⟩:=h6;have hne:gZ v0 (.slice A t'.length c):=λk h7 h8=>l7 hv h2 k h8 h7;have hne2:gZ v2 (.slice A t'.length c):=λk h7 h8=>l7 hv h4 k h8 h7
  obtain ⟨w1,hw1⟩:∃w1,w1=w.alloc (.cells #[.slice A t'.length c] 34):=⟨_,rfl⟩
  rw[<- hw1]at hb;have hv1:=Kd.R_below hv hb;replace h1:=aI (aI h1 hb0) hb;replace h2:=Kd.R_below (Kd.R_below h2 hb0) hb;replace h4:=Kd.R_below (Kd.R_below h4 hb0) hb;replace h5:=Kd.R_below (Kd.R_below h5 hb0) hb
  have HR:=aa (show jH (w1.setCell ⟨g,1,none⟩ (.slice A t'.length c)) B g l t' m n from
   ⟨hB,v0,.slice A t'.length c,v2,v3,dV h1 1 _ rfl,Kd.R_set h2 h1 (by decide) _ _,Kd.R_set (Kd.R_lower hv1 hB0) h1 (by decide) _ _,Kd.R_set h4 h1 (by decide) _ _,Kd.R_set h5 h1 (by decide) _ _,hne,hne2⟩)
  have HG:=aa (mR (ku hb (some g)) (qw (w:=w1) g 1 (.slice A t'.length c)));subst hw1;have hc:(w.alloc (.cells #[.slice A t'.length c] 34)).cell? ⟨g,1,none⟩=some v1:=(ah h1 1).trans rfl;have hf:=au h1 1;clear h1 h2 h3 h4 h5 h6 h7 hv hv1 hB hb hb0 hB0 hne hne2;go_enter Tryz.func123,Tryz.ntmps123;go_wp2;go_ret;exact ⟨rfl,HR.out,HG.out⟩
theorem GL{F:aN}(hS:iK F)(o:Option (List Int))(v:Value)(l:List Int)(base:Nat)(w:World)(hv:Kd.R (Kd.int .i64) 3 w base (λ_=>True) v l)(ho:∀m,o=some m->l=m)(hf:∀m,o=some m->fG m)(hp:∀m,o=some m->∀x∈m,0<=x) :
  Calls Tryz.prog 133 #[v,.bool o.isSome] w (mh (qc o) w):=by
 cases o with
 | none =>
  clear hv ho hf hp hS;go_enter Tryz.func133,Tryz.ntmps133;go_wp2;go_ret;exact ⟨rfl,Below.refl _ _⟩
 | some m =>
  obtain rfl:=ho m rfl;obtain ⟨A,c,rfl,h1,h2⟩:=Kd.R_reads hv;have HC:=aa (hS.text A c l w ⟨h2,h1⟩ (hf l rfl) (hp l rfl));clear hv ho hf hp hS h1 h2;go_enter Tryz.func133,Tryz.ntmps133
  go_wp2_with (go_at_call 89;refine HC.out.mono ?_;rintro e w1 ⟨rfl,hb⟩)
  go_ret;exact ⟨rfl,hb⟩
theorem rM{F:aN}(hS:iK F)(o:Option Int)(n:Int)(w:World)(ho:∀m,o=some m->n=m)(hf:∀m,o=some m->bJ m)(hp:∀m,o=some m->0<=m) :
  Calls Tryz.prog 129 #[.int .i64 n,.bool o.isSome] w (mh (pX o) w):=by
 cases o with
 | none =>
  clear ho hf hp hS;go_enter Tryz.func129,Tryz.ntmps129;go_wp2;go_ret;exact ⟨rfl,Below.refl _ _⟩
 | some m =>
  obtain rfl:=ho m rfl;have HC:=aa (hS.num n w (hp n rfl) (hf n rfl));clear ho hf hp hS;go_enter Tryz.func129,Tryz.ntmps129
  go_wp2_with (go_at_call 86;refine HC.out.mono ?_;rintro e w1 ⟨rfl,hb⟩)
  go_ret;exact ⟨rfl,hb⟩
structure fE (F:aN) (B g:Nat) (l t m n:List Int) (w:World):Prop where
 good:Good F
 pos:Pos F
 spec:iK F
 at_:jH w B g l t m n
 park:F.park l=true
 tab:F.tab t=true
 few:fG m
 low:B<=w.heap.size
theorem kM{B g:Nat}{l t m n:List Int}{w w1:World}{r:ByteArray}(hd:jH w B g l t m n)(hb:Below w.heap.size w w1):eY B g ⟨l,t,r⟩ m n w (.returned (.string r)) w1:=⟨rfl,hd.below hb,ku hb _⟩
theorem zm{B g:Nat}{l t m n:List Int}{w w1:World}{o:Option Int}(hd:jH w B g l t m n)(hb:Below w.heap.size w w1):eY B g (lV l t o) m n w (.returned (.string (pX o))) w1:=by
 cases o with
 | none=>exact kM hd hb
 | some k=>exact kM hd hb
theorem nH{w:World}{A:Option Addr}{c:Nat}{k:Int}(h:aM w A c [k]):∃ad,A=some ad/\w.cell? ad=some (.int .i64 k):=by
 obtain ⟨ad,e,hx⟩:=Kd.at_int h.1 0 (by omega) (by simp);exact ⟨ad,e,by simpa [Addr.add,rd] using hx⟩
theorem Df{F:aN}{B g:Nat}{l t m n:List Int}{w:World}(h:fE F B g l t m n w):Calls Tryz.prog 75 #[.pointer (some ⟨g,0,none⟩),.string ⟨#[108,105,115,116]⟩] w (eY B g (⟨l,t,fO l⟩) m n w):=by
 obtain ⟨hF,hP,hS,hd,hl,ht,hm,hB⟩:=h;obtain ⟨A,c,A',c',A2,c2,A3,c3,HL,HT,HM2,HN,hc0,hc1,hc2,hc3⟩:=hd.open_;have HD:=aa hd;have HS:=aa hS;have HC:=aa (hS.text A c l w HL.out (uY hF hl) (λx hx=>((hF.park l hl).2 x hx).1));clear hd hF hP hS hB hl ht hm;go_enter Tryz.func75,Tryz.ntmps75
 go_wp2_with (first
  | (go_at_call 89;refine HC.out.mono ?_;rintro e w1 ⟨rfl,hb⟩;have HB:=aa hb;clear hb))
 go_ret;exact kM HD.out HB.out
theorem EU{F:aN}{B g:Nat}{l t m n:List Int}{w:World}(h:fE F B g l t m n w):Calls Tryz.prog 75 #[.pointer (some ⟨g,0,none⟩),.string ⟨#[99,97,114,115]⟩] w (eY B g (⟨l,t,fO (F.cars l)⟩) m n w):=by
 obtain ⟨hF,hP,hS,hd,hl,ht,hm,hB⟩:=h;obtain ⟨A,c,A',c',A2,c2,A3,c3,HL,HT,HM2,HN,hc0,hc1,hc2,hc3⟩:=hd.open_;have HD:=aa hd;have HS:=aa hS;have HC:=aa (hS.cars A c l w HL.out hl);have HF:=aa (hF.cars l hl);have HP:=aa (hP.cars l hl);clear hd hF hP hS hB hl ht hm;go_enter Tryz.func75,Tryz.ntmps75
 go_wp2_with (first
  | (go_at_call 126;refine HC.out.mono ?_;rintro e w1 ⟨v,rfl,ho,hb⟩;obtain ⟨Av,cv,rfl,h1,h2⟩:=Kd.R_reads ho;have HV:=aa (show aM w1 Av cv _ from ⟨h2,h1⟩);have HB:=aa hb;clear ho hb h1 h2)
  | (go_at_call 89;refine (HS.out.text Av cv _ _ HV.out HF.out HP.out).mono ?_;rintro e w2 ⟨rfl,hb⟩;replace HB:=aa (aj HB.out hb);clear hb))
 go_ret;exact kM HD.out HB.out
theorem AX{F:aN}{B g:Nat}{l t m n:List Int}{w:World}(h:fE F B g l t m n w):Calls Tryz.prog 75 #[.pointer (some ⟨g,0,none⟩),.string ⟨#[102,97,114]⟩] w (eY B g (⟨l,t,fO (F.far l)⟩) m n w):=by
 obtain ⟨hF,hP,hS,hd,hl,ht,hm,hB⟩:=h;obtain ⟨A,c,A',c',A2,c2,A3,c3,HL,HT,HM2,HN,hc0,hc1,hc2,hc3⟩:=hd.open_;have HD:=aa hd;have HS:=aa hS;have HC:=aa (hS.far A c l w HL.out hl);have HF:=aa (hF.far l hl);have HP:=aa (hP.far l hl);clear hd hF hP hS hB hl ht hm;go_enter Tryz.func75,Tryz.ntmps75
 go_wp2_with (first
  | (go_at_call 127;refine HC.out.mono ?_;rintro e w1 ⟨v,rfl,ho,hb⟩;obtain ⟨Av,cv,rfl,h1,h2⟩:=Kd.R_reads ho;have HV:=aa (show aM w1 Av cv _ from ⟨h2,h1⟩);have HB:=aa hb;clear ho hb h1 h2)
  | (go_at_call 89;refine (HS.out.text Av cv _ _ HV.out HF.out HP.out).mono ?_;rintro e w2 ⟨rfl,hb⟩;replace HB:=aa (aj HB.out hb);clear hb))
 go_ret;exact kM HD.out HB.out
theorem IY{F:aN}{B g:Nat}{l t m n:List Int}{w:World}(h:fE F B g l t m n w):Calls Tryz.prog 75 #[.pointer (some ⟨g,0,none⟩),.string ⟨#[99,117,116,115]⟩] w (eY B g (⟨l,t,fO (F.cuts l)⟩) m n w):=by
 obtain ⟨hF,hP,hS,hd,hl,ht,hm,hB⟩:=h;obtain ⟨A,c,A',c',A2,c2,A3,c3,HL,HT,HM2,HN,hc0,hc1,hc2,hc3⟩:=hd.open_;have HD:=aa hd;have HS:=aa hS;have HC:=aa (hS.cuts A c l w HL.out hl);have HF:=aa (hF.cuts l hl);have HP:=aa (hP.cuts l hl);clear hd hF hP hS hB hl ht hm;go_enter Tryz.func75,Tryz.ntmps75
 go_wp2_with (first
  | (go_at_call 128;refine HC.out.mono ?_;rintro e w1 ⟨v,rfl,ho,hb⟩;obtain ⟨Av,cv,rfl,h1,h2⟩:=Kd.R_reads ho;have HV:=aa (show aM w1 Av cv _ from ⟨h2,h1⟩);have HB:=aa hb;clear ho hb h1 h2)
  | (go_at_call 89;refine (HS.out.text Av cv _ _ HV.out HF.out HP.out).mono ?_;rintro e w2 ⟨rfl,hb⟩;replace HB:=aa (aj HB.out hb);clear hb))
 go_ret;exact kM HD.out HB.out
theorem BL{F:aN}{B g:Nat}{l t m n:List Int}{w:World}(h:fE F B g l t m n w):Calls Tryz.prog 75 #[.pointer (some ⟨g,0,none⟩),.string ⟨#[114,97,110,107]⟩] w (eY B g (⟨l,t,bL (F.rank l)⟩) m n w):=by
 obtain ⟨hF,hP,hS,hd,hl,ht,hm,hB⟩:=h;obtain ⟨A,c,A',c',A2,c2,A3,c3,HL,HT,HM2,HN,hc0,hc1,hc2,hc3⟩:=hd.open_;have HD:=aa hd;have HS:=aa hS;have HC:=aa (hS.rank A c l w HL.out hl);have HF:=aa (hF.rank l hl);have HP:=aa (hP.rank l hl);clear hd hF hP hS hB hl ht hm;go_enter Tryz.func75,Tryz.ntmps75
 go_wp2_with (first
  | (go_at_call 130;refine HC.out.mono ?_;rintro e w1 ⟨n',rfl,hm,hb⟩;have HM:=aa hm;have HB:=aa hb;clear hm hb)
  | (go_at_call 129;refine (rM HS.out (some (F.rank l)) _ _ HM.out (λm h=>by cases h;exact HF.out) (λm h=>by cases h;exact HP.out)).mono ?_;rintro e w2 ⟨rfl,hb⟩;replace HB:=aa (aj HB.out hb);clear hb))
 go_ret;exact kM HD.out HB.out
theorem G7{F:aN}{B g:Nat}{l t m n:List Int}{w:World}(h:fE F B g l t m n w):Calls Tryz.prog 75 #[.pointer (some ⟨g,0,none⟩),.string ⟨#[99,111,115,116]⟩] w (eY B g (⟨l,t,bL (F.cost t)⟩) m n w):=by
 obtain ⟨hF,hP,hS,hd,hl,ht,hm,hB⟩:=h;obtain ⟨A,c,A',c',A2,c2,A3,c3,HL,HT,HM2,HN,hc0,hc1,hc2,hc3⟩:=hd.open_;have HD:=aa hd;have HS:=aa hS;have HC:=aa (hS.cost A' c' t w HT.out ht);have HF:=aa (hF.cost t ht);have HP:=aa (hP.cost t ht);clear hd hF hP hS hB hl ht hm;go_enter Tryz.func75,Tryz.ntmps75
 go_wp2_with (first
  | (go_at_call 136;refine HC.out.mono ?_;rintro e w1 ⟨n',rfl,hm,hb⟩;have HM:=aa hm;have HB:=aa hb;clear hm hb)
  | (go_at_call 129;refine (rM HS.out (some (F.cost t)) _ _ HM.out (λm h=>by cases h;exact HF.out) (λm h=>by cases h;exact HP.out)).mono ?_;rintro e w2 ⟨rfl,hb⟩;replace HB:=aa (aj HB.out hb);clear hb))
 go_ret;exact kM HD.out HB.out
theorem AB{F:aN}{B g:Nat}{l t m n:List Int}{w:World}(h:fE F B g l t m n w):Calls Tryz.prog 75 #[.pointer (some ⟨g,0,none⟩),.string ⟨#[116,97,98,108,101]⟩] w (eY B g (⟨l,t,mO t⟩) m n w):=by
 obtain ⟨hF,hP,hS,hd,hl,ht,hm,hB⟩:=h;obtain ⟨A,c,A',c',A2,c2,A3,c3,HL,HT,HM2,HN,hc0,hc1,hc2,hc3⟩:=hd.open_;have HD:=aa hd;have HS:=aa hS;have HC:=aa (hS.table A' c' t w HT.out ht);clear hd hF hP hS hB hl ht hm;go_enter Tryz.func75,Tryz.ntmps75
 go_wp2_with (first
  | (go_at_call 135;refine HC.out.mono ?_;rintro e w1 ⟨rfl,hb⟩;have HB:=aa hb;clear hb))
 go_ret;exact kM HD.out HB.out
theorem BC{F:aN}{B g:Nat}{l t m:List Int}{w:World}{k:Int}(hk0:0<=k)(hk9:k<=999999)(h:fE F B g l t m [k] w):Calls Tryz.prog 75 #[.pointer (some ⟨g,0,none⟩),.string ⟨#[99,111,117,110,116]⟩] w (eY B g (lV l t (F.count k)) m [k] w):=by
 obtain ⟨hF,hP,hS,hd,hl,ht,hm,hB⟩:=h;obtain ⟨A,c,A',c',A2,c2,A3,c3,HL,HT,HM2,HN,hc0,hc1,hc2,hc3⟩:=hd.open_;have HD:=aa hd;have HS:=aa hS;obtain ⟨adn,rfl,hxn⟩:=nH HN.out;have HC:=aa (hS.count k w hk0 hk9);have HF:=aa (hF.count k);have HP:=aa (hP.count k);clear hd hF hP hS hB hl ht hm;go_enter Tryz.func75,Tryz.ntmps75
 go_wp2_with (first
  | (go_at_call 131;refine HC.out.mono ?_;rintro e w1 ⟨n',rfl,hm,hb⟩;have HM:=aa hm;have HB:=aa hb;clear hm hb)
  | (go_at_call 129;refine (rM HS.out (F.count k) _ _ HM.out (λm h=>HF.out m h) (λm h=>HP.out m h)).mono ?_;rintro e w2 ⟨rfl,hb⟩;replace HB:=aa (aj HB.out hb);clear hb))
 go_ret;exact zm HD.out HB.out
theorem BR{F:aN}{B g:Nat}{l t m:List Int}{w:World}{k:Int}(hk0:0<=k)(hk9:k<=999999)(h:fE F B g l t m [k] w):Calls Tryz.prog 75 #[.pointer (some ⟨g,0,none⟩),.string ⟨#[98,97,99,107]⟩] w (eY B g (lV l t (F.back k)) m [k] w):=by
 obtain ⟨hF,hP,hS,hd,hl,ht,hm,hB⟩:=h;obtain ⟨A,c,A',c',A2,c2,A3,c3,HL,HT,HM2,HN,hc0,hc1,hc2,hc3⟩:=hd.open_;have HD:=aa hd;have HS:=aa hS;obtain ⟨adn,rfl,hxn⟩:=nH HN.out;have HC:=aa (hS.back k w hk0 hk9);have HF:=aa (hF.back k);have HP:=aa (hP.back k);clear hd hF hP hS hB hl ht hm;go_enter Tryz.func75,Tryz.ntmps75
 go_wp2_with (first
  | (go_at_call 134;refine HC.out.mono ?_;rintro e w1 ⟨n',rfl,hm,hb⟩;have HM:=aa hm;have HB:=aa hb;clear hm hb)
  | (go_at_call 129;refine (rM HS.out (F.back k) _ _ HM.out (λm h=>HF.out m h) (λm h=>HP.out m h)).mono ?_;rintro e w2 ⟨rfl,hb⟩;replace HB:=aa (aj HB.out hb);clear hb))
 go_ret;exact zm HD.out HB.out
theorem BS{F:aN}{B g:Nat}{l t m n:List Int}{w:World}(h:fE F B g l t m n w):Calls Tryz.prog 75 #[.pointer (some ⟨g,0,none⟩),.string ⟨#[99,108,97,115,115]⟩] w (eY B g (⟨l,t,qc (F.cls m)⟩) m n w):=by
 obtain ⟨hF,hP,hS,hd,hl,ht,hm,hB⟩:=h;obtain ⟨A,c,A',c',A2,c2,A3,c3,HL,HT,HM2,HN,hc0,hc1,hc2,hc3⟩:=hd.open_;have HD:=aa hd;have HS:=aa hS;have HC:=aa (hS.cls A2 c2 m w HM2.out hm);have HF:=aa (hF.cls m);have HP:=aa (hP.cls m);clear hd hF hP hS hB hl ht hm;go_enter Tryz.func75,Tryz.ntmps75
 go_wp2_with (first
  | (go_at_call 132;refine HC.out.mono ?_;rintro e w1 ⟨v,l',n',rfl,ho,hm,hb⟩;have HO:=aa ho;have HM:=aa hm;have HB:=aa hb;clear ho hm hb)
  | (go_at_call 133;refine (GL HS.out (F.cls m) _ _ _ _ HO.out HM.out (λm h=>HF.out m h) (λm h=>HP.out m h)).mono ?_;rintro e w2 ⟨rfl,hb⟩;replace HB:=aa (aj HB.out hb);clear hb))
 go_ret;exact kM HD.out HB.out
theorem Ih{w:World}{A:Option Addr}{c:Nat}{k r:Int}(h:aM w A c [k,r]):∃ad,A=some ad/\w.cell? ad=some (.int .i64 k)/\w.cell? ⟨ad.block,ad.off+1,none⟩=some (.int .i64 r)/\w.cell? (ad.add 1)=some (.int .i64 r):=by
 obtain ⟨ad,e,hx⟩:=Kd.at_int h.1 0 (by omega) (by simp);obtain ⟨ad',e',hy⟩:=Kd.at_int h.1 1 (by omega) (by simp);cases e;cases e';exact ⟨ad,rfl,by simpa [Addr.add,rd] using hx,by simpa [Addr.add,rd] using hy,by simpa [rd] using hy⟩
theorem bR{w w1:World}{a:Addr}{v:Value}(h:w.cell? a=some v)(hb:Below w.heap.size w w1):w1.cell? a=some v:=(hb.cell (World.block_lt_of_cell? w _ h)).trans h
theorem Jw{F:aN}{B g:Nat}{l t m n:List Int}{w:World}(h:fE F B g l t m n w):Calls Tryz.prog 74 #[.pointer (some ⟨g,0,none⟩),.string ⟨#[110,101,120,116]⟩] w (eY B g (fw l t (F.next l)) m n w):=by
 obtain ⟨hF,hP,hS,hd,hl,ht,hm,hB⟩:=h;obtain ⟨A,c,A',c',A2,c2,A3,c3,HL,HT,HM2,HN,hc0,hc1,hc2,hc3⟩:=hd.open_;have HD:=aa hd;have HS:=aa hS;have HBz:=aa hB;have HB:=aa (Below.refl w.heap.size w);have HC:=aa (hS.next A c l w HL.out hl);clear hd hF hP hS hB hl ht hm;go_enter Tryz.func74,Tryz.ntmps74
 go_wp2_with (first
  | (go_at_call 119;refine HC.out.mono ?_;rintro e w3 ⟨v3,l3,rfl,ho,hm3,hb⟩;have HO:=aa ho;have HM3:=aa hm3;replace HB:=aa (aj (show Below w.heap.size w _ from aW) hb);clear ho hm3 hb)
  | (go_at_call 118;refine (um (F.next l) HD.out aW HBz.out HO.out HM3.out).mono ?_;rintro e w4 ⟨rfl,hd2,hg2⟩;have HX:=aa (lS (show Below w.heap.size w _ from aW) (x:=fw l t (F.next l)) ⟨rfl,hd2,hg2⟩);clear hd2 hg2))
 go_ret;exact HX.out
theorem E8(o:Option (List Int)){B g:Nat}{A2:Option Addr}{c2:Nat}{l t m n:List Int}{w:World}(hd:jH w B g l t m n)(hc2:w.cell? ⟨g,2,none⟩=some (.slice A2 m.length c2))(ho:∀p,o=some p->m=p) :
  Calls Tryz.prog 118 #[.pointer (some ⟨g,0,none⟩),.slice A2 m.length c2,.bool o.isSome] w λe w'=>eY B g (fw l t o) m n w e w'/\w'.cell? ⟨g,2,none⟩=some (.slice A2 m.length c2):=by
 cases o with
 | none =>
  have HD:=aa hd;have HC2:=aa hc2;clear hd hc2 ho;go_enter Tryz.func118,Tryz.ntmps118;go_wp2;go_ret;exact ⟨⟨rfl,HD.out,World.grownBy.refl _ _⟩,HC2.out⟩
 | some p =>
  obtain rfl:=ho p rfl;obtain ⟨hB,v0,v1,v2,v3,h1,h2,h3,h4,h5,h6,h7⟩:=hd;have e2:v2=.slice A2 m.length c2:=Option.some.inj (((ah h1 2).trans rfl).symm.trans hc2);subst e2
  have HR:=aa (show jH (w.setCell ⟨g,0,none⟩ (.slice A2 m.length c2)) B g m t m n from
   ⟨hB,.slice A2 m.length c2,v1,.slice A2 m.length c2,v3,dV h1 0 _ rfl,Kd.R_set h4 h1 (by decide) _ _,Kd.R_set h3 h1 (by decide) _ _,Kd.R_set h4 h1 (by decide) _ _,Kd.R_set h5 h1 (by decide) _ _,h7,h7⟩)
  have HC2:=aa (show (w.setCell ⟨g,0,none⟩ (.slice A2 m.length c2)).cell? ⟨g,2,none⟩=some (.slice A2 m.length c2) from (ah (iq h1 0 _) 2).trans rfl);have hc:w.cell? ⟨g,0,none⟩=some v0:=(ah h1 0).trans rfl;have hf:=au h1 0;clear h1 h2 h3 h4 h5 h6 h7 hB hc2;go_enter Tryz.func118,Tryz.ntmps118;go_wp2;go_ret;exact ⟨⟨rfl,HR.out,qw _ _ _⟩,HC2.out⟩
theorem Bf{F:aN}{B g:Nat}{l t m n:List Int}{w:World}(h:fE F B g l t m n w):Calls Tryz.prog 74 #[.pointer (some ⟨g,0,none⟩),.string ⟨#[116,97,107,101]⟩] w (eY B g (fw l t (if F.park m=true then some m else none)) m n w):=by
 obtain ⟨hF,hP,hS,hd,hl,ht,hm,hB⟩:=h;obtain ⟨A,c,A',c',A2,c2,A3,c3,HL,HT,HM2,HN,hc0,hc1,hc2,hc3⟩:=hd.open_;have HD:=aa hd;have HS:=aa hS;have HBz:=aa hB;have HB:=aa (Below.refl w.heap.size w);have HF:=aa hm
 obtain ⟨o,ho⟩:∃o:Option (List Int),o=(if F.park m=true then some m else none):=⟨_,rfl⟩
 have HPP:=aa (show o.isSome=F.park m by rw[ho];cases F.park m <;> rfl);have HOO:=aa (show ∀p,o=some p->m=p from λp hp=>by rw[ho]at hp;split at hp;cases hp;rfl;cases hp);rw[<- ho];clear ho hd hF hP hS hB hl ht hm;go_enter Tryz.func74,Tryz.ntmps74;go_wp2
 go_region_held3 (λW:World=>W.cell? ⟨g,2,none⟩=some (.slice A2 m.length c2)) (first|exact hc2|exact bR hc2 HB.out|exact HX2.out) (first
  | (go_at_call 71;refine (HS.out.park A2 c2 m _ (aM.below HM2.out aW) HF.out).mono ?_;rintro e w3 ⟨rfl,hb⟩;replace HB:=aa (aj (show Below w.heap.size w _ from aW) hb);clear hb;rw[<- HPP.out])
  | (go_at_call 118;refine (E8 o (HD.out.below aW) (bR hc2 aW) HOO.out).mono ?_;rintro e w4 ⟨⟨rfl,hd2,hg2⟩,hx2⟩;have HX2:=aa hx2;have HX:=aa (lS (show Below w.heap.size w _ from aW) (x:=fw l t o) ⟨rfl,hd2,hg2⟩);clear hd2 hg2 hx2))
 all_goals
  go_wp2;go_ret;exact HX.out
theorem Jq{F:aN}{B g:Nat}{l t m n:List Int}{w:World}(h:fE F B g l t m n w):Calls Tryz.prog 74 #[.pointer (some ⟨g,0,none⟩),.string ⟨#[106,111,105,110]⟩] w (eY B g (fw l t (F.join l m)) m n w):=by
 obtain ⟨hF,hP,hS,hd,hl,ht,hm,hB⟩:=h;obtain ⟨A,c,A',c',A2,c2,A3,c3,HL,HT,HM2,HN,hc0,hc1,hc2,hc3⟩:=hd.open_;have HD:=aa hd;have HS:=aa hS;have HBz:=aa hB;have HB:=aa (Below.refl w.heap.size w);have HF:=aa hm;have HPk:=aa hl;clear hd hF hP hS hB hl ht hm;go_enter Tryz.func74,Tryz.ntmps74;go_wp2
 go_region_with (first
  | (go_at_call 121;refine (HS.out.join A c l A2 c2 m _ (aM.below HL.out aW) (aM.below HM2.out aW) HPk.out HF.out).mono ?_;rintro e w3 ⟨v3,l3,rfl,ho,hm3,hb⟩;have HO:=aa (Kd.R_lower ho (ay (show Below w.heap.size w _ from aW)));have HM3:=aa hm3;replace HB:=aa (aj (show Below w.heap.size w _ from aW) hb);clear ho hm3 hb)
  | (go_at_call 118;refine (um (F.join l m) HD.out aW HBz.out HO.out HM3.out).mono ?_;rintro e w4 ⟨rfl,hd2,hg2⟩;have HX:=aa (lS (show Below w.heap.size w _ from aW) (x:=fw l t (F.join l m)) ⟨rfl,hd2,hg2⟩);clear hd2 hg2))
 all_goals
  go_wp2;go_ret;exact HX.out
theorem wF{F:aN}{B g:Nat}{l t m:List Int}{w:World}{k r:Int}(hk0:0<=k)(hk9:k<=999999)(hr0:0<=r)(hr9:r<=999999)(h:fE F B g l t m [k,r] w):Calls Tryz.prog 74 #[.pointer (some ⟨g,0,none⟩),.string ⟨#[97,116]⟩] w (eY B g (fw l t (F.at_ k r)) m [k,r] w):=by
 obtain ⟨hF,hP,hS,hd,hl,ht,hm,hB⟩:=h;obtain ⟨A,c,A',c',A2,c2,A3,c3,HL,HT,HM2,HN,hc0,hc1,hc2,hc3⟩:=hd.open_;have HD:=aa hd;have HS:=aa hS;have HBz:=aa hB;have HB:=aa (Below.refl w.heap.size w);obtain ⟨adn,rfl,hxn,hyn,hyn2⟩:=Ih HN.out;have HC:=aa λW=>hS.at_ k r W hk0 hk9 hr0 hr9;clear hd hF hP hS hB hl ht hm;go_enter Tryz.func74,Tryz.ntmps74;go_wp2
 go_region_with (first
  | (go_at_call 120;refine (HC.out _).mono ?_;rintro e w3 ⟨v3,l3,rfl,ho,hm3,hb⟩;have HO:=aa (Kd.R_lower ho (ay (show Below w.heap.size w _ from aW)));have HM3:=aa hm3;replace HB:=aa (aj (show Below w.heap.size w _ from aW) hb);clear ho hm3 hb)
  | (go_at_call 118;refine (um (F.at_ k r) HD.out aW HBz.out HO.out HM3.out).mono ?_;rintro e w4 ⟨rfl,hd2,hg2⟩;have HX:=aa (lS (show Below w.heap.size w _ from aW) (x:=fw l t (F.at_ k r)) ⟨rfl,hd2,hg2⟩);clear hd2 hg2))
 all_goals
  go_wp2;go_ret;exact HX.out
theorem dZ{P:Prop}(h:P:=by repeat (first|(with_reducible first|exact HB.out|apply aG|apply dD|apply dw)|exact HB.out|refine bf ?_ HB.out.size|refine bf ?_ (Nat.le_refl _))):P:=h
theorem xZ(l t:List Int)(o:Option (List Int)):keepR l t okB o=lK l t o:=by cases o <;> rfl
theorem F7{F:aN}{B g:Nat}{l t m:List Int}{w:World}{k:Int}(hk0:0<=k)(hk9:k<=999999)(h:fE F B g l t m [k] w):Calls Tryz.prog 74 #[.pointer (some ⟨g,0,none⟩),.string ⟨#[110,101,119]⟩] w (eY B g (keepR l t okB (F.empty k)) m [k] w):=by
 obtain ⟨hF,hP,hS,hd,hl,ht,hm,hB⟩:=h;obtain ⟨A,c,A',c',A2,c2,A3,c3,HL,HT,HM2,HN,hc0,hc1,hc2,hc3⟩:=hd.open_;have HD:=aa hd;have HS:=aa hS;have HBz:=aa hB;have HB:=aa (Below.refl w.heap.size w);obtain ⟨adn,rfl,hxn⟩:=nH HN.out;have hxa:∀o,(w.alloc o).cell? adn=some (.int .i64 k):=λo=>bR hxn (aG (Below.refl _ _) o);have hxg:∀o,(w.alloc o).cell? ⟨g,3,none⟩=some (.slice (some adn) 1 c3):=λo=>bR hc3 (aG (Below.refl _ _) o);have hxh:∀o,(w.alloc o).cell? ⟨g,1,none⟩=some (.slice A' t.length c'):=λo=>bR hc1 (aG (Below.refl _ _) o);have HC:=aa (hS.empty k w hk0 hk9);clear hd hF hP hS hB hl ht hm;go_enter Tryz.func74,Tryz.ntmps74
 go_wp2_with (first
  | (go_at_call 122;refine HC.out.mono ?_;rintro e w3 ⟨v3,l3,rfl,ho,hm3,hb⟩;obtain ⟨Av,cv,rfl⟩:=Kd.R_slice ho;have HO:=aa (Kd.R_lower ho (ay (show Below w.heap.size w _ from dZ)));have HM3:=aa hm3;replace HB:=aa (aj (show Below w.heap.size w _ from dZ) hb);clear ho hm3 hb)
  | (go_at_call 123;refine (oh (F.empty k) okB HD.out aW HBz.out (ja HO.out) HM3.out).mono ?_;rintro e w4 ⟨rfl,hd2,hg2⟩;have HX:=aa (lS (show Below w.heap.size w _ from aW) (x:=keepR l t okB (F.empty k)) ⟨rfl,hd2,hg2⟩);clear hd2 hg2))
 go_ret;exact HX.out
theorem Em{F:aN}{B g:Nat}{l t m:List Int}{w:World}{k:Int}(hk0:0<=k)(hk9:k<=999999)(h:fE F B g l t m [k] w):Calls Tryz.prog 74 #[.pointer (some ⟨g,0,none⟩),.string ⟨#[100,114,111,112]⟩] w (eY B g (keepR l t okB (F.rem t k)) m [k] w):=by
 obtain ⟨hF,hP,hS,hd,hl,ht,hm,hB⟩:=h;obtain ⟨A,c,A',c',A2,c2,A3,c3,HL,HT,HM2,HN,hc0,hc1,hc2,hc3⟩:=hd.open_;have HD:=aa hd;have HS:=aa hS;have HBz:=aa hB;have HB:=aa (Below.refl w.heap.size w);obtain ⟨adn,rfl,hxn⟩:=nH HN.out;have hxa:∀o,(w.alloc o).cell? adn=some (.int .i64 k):=λo=>bR hxn (aG (Below.refl _ _) o);have hxg:∀o,(w.alloc o).cell? ⟨g,3,none⟩=some (.slice (some adn) 1 c3):=λo=>bR hc3 (aG (Below.refl _ _) o);have hxh:∀o,(w.alloc o).cell? ⟨g,1,none⟩=some (.slice A' t.length c'):=λo=>bR hc1 (aG (Below.refl _ _) o);have HC:=aa λW hW=>hS.rem A' c' t k W hW ht hk0 hk9;clear hd hF hP hS hB hl ht hm;go_enter Tryz.func74,Tryz.ntmps74;go_wp2
 go_region_held3 (λW:World=>W.cell? ⟨g,1,none⟩=some (.slice A' t.length c')/\W.cell? ⟨g,3,none⟩=some (.slice (some adn) 1 c3)/\W.cell? adn=some (.int .i64 k)) (first|exact ⟨hc1,hc3,hxn⟩|exact ⟨bR hc1 dZ,bR hc3 dZ,bR hxn dZ⟩) (first|(go_at_call 125;refine (HC.out _ (aM.below HT.out dZ)).mono ?_;rintro e w3 ⟨v3,l3,rfl,ho,hm3,hb⟩;(try (have hkn:=(hb.block w.heap.size (by simp)).trans (show ((w.alloc (.cells #[.slice none 0 0] 34)).drew).heap[w.heap.size]?=some (.cells #[.slice none 0 0] 34 (0,0)) from bS (bC w _));have hcn:=(ah hkn 0).trans rfl;have hfn:=au hkn 0;have HBK:=aa hkn;clear hkn));obtain ⟨Av,cv,rfl⟩:=Kd.R_slice ho;have HO:=aa (Kd.R_lower ho (ay (show Below w.heap.size w _ from dZ)));have HM3:=aa hm3;replace HB:=aa (aj (show Below w.heap.size w _ from dZ) hb);clear ho hm3 hb))
 all_goals
  go_wp2_with (first
  | (go_at_call 123;(first|refine (oh (F.rem t k) okB HD.out dZ HBz.out (ja HO.out) HM3.out).mono ?_|refine (oh (F.rem t k) okB HD.out dZ HBz.out (Kd.R_set HO.out HBK.out (by decide) 0 _) HM3.out).mono ?_);rintro e w4 ⟨rfl,hd2,hg2⟩;have HX:=aa (lS (show Below w.heap.size w _ from dZ) (x:=keepR l t okB (F.rem t k)) ⟨rfl,hd2,hg2⟩);clear hd2 hg2))
  go_ret;exact HX.out
theorem Fx{F:aN}{B g:Nat}{l t m:List Int}{w:World}{k:Int}(hk0:0<=k)(hk9:k<=999999)(hq:F.ins t k=none)(h:fE F B g l t m [k] w):Calls Tryz.prog 74 #[.pointer (some ⟨g,0,none⟩),.string ⟨#[112,117,116]⟩] w (eY B g (⟨l,t,iI⟩) m [k] w):=by
 obtain ⟨hF,hP,hS,hd,hl,ht,hm,hB⟩:=h;obtain ⟨A,c,A',c',A2,c2,A3,c3,HL,HT,HM2,HN,hc0,hc1,hc2,hc3⟩:=hd.open_;have HD:=aa hd;have HS:=aa hS;have HBz:=aa hB;have HB:=aa (Below.refl w.heap.size w);obtain ⟨adn,rfl,hxn⟩:=nH HN.out;have hxa:∀o,(w.alloc o).cell? adn=some (.int .i64 k):=λo=>bR hxn (aG (Below.refl _ _) o);have hxg:∀o,(w.alloc o).cell? ⟨g,3,none⟩=some (.slice (some adn) 1 c3):=λo=>bR hc3 (aG (Below.refl _ _) o);have hxh:∀o,(w.alloc o).cell? ⟨g,1,none⟩=some (.slice A' t.length c'):=λo=>bR hc1 (aG (Below.refl _ _) o);have HC:=aa λW hW=>hS.ins A' c' t k W hW ht hk0 hk9;rw[hq]at HC;clear hq hd hF hP hS hB hl ht hm;go_enter Tryz.func74,Tryz.ntmps74;go_wp2
 go_region_held3 (λW:World=>W.cell? ⟨g,1,none⟩=some (.slice A' t.length c')/\W.cell? ⟨g,3,none⟩=some (.slice (some adn) 1 c3)/\W.cell? adn=some (.int .i64 k)) (first|exact ⟨hc1,hc3,hxn⟩|exact ⟨bR hc1 dZ,bR hc3 dZ,bR hxn dZ⟩) (first|(go_at_call 124;refine (HC.out _ (aM.below HT.out dZ)).mono ?_;rintro e w3 ⟨v3,l3,n3,rfl,ho,hm3,hn3,hb⟩;(try (have hkn:=(hb.block w.heap.size (by simp)).trans (show ((w.alloc (.cells #[.slice none 0 0] 34)).drew).heap[w.heap.size]?=some (.cells #[.slice none 0 0] 34 (0,0)) from bS (bC w _));have hcn:=(ah hkn 0).trans rfl;have hfn:=au hkn 0;have HBK:=aa hkn;clear hkn));obtain ⟨Av,cv,rfl⟩:=Kd.R_slice ho;have HO:=aa (Kd.R_lower ho (ay (show Below w.heap.size w _ from dZ)));have HN3:=aa hn3;replace HB:=aa (aj (show Below w.heap.size w _ from dZ) hb);clear ho hm3 hn3 hb))
 all_goals go_wp2
 ·
  have hcl:(w3.alloc (.cells #[.slice Av l3.length cv] 34)).cell? ⟨w3.heap.size,0,none⟩=some (.slice Av l3.length cv):=(ah (bC _ _) 0).trans rfl
  go_region_with (first
   | (go_at_call 86;refine (HS.out.num n3 _ HN3.out.1 (by have:=HN3.out;unfold bJ;omega)).mono ?_;rintro e w5 ⟨rfl,hb⟩;have hcp:=bR (by exact hcl) hb;replace HO:=aa (Kd.R_below (ja HO.out) hb);replace HB:=aa (aj (show Below w.heap.size w _ from dZ) hb);clear hb)
   | (go_at_call 123;refine (oh (none:Option (List Int)) (bL n3) HD.out dZ HBz.out (ja HO.out) (λm h=>by cases h)).mono ?_;rintro e w4 ⟨rfl,hd2,hg2⟩;have HX:=aa (lS (show Below w.heap.size w _ from dZ) (x:=⟨l,t,iI⟩) ⟨rfl,hd2,hg2⟩);clear hd2 hg2))
  all_goals
   go_wp2;go_ret;exact HX.out
 ·
  have hcl:(w3.setCell ⟨w.heap.size,0,none⟩ (.slice Av l3.length cv)).cell? ⟨w.heap.size,0,none⟩=some (.slice Av l3.length cv):=(ah (iq HBK.out 0 _) 0).trans rfl;replace HO:=aa (Kd.R_set HO.out HBK.out (by decide) 0 (.slice Av l3.length cv));replace HB:=aa (bf HB.out (Nat.le_refl _) (j:=0) (v:=.slice Av l3.length cv))
  go_region_with (first
   | (go_at_call 86;refine (HS.out.num n3 _ HN3.out.1 (by have:=HN3.out;unfold bJ;omega)).mono ?_;rintro e w5 ⟨rfl,hb⟩;have hcp:=bR (by exact hcl) hb;replace HO:=aa (Kd.R_below (ja HO.out) hb);replace HB:=aa (aj (show Below w.heap.size w _ from dZ) hb);clear hb)
   | (go_at_call 123;refine (oh (none:Option (List Int)) (bL n3) HD.out dZ HBz.out (ja HO.out) (λm h=>by cases h)).mono ?_;rintro e w4 ⟨rfl,hd2,hg2⟩;have HX:=aa (lS (show Below w.heap.size w _ from dZ) (x:=⟨l,t,iI⟩) ⟨rfl,hd2,hg2⟩);clear hd2 hg2))
  all_goals
   go_wp2;go_ret;exact HX.out
theorem Cw{F:aN}{B g:Nat}{l t m:List Int}{w:World}{k:Int}(hk0:0<=k)(hk9:k<=999999){t':List Int}{a:Int}(hq:F.ins t k=some (t',a))(h:fE F B g l t m [k] w):Calls Tryz.prog 74 #[.pointer (some ⟨g,0,none⟩),.string ⟨#[112,117,116]⟩] w (eY B g (keepR l t (bL a) (some t')) m [k] w):=by
 obtain ⟨hF,hP,hS,hd,hl,ht,hm,hB⟩:=h;obtain ⟨A,c,A',c',A2,c2,A3,c3,HL,HT,HM2,HN,hc0,hc1,hc2,hc3⟩:=hd.open_;have HD:=aa hd;have HS:=aa hS;have HBz:=aa hB;have HB:=aa (Below.refl w.heap.size w);obtain ⟨adn,rfl,hxn⟩:=nH HN.out;have hxa:∀o,(w.alloc o).cell? adn=some (.int .i64 k):=λo=>bR hxn (aG (Below.refl _ _) o);have hxg:∀o,(w.alloc o).cell? ⟨g,3,none⟩=some (.slice (some adn) 1 c3):=λo=>bR hc3 (aG (Below.refl _ _) o);have hxh:∀o,(w.alloc o).cell? ⟨g,1,none⟩=some (.slice A' t.length c'):=λo=>bR hc1 (aG (Below.refl _ _) o);have HC:=aa λW hW=>hS.ins A' c' t k W hW ht hk0 hk9;rw[hq]at HC;clear hq hd hF hP hS hB hl ht hm;go_enter Tryz.func74,Tryz.ntmps74;go_wp2
 go_region_held3 (λW:World=>W.cell? ⟨g,1,none⟩=some (.slice A' t.length c')/\W.cell? ⟨g,3,none⟩=some (.slice (some adn) 1 c3)/\W.cell? adn=some (.int .i64 k)) (first|exact ⟨hc1,hc3,hxn⟩|exact ⟨bR hc1 dZ,bR hc3 dZ,bR hxn dZ⟩) (first|(go_at_call 124;refine (HC.out _ (aM.below HT.out dZ)).mono ?_;rintro e w3 ⟨v3,l3,n3,rfl,ho,hm3,hn3,hb⟩;cases hm3 _ rfl;(try (have hkn:=(hb.block w.heap.size (by simp)).trans (show ((w.alloc (.cells #[.slice none 0 0] 34)).drew).heap[w.heap.size]?=some (.cells #[.slice none 0 0] 34 (0,0)) from bS (bC w _));have hcn:=(ah hkn 0).trans rfl;have hfn:=au hkn 0;have HBK:=aa hkn;clear hkn));obtain ⟨Av,cv,rfl⟩:=Kd.R_slice ho;have HO:=aa (Kd.R_lower ho (ay (show Below w.heap.size w _ from dZ)));have HN3:=aa hn3;replace HB:=aa (aj (show Below w.heap.size w _ from dZ) hb);clear ho hm3 hn3 hb))
 all_goals go_wp2
 ·
  have hcl:(w3.alloc (.cells #[.slice Av t'.length cv] 34)).cell? ⟨w3.heap.size,0,none⟩=some (.slice Av t'.length cv):=(ah (bC _ _) 0).trans rfl
  go_region_with (first
   | (go_at_call 86;refine (HS.out.num a _ HN3.out.1 (by have:=HN3.out;unfold bJ;omega)).mono ?_;rintro e w5 ⟨rfl,hb⟩;have hcp:=bR (by exact hcl) hb;replace HO:=aa (Kd.R_below (ja HO.out) hb);replace HB:=aa (aj (show Below w.heap.size w _ from dZ) hb);clear hb)
   | (go_at_call 123;refine (oh (some t') (bL a) HD.out dZ HBz.out (ja HO.out) (λm h=>by cases h;rfl)).mono ?_;rintro e w4 ⟨rfl,hd2,hg2⟩;have HX:=aa (lS (show Below w.heap.size w _ from dZ) (x:=keepR l t (bL a) (some t')) ⟨rfl,hd2,hg2⟩);clear hd2 hg2))
  all_goals
   go_wp2;go_ret;exact HX.out
 ·
  have hcl:(w3.setCell ⟨w.heap.size,0,none⟩ (.slice Av t'.length cv)).cell? ⟨w.heap.size,0,none⟩=some (.slice Av t'.length cv):=(ah (iq HBK.out 0 _) 0).trans rfl;replace HO:=aa (Kd.R_set HO.out HBK.out (by decide) 0 (.slice Av t'.length cv));replace HB:=aa (bf HB.out (Nat.le_refl _) (j:=0) (v:=.slice Av t'.length cv))
  go_region_with (first
   | (go_at_call 86;refine (HS.out.num a _ HN3.out.1 (by have:=HN3.out;unfold bJ;omega)).mono ?_;rintro e w5 ⟨rfl,hb⟩;have hcp:=bR (by exact hcl) hb;replace HO:=aa (Kd.R_below (ja HO.out) hb);replace HB:=aa (aj (show Below w.heap.size w _ from dZ) hb);clear hb)
   | (go_at_call 123;refine (oh (some t') (bL a) HD.out dZ HBz.out (ja HO.out) (λm h=>by cases h;rfl)).mono ?_;rintro e w4 ⟨rfl,hd2,hg2⟩;have HX:=aa (lS (show Below w.heap.size w _ from dZ) (x:=keepR l t (bL a) (some t')) ⟨rfl,hd2,hg2⟩);clear hd2 hg2))
  all_goals
   go_wp2;go_ret;exact HX.out
theorem Jr(a c:Int):(bL a++(⟨#[32]⟩:ByteArray))++bL c=kQ [a,c] ⟨#[32]⟩:=by
 apply ByteArray.ext;apply Array.ext';unfold kQ kv bL;simp[Lib.join_cons,Lib.joinTail,ByteArray.data_append]
theorem pJ(n:Int)(h:bJ n):(bL n).size<=20:=qF n h
theorem CF{F:aN}{B g:Nat}{l t m:List Int}{w:World}{k:Int}(hk0:0<=k)(hk9:k<=999999)(hq:F.find t k=none)(h:fE F B g l t m [k] w):Calls Tryz.prog 75 #[.pointer (some ⟨g,0,none⟩),.string ⟨#[102,105,110,100]⟩] w (eY B g (⟨l,t,iI⟩) m [k] w):=by
 obtain ⟨hF,hP,hS,hd,hl,ht,hm,hB⟩:=h;obtain ⟨A,c,A',c',A2,c2,A3,c3,HL,HT,HM2,HN,hc0,hc1,hc2,hc3⟩:=hd.open_;have HD:=aa hd;have HS:=aa hS;have HBz:=aa hB;have HB:=aa (Below.refl w.heap.size w);obtain ⟨adn,rfl,hxn⟩:=nH HN.out;have HC:=aa λW hW=>hS.find A' c' t k W hW ht hk0 hk9;rw[hq]at HC;clear hq hd hF hP hS hB hl ht hm;go_enter Tryz.func75,Tryz.ntmps75;go_wp2
 go_region_held3 (λW:World=>W.cell? ⟨g,1,none⟩=some (.slice A' t.length c')/\W.cell? ⟨g,3,none⟩=some (.slice (some adn) 1 c3)/\W.cell? adn=some (.int .i64 k)) (first|exact ⟨hc1,hc3,hxn⟩|exact ⟨bR hc1 aW,bR hc3 aW,bR hxn aW⟩) (first|(go_at_call 137;refine (HC.out _ (aM.below HT.out aW)).mono ?_;rintro e w1 ⟨a',n',rfl,hm,hb⟩;replace HB:=aa (aj (show Below w.heap.size w _ from aW) hb);clear hm hb))
 go_wp2;go_ret;exact kM HD.out HB.out
theorem JM{F:aN}{B g:Nat}{l t m:List Int}{w:World}{k:Int}(hk0:0<=k)(hk9:k<=999999){a b:Int}(hq:F.find t k=some (a,b))(h:fE F B g l t m [k] w):Calls Tryz.prog 75 #[.pointer (some ⟨g,0,none⟩),.string ⟨#[102,105,110,100]⟩] w (eY B g (⟨l,t,kQ [a,b] ⟨#[32]⟩⟩) m [k] w):=by
 obtain ⟨hF,hP,hS,hd,hl,ht,hm,hB⟩:=h;obtain ⟨A,c,A',c',A2,c2,A3,c3,HL,HT,HM2,HN,hc0,hc1,hc2,hc3⟩:=hd.open_;have HD:=aa hd;have HS:=aa hS;have HBz:=aa hB;have HB:=aa (Below.refl w.heap.size w);obtain ⟨adn,rfl,hxn⟩:=nH HN.out;have HC:=aa λW hW=>hS.find A' c' t k W hW ht hk0 hk9;rw[hq]at HC;obtain ⟨ha0,ha9,hb0,hb9⟩:=hF.find t k a b ht hq
 have ga:bJ a:=⟨by omega,by omega⟩
 have gb:bJ b:=⟨by omega,by omega⟩
 have HZ:=aa (Jr a b);have s1:=pJ a ga;have s2:=pJ b gb;have HNA:=aa λW=>hS.num a W ha0 ga;have HNB:=aa λW=>hS.num b W hb0 gb
 obtain ⟨xa,hxa⟩:∃x,x=bL a:=⟨_,rfl⟩
 obtain ⟨xb,hxb⟩:∃x,x=bL b:=⟨_,rfl⟩
 rw[<- hxa]at s1 HNA HZ;rw[<- hxb]at s2 HNB HZ
 have e0:xa.size+1<=9223372036854775807:=by omega
 have e1:(xa++(⟨#[32]⟩:ByteArray)).size+xb.size<=9223372036854775807:=by rw[ByteArray.size_append];have:(⟨#[32]⟩:ByteArray).size=1:=rfl;omega
 have e2:xa.size+1+xb.size<=9223372036854775807:=by omega
 have h0:=eq_true e2;have h1:=decide_eq_true e2;have h2:(9223372036854775807<xa.size+1+xb.size)=False:=eq_false (Nat.not_lt.2 e2);have f0:=eq_true e0;have f1:=decide_eq_true e0;have f2:(9223372036854775807<xa.size+1)=False:=eq_false (Nat.not_lt.2 e0);have g0:=eq_true e1;have g1:=decide_eq_true e1;have g2:(9223372036854775807<(xa++(⟨#[32]⟩:ByteArray)).size+xb.size)=False:=eq_false (Nat.not_lt.2 e1);clear e0 e1 e2 s1 s2 hxa hxb ha0 ha9 hb0 hb9 ga gb hq hd hF hP hS hB hl ht hm;go_enter Tryz.func75,Tryz.ntmps75;go_wp2
 go_region_held3 (λW:World=>W.cell? ⟨g,1,none⟩=some (.slice A' t.length c')/\W.cell? ⟨g,3,none⟩=some (.slice (some adn) 1 c3)/\W.cell? adn=some (.int .i64 k)) (first|exact ⟨hc1,hc3,hxn⟩|exact ⟨bR hc1 aW,bR hc3 aW,bR hxn aW⟩) (first|(go_at_call 137;refine (HC.out _ (aM.below HT.out aW)).mono ?_;rintro e w1 ⟨a',n',rfl,hm,hb⟩;cases hm _ rfl;replace HB:=aa (aj (show Below w.heap.size w _ from aW) hb);clear hm hb))
 go_wp2_with (first
  | (go_at_call_of 86 a;refine (HNA.out _).mono ?_;rintro e w2 ⟨rfl,hb⟩;replace HB:=aa (aj HB.out hb);clear hb)
  | (go_at_call_of 86 b;refine (HNB.out _).mono ?_;rintro e w3 ⟨rfl,hb⟩;replace HB:=aa (aj HB.out hb);clear hb))
 go_ret;rw[HZ.out];exact kM HD.out HB.out
end Go.Proofs.YtjdlhefjgceabaaGreatDoor.Hand

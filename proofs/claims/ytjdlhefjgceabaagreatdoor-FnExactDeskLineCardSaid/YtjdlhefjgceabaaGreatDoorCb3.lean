/- The reference's console: the line in memory, and what it asks. Conditions: numbers that are not negative. -/
import Derived.Test.YtjdlhefjgceabaaGreatDoorCa3
import Derived.Deep.RegionHeld3
import Derived.Deep.RegionWith
namespace Go.Proofs.YtjdlhefjgceabaaGreatDoor.Hand
open Go.RowKit Go.Proofs.YtjdlhefjgceabaaGreatDoorW.PrintWords Go.Proofs.YtjdlhefjgceabaaGreatDoorW.PrintLast Go.Proofs.YtjdlhefjgceabaaGreatDoorW.PrintMore
set_option linter.unusedVariables false
set_option linter.unusedSimpArgs false
set_option maxRecDepth 100000
set_option maxHeartbeats 1000000
structure Pos (F:Fns):Prop where
 cars:∀ l,F.park l = true->∀ x ∈ F.cars l,0<=x
 far:∀ l,F.park l = true->∀ x ∈ F.far l,0<=x
 cuts:∀ l,F.park l = true->∀ x ∈ F.cuts l,0<=x
 cls:∀ l m,F.cls l = some m->∀ x ∈ m,0<=x
 rank:∀ l,F.park l = true->0<=F.rank l
 count:∀ n m,F.count n = some m->0<=m
 back:∀ n m,F.back n = some m->0<=m
 cost:∀ t,F.tab t = true->0<=F.cost t
 ins:∀ t n t' a,F.tab t = true->F.ins t n = some (t',a)->0<=a
def GotOne (l:List Int) (w:World) (e:Ending) (w':World):Prop:=∃ v,e = .returned v/\Kd.R (Kd.int .i64) 3 w' w.heap.size (fun _=>True) v l/\Below w.heap.size w w'
def GotS (r:ByteArray) (w:World) (e:Ending) (w':World):Prop:=e = .returned (.string r)/\Below w.heap.size w w'
def shapeB (s:ByteArray):ByteArray :=
 if s.toList = [110,101,120,116] \/ s.toList = [99,97,114,115] \/ s.toList = [102,97,114] \/ s.toList = [99,117,116,115] \/ s.toList = [114,97,110,107] \/ s.toList = [116,97,98,108,101] \/ s.toList = [99,111,115,116] \/ s.toList = [108,105,115,116] then ⟨#[]⟩ else
 if s.toList = [99,111,117,110,116] \/ s.toList = [98,97,99,107] \/ s.toList = [110,101,119] \/ s.toList = [112,117,116] \/ s.toList = [100,114,111,112] \/ s.toList = [102,105,110,100] then ⟨#[110]⟩ else
 if s.toList = [97,116] then ⟨#[110,110]⟩ else
 if s.toList = [116,97,107,101] \/ s.toList = [106,111,105,110] \/ s.toList = [99,108,97,115,115] then ⟨#[108]⟩ else ⟨#[63]⟩
def readI (s:ByteArray):Int:=(rdCount s).getD (-1)
structure SpecOk (F:Fns):Prop where
 split32:∀ s w,s.size<=2000000->Calls Tryz.prog 48 #[.string s,.int .u8 32] w fun e w'=>∃ v,e = .returned v/\Kd.R Kd.string 9 w' w.heap.size (fun _=>True) v (pieces s 32)/\Below w.heap.size w w'
 split10:∀ s w,s.size<=2000000->Calls Tryz.prog 48 #[.string s,.int .u8 10] w fun e w'=>∃ v,e = .returned v/\Kd.R Kd.string 9 w' w.heap.size (fun _=>True) v (pieces s 10)/\Below w.heap.size w w'
 shape:∀ s w,Calls Tryz.prog 115 #[.string s] w (GotS (shapeB s) w)
 read:∀ s w,s.size<=2000000->Calls Tryz.prog 116 #[.string s] w fun e w'=>e = .returned (.int .i64 (readI s))/\Below w.heap.size w w'
 parse:∀ s w,s.size<=3000->Calls Tryz.prog 117 #[.string s] w (GotList (told s) w)
 park:∀ A c l w,Lst w A c l->Few l->Calls Tryz.prog 71 #[.slice A l.length c] w fun e w'=>e = .returned (.bool (F.park l))/\Below w.heap.size w w'
 next:∀ A c l w,Lst w A c l->F.park l = true->Calls Tryz.prog 119 #[.slice A l.length c] w (GotList (F.next l) w)
 at_:∀ n r w,0<=n->n<=999999->0<=r->r<=999999->Calls Tryz.prog 120 #[.int .i64 n,.int .i64 r] w (GotList (F.at_ n r) w)
 join:∀ A c l A' c' m w,Lst w A c l->Lst w A' c' m->F.park l = true->Few m->Calls Tryz.prog 121 #[.slice A l.length c,.slice A' m.length c'] w (GotList (F.join l m) w)
 empty:∀ n w,0<=n->n<=999999->Calls Tryz.prog 122 #[.int .i64 n] w (GotTable (F.empty n) w)
 ins:∀ A c t n w,Lst w A c t->F.tab t = true->0<=n->n<=999999->Calls Tryz.prog 124 #[.agg #[.slice A t.length c],.int .i64 n] w (GotIns (F.ins t n) w)
 rem:∀ A c t n w,Lst w A c t->F.tab t = true->0<=n->n<=999999->Calls Tryz.prog 125 #[.agg #[.slice A t.length c],.int .i64 n] w (GotTable (F.rem t n) w)
 num:∀ n w,0<=n->I64 n->Calls Tryz.prog 86 #[.int .i64 n] w (GotS (itoaB n) w)
 text:∀ A c l w,Lst w A c l->Few l->(∀ x ∈ l,0<=x)->Calls Tryz.prog 89 #[.slice A l.length c] w (GotS (dashB l) w)
 cars:∀ A c l w,Lst w A c l->F.park l = true->Calls Tryz.prog 126 #[.slice A l.length c,.int .i64 (l.length:Int)] w (GotOne (F.cars l) w)
 far:∀ A c l w,Lst w A c l->F.park l = true->Calls Tryz.prog 127 #[.slice A l.length c,.int .i64 (l.length:Int)] w (GotOne (F.far l) w)
 cuts:∀ A c l w,Lst w A c l->F.park l = true->Calls Tryz.prog 128 #[.slice A l.length c] w (GotOne (F.cuts l) w)
 rank:∀ A c l w,Lst w A c l->F.park l = true->Calls Tryz.prog 130 #[.slice A l.length c] w (GotNum (some (F.rank l)) w)
 count:∀ n w,0<=n->n<=999999->Calls Tryz.prog 131 #[.int .i64 n] w (GotNum (F.count n) w)
 back:∀ n w,0<=n->n<=999999->Calls Tryz.prog 134 #[.int .i64 3,.int .i64 n] w (GotNum (F.back n) w)
 cls:∀ A c l w,Lst w A c l->Few l->Calls Tryz.prog 132 #[.slice A l.length c] w (GotClass (F.cls l) w)
 cost:∀ A c t w,Lst w A c t->F.tab t = true->Calls Tryz.prog 136 #[.agg #[.slice A t.length c]] w (GotNum (some (F.cost t)) w)
 find:∀ A c t n w,Lst w A c t->F.tab t = true->0<=n->n<=999999->Calls Tryz.prog 137 #[.agg #[.slice A t.length c],.int .i64 n] w (GotFind (F.find t n) w)
 table:∀ A c t w,Lst w A c t->F.tab t = true->Calls Tryz.prog 135 #[.agg #[.slice A t.length c]] w (GotS (textB t) w)
structure LineAt (w:World) (B g:Nat) (l t m n:List Int):Prop where
 lo:B<=g
 rows:∃ v0 v1 v2 v3,w.heap[g]? = some (.cells #[v0,v1,v2,v3] 87 (0,0))/\Kd.R (Kd.int .i64) 3 w B (fun _=>True) v0 l/\Kd.R (Kd.int .i64) 3 w B (fun _=>True) v1 t/\Kd.R (Kd.int .i64) 3 w B (fun _=>True) v2 m/\Kd.R (Kd.int .i64) 3 w B (fun _=>True) v3 n/\NeRow v0 v1/\NeRow v2 v1
theorem LineAt.below {w w':World} {B g:Nat} {l t m n:List Int} (h:LineAt w B g l t m n) (hb:Below w.heap.size w w'):LineAt w' B g l t m n:=by
 obtain ⟨h0,v0,v1,v2,v3,h1,h2,h3,h4,h5,h6⟩:=h;exact ⟨h0,v0,v1,v2,v3,blk_below h1 hb,Kd.R_below h2 hb,Kd.R_below h3 hb,Kd.R_below h4 hb,Kd.R_below h5 hb,h6⟩
theorem LineAt.open_ {w:World} {B g:Nat} {l t m n:List Int} (h:LineAt w B g l t m n):∃ A c A' c' A2 c2 A3 c3,Aside0 (Lst w A c l)/\Aside0 (Lst w A' c' t)/\Aside0 (Lst w A2 c2 m)/\Aside0 (Lst w A3 c3 n)/\w.cell? ⟨g,0,none⟩ = some (.slice A l.length c)/\w.cell? ⟨g,1,none⟩ = some (.slice A' t.length c')/\w.cell? ⟨g,2,none⟩ = some (.slice A2 m.length c2)/\w.cell? ⟨g,3,none⟩ = some (.slice A3 n.length c3):=by
 obtain ⟨_,v0,v1,v2,v3,h1,h2,h3,h4,h5,_,_⟩:=h;obtain ⟨A,c,rfl,p0,q0⟩:=Kd.R_reads h2;obtain ⟨A',c',rfl,p1,q1⟩:=Kd.R_reads h3;obtain ⟨A2,c2,rfl,p2,q2⟩:=Kd.R_reads h4;obtain ⟨A3,c3,rfl,p3,q3⟩:=Kd.R_reads h5;exact ⟨A,c,A',c',A2,c2,A3,c3,⟨q0,p0⟩,⟨q1,p1⟩,⟨q2,p2⟩,⟨q3,p3⟩,(blk_cell h1 0).trans rfl,(blk_cell h1 1).trans rfl,(blk_cell h1 2).trans rfl,(blk_cell h1 3).trans rfl⟩
def LeftL (B g:Nat) (x:Res) (m n:List Int) (w:World) (e:Ending) (w':World):Prop:=e = .returned (.string x.r)/\LineAt w' B g x.l x.t m n/\w.grownBy w' (some g)
theorem leftL_then {B g:Nat} {x:Res} {m n:List Int} {w w1 w2:World} {e:Ending} (hb:Below w.heap.size w w1) (h:LeftL B g x m n w1 e w2):LeftL B g x m n w e w2:=⟨h.1,h.2.1,grown_trans (grown_of_below hb _) h.2.2⟩
theorem give_any (o:Option (List Int)) {v:Value} {B g:Nat} {l l' t m n:List Int} {w0 w:World} (hd:LineAt w0 B g l t m n) (hb:Below w0.heap.size w0 w) (hB0:B<=w0.heap.size) (hv:Kd.R (Kd.int .i64) 3 w w0.heap.size (fun _=>True) v l') (ho:∀ m,o = some m->l' = m) :
  Calls Tryz.prog 118 #[.pointer (some ⟨g,0,none⟩),v,.bool o.isSome] w (LeftL B g (moveR l t o) m n w):=by
 cases o with
 | none =>
  have HD:=am_ (hd.below hb);clear hd hb hv ho;go_enter Tryz.func118,Tryz.ntmps118;go_wp2;go_ret;exact ⟨rfl,HD.out,World.grownBy.refl _ _⟩
 | some p =>
  obtain rfl:=ho p rfl;obtain ⟨hB,v0,v1,v2,v3,h1,h2,h3,h4,h5,h6⟩:=hd;obtain ⟨h6,h7⟩:=h6;have hne:=ne_new hv h3;replace h1:=blk_below h1 hb;replace h3:=Kd.R_below h3 hb;replace h4:=Kd.R_below h4 hb;replace h5:=Kd.R_below h5 hb;obtain ⟨A,c,rfl⟩:=Kd.R_slice hv
  have HR:=am_ (show LineAt (w.setCell ⟨g,0,none⟩ (.slice A l'.length c)) B g l' t m n from
   ⟨hB,.slice A l'.length c,v1,v2,v3,blk_put h1 0 _ rfl,Kd.R_set (Kd.R_lower hv hB0) h1 (by decide) _ _,Kd.R_set h3 h1 (by decide) _ _,Kd.R_set h4 h1 (by decide) _ _,Kd.R_set h5 h1 (by decide) _ _,hne,h7⟩)
  have hc:w.cell? ⟨g,0,none⟩ = some v0:=(blk_cell h1 0).trans rfl;have hf:=blk_frozen h1 0;clear h1 h2 h3 h4 h5 h6 h7 hv hB hb hB0 hne;go_enter Tryz.func118,Tryz.ntmps118;go_wp2;go_ret;exact ⟨rfl,HR.out,grown_set _ _ _⟩
def keepR (l t:List Int) (r:ByteArray):Option (List Int)->Res
 | some t'=>⟨l,t',r⟩
 | none=>⟨l,t,noB⟩
theorem keep_any (o:Option (List Int)) (r:ByteArray) {v:Value} {B g:Nat} {l t t' m n:List Int} {w0 w:World} (hd:LineAt w0 B g l t m n) (hb0:Below w0.heap.size w0 w) (hB0:B<=w0.heap.size) (hv:Kd.R (Kd.int .i64) 3 w w0.heap.size (fun _=>True) v t') (ho:∀ m,o = some m->t' = m) :
  Calls Tryz.prog 123 #[.pointer (some ⟨g,0,none⟩),.agg #[v],.bool o.isSome,.string r] w (LeftL B g (keepR l t r o) m n w):=by
 obtain ⟨A,c,rfl⟩:=Kd.R_slice hv;have hb:=below_alloc (Below.refl w.heap.size w) (.cells #[.slice A t'.length c] 34)
 cases o with
 | none =>
  have HD:=am_ ((hd.below hb0).below hb);have HB:=am_ (grown_of_below hb (some g));clear hd hb hv ho hb0;go_enter Tryz.func123,Tryz.ntmps123;go_wp2;go_ret;exact ⟨rfl,HD.out,HB.out⟩
 | some p =>
  obtain rfl:=ho p rfl;obtain ⟨hB,v0,v1,v2,v3,h1,h2,h3,h4,h5,h6⟩:=hd;obtain ⟨h6,h7⟩:=h6;have hne:NeRow v0 (.slice A t'.length c):=fun k h7 h8=>ne_new hv h2 k h8 h7;have hne2:NeRow v2 (.slice A t'.length c):=fun k h7 h8=>ne_new hv h4 k h8 h7
  obtain ⟨w1,hw1⟩:∃ w1,w1 = w.alloc (.cells #[.slice A t'.length c] 34):=⟨_,rfl⟩
  rw [<- hw1] at hb;have hv1:=Kd.R_below hv hb;replace h1:=blk_below (blk_below h1 hb0) hb;replace h2:=Kd.R_below (Kd.R_below h2 hb0) hb;replace h4:=Kd.R_below (Kd.R_below h4 hb0) hb;replace h5:=Kd.R_below (Kd.R_below h5 hb0) hb
  have HR:=am_ (show LineAt (w1.setCell ⟨g,1,none⟩ (.slice A t'.length c)) B g l t' m n from
   ⟨hB,v0,.slice A t'.length c,v2,v3,blk_put h1 1 _ rfl,Kd.R_set h2 h1 (by decide) _ _,Kd.R_set (Kd.R_lower hv1 hB0) h1 (by decide) _ _,Kd.R_set h4 h1 (by decide) _ _,Kd.R_set h5 h1 (by decide) _ _,hne,hne2⟩)
  have HG:=am_ (grown_trans (grown_of_below hb (some g)) (grown_set (w:=w1) g 1 (.slice A t'.length c)));subst hw1;have hc:(w.alloc (.cells #[.slice A t'.length c] 34)).cell? ⟨g,1,none⟩ = some v1:=(blk_cell h1 1).trans rfl;have hf:=blk_frozen h1 1;clear h1 h2 h3 h4 h5 h6 h7 hv hv1 hB hb hb0 hB0 hne hne2;go_enter Tryz.func123,Tryz.ntmps123;go_wp2;go_ret;exact ⟨rfl,HR.out,HG.out⟩
theorem told_any {F:Fns} (hS:SpecOk F) (o:Option (List Int)) (v:Value) (l:List Int) (base:Nat) (w:World) (hv:Kd.R (Kd.int .i64) 3 w base (fun _=>True) v l) (ho:∀ m,o = some m->l = m) (hf:∀ m,o = some m->Few m) (hp:∀ m,o = some m->∀ x ∈ m,0<=x) :
  Calls Tryz.prog 133 #[v,.bool o.isSome] w (GotS (listB o) w):=by
 cases o with
 | none =>
  clear hv ho hf hp hS;go_enter Tryz.func133,Tryz.ntmps133;go_wp2;go_ret;exact ⟨rfl,Below.refl _ _⟩
 | some m =>
  obtain rfl:=ho m rfl;obtain ⟨A,c,rfl,h1,h2⟩:=Kd.R_reads hv;have HC:=am_ (hS.text A c l w ⟨h2,h1⟩ (hf l rfl) (hp l rfl));clear hv ho hf hp hS h1 h2;go_enter Tryz.func133,Tryz.ntmps133
  go_wp2_with (go_at_call 89;refine HC.out.mono ?_;rintro e w1 ⟨rfl,hb⟩)
  go_ret;exact ⟨rfl,hb⟩
theorem number_any {F:Fns} (hS:SpecOk F) (o:Option Int) (n:Int) (w:World) (ho:∀ m,o = some m->n = m) (hf:∀ m,o = some m->I64 m) (hp:∀ m,o = some m->0<=m) :
  Calls Tryz.prog 129 #[.int .i64 n,.bool o.isSome] w (GotS (numB o) w):=by
 cases o with
 | none =>
  clear ho hf hp hS;go_enter Tryz.func129,Tryz.ntmps129;go_wp2;go_ret;exact ⟨rfl,Below.refl _ _⟩
 | some m =>
  obtain rfl:=ho m rfl;have HC:=am_ (hS.num n w (hp n rfl) (hf n rfl));clear ho hf hp hS;go_enter Tryz.func129,Tryz.ntmps129
  go_wp2_with (go_at_call 86;refine HC.out.mono ?_;rintro e w1 ⟨rfl,hb⟩)
  go_ret;exact ⟨rfl,hb⟩
structure StandL (F:Fns) (B g:Nat) (l t m n:List Int) (w:World):Prop where
 good:Good F
 pos:Pos F
 spec:SpecOk F
 at_:LineAt w B g l t m n
 park:F.park l = true
 tab:F.tab t = true
 few:Few m
 low:B<=w.heap.size
theorem leftL_of {B g:Nat} {l t m n:List Int} {w w1:World} {r:ByteArray} (hd:LineAt w B g l t m n) (hb:Below w.heap.size w w1):LeftL B g ⟨l,t,r⟩ m n w (.returned (.string r)) w1:=⟨rfl,hd.below hb,grown_of_below hb _⟩
theorem numR_leftL {B g:Nat} {l t m n:List Int} {w w1:World} {o:Option Int} (hd:LineAt w B g l t m n) (hb:Below w.heap.size w w1):LeftL B g (numR l t o) m n w (.returned (.string (numB o))) w1:=by
 cases o with
 | none=>exact leftL_of hd hb
 | some k=>exact leftL_of hd hb
theorem num_at {w:World} {A:Option Addr} {c:Nat} {k:Int} (h:Lst w A c [k]):∃ ad,A = some ad/\w.cell? ad = some (.int .i64 k):=by
 obtain ⟨ad,e,hx⟩:=Kd.at_int h.1 0 (by omega) (by simp);exact ⟨ad,e,by simpa [Addr.add,rd] using hx⟩
theorem asked_list {F:Fns} {B g:Nat} {l t m n:List Int} {w:World} (h:StandL F B g l t m n w):Calls Tryz.prog 75 #[.pointer (some ⟨g,0,none⟩),.string ⟨#[108,105,115,116]⟩] w (LeftL B g (⟨l,t,dashB l⟩) m n w):=by
 obtain ⟨hF,hP,hS,hd,hl,ht,hm,hB⟩:=h;obtain ⟨A,c,A',c',A2,c2,A3,c3,HL,HT,HM2,HN,hc0,hc1,hc2,hc3⟩:=hd.open_;have HD:=am_ hd;have HS:=am_ hS;have HC:=am_ (hS.text A c l w HL.out (few8 hF hl) (fun x hx=>((hF.park l hl).2 x hx).1));clear hd hF hP hS hB hl ht hm;go_enter Tryz.func75,Tryz.ntmps75
 go_wp2_with (first
  | (go_at_call 89;refine HC.out.mono ?_;rintro e w1 ⟨rfl,hb⟩;have HB:=am_ hb;clear hb))
 go_ret;exact leftL_of HD.out HB.out
theorem asked_cars {F:Fns} {B g:Nat} {l t m n:List Int} {w:World} (h:StandL F B g l t m n w):Calls Tryz.prog 75 #[.pointer (some ⟨g,0,none⟩),.string ⟨#[99,97,114,115]⟩] w (LeftL B g (⟨l,t,dashB (F.cars l)⟩) m n w):=by
 obtain ⟨hF,hP,hS,hd,hl,ht,hm,hB⟩:=h;obtain ⟨A,c,A',c',A2,c2,A3,c3,HL,HT,HM2,HN,hc0,hc1,hc2,hc3⟩:=hd.open_;have HD:=am_ hd;have HS:=am_ hS;have HC:=am_ (hS.cars A c l w HL.out hl);have HF:=am_ (hF.cars l hl);have HP:=am_ (hP.cars l hl);clear hd hF hP hS hB hl ht hm;go_enter Tryz.func75,Tryz.ntmps75
 go_wp2_with (first
  | (go_at_call 126;refine HC.out.mono ?_;rintro e w1 ⟨v,rfl,ho,hb⟩;obtain ⟨Av,cv,rfl,h1,h2⟩:=Kd.R_reads ho;have HV:=am_ (show Lst w1 Av cv _ from ⟨h2,h1⟩);have HB:=am_ hb;clear ho hb h1 h2)
  | (go_at_call 89;refine (HS.out.text Av cv _ _ HV.out HF.out HP.out).mono ?_;rintro e w2 ⟨rfl,hb⟩;replace HB:=am_ (below_step HB.out hb);clear hb))
 go_ret;exact leftL_of HD.out HB.out
theorem asked_far {F:Fns} {B g:Nat} {l t m n:List Int} {w:World} (h:StandL F B g l t m n w):Calls Tryz.prog 75 #[.pointer (some ⟨g,0,none⟩),.string ⟨#[102,97,114]⟩] w (LeftL B g (⟨l,t,dashB (F.far l)⟩) m n w):=by
 obtain ⟨hF,hP,hS,hd,hl,ht,hm,hB⟩:=h;obtain ⟨A,c,A',c',A2,c2,A3,c3,HL,HT,HM2,HN,hc0,hc1,hc2,hc3⟩:=hd.open_;have HD:=am_ hd;have HS:=am_ hS;have HC:=am_ (hS.far A c l w HL.out hl);have HF:=am_ (hF.far l hl);have HP:=am_ (hP.far l hl);clear hd hF hP hS hB hl ht hm;go_enter Tryz.func75,Tryz.ntmps75
 go_wp2_with (first
  | (go_at_call 127;refine HC.out.mono ?_;rintro e w1 ⟨v,rfl,ho,hb⟩;obtain ⟨Av,cv,rfl,h1,h2⟩:=Kd.R_reads ho;have HV:=am_ (show Lst w1 Av cv _ from ⟨h2,h1⟩);have HB:=am_ hb;clear ho hb h1 h2)
  | (go_at_call 89;refine (HS.out.text Av cv _ _ HV.out HF.out HP.out).mono ?_;rintro e w2 ⟨rfl,hb⟩;replace HB:=am_ (below_step HB.out hb);clear hb))
 go_ret;exact leftL_of HD.out HB.out
theorem asked_cuts {F:Fns} {B g:Nat} {l t m n:List Int} {w:World} (h:StandL F B g l t m n w):Calls Tryz.prog 75 #[.pointer (some ⟨g,0,none⟩),.string ⟨#[99,117,116,115]⟩] w (LeftL B g (⟨l,t,dashB (F.cuts l)⟩) m n w):=by
 obtain ⟨hF,hP,hS,hd,hl,ht,hm,hB⟩:=h;obtain ⟨A,c,A',c',A2,c2,A3,c3,HL,HT,HM2,HN,hc0,hc1,hc2,hc3⟩:=hd.open_;have HD:=am_ hd;have HS:=am_ hS;have HC:=am_ (hS.cuts A c l w HL.out hl);have HF:=am_ (hF.cuts l hl);have HP:=am_ (hP.cuts l hl);clear hd hF hP hS hB hl ht hm;go_enter Tryz.func75,Tryz.ntmps75
 go_wp2_with (first
  | (go_at_call 128;refine HC.out.mono ?_;rintro e w1 ⟨v,rfl,ho,hb⟩;obtain ⟨Av,cv,rfl,h1,h2⟩:=Kd.R_reads ho;have HV:=am_ (show Lst w1 Av cv _ from ⟨h2,h1⟩);have HB:=am_ hb;clear ho hb h1 h2)
  | (go_at_call 89;refine (HS.out.text Av cv _ _ HV.out HF.out HP.out).mono ?_;rintro e w2 ⟨rfl,hb⟩;replace HB:=am_ (below_step HB.out hb);clear hb))
 go_ret;exact leftL_of HD.out HB.out
theorem asked_rank {F:Fns} {B g:Nat} {l t m n:List Int} {w:World} (h:StandL F B g l t m n w):Calls Tryz.prog 75 #[.pointer (some ⟨g,0,none⟩),.string ⟨#[114,97,110,107]⟩] w (LeftL B g (⟨l,t,itoaB (F.rank l)⟩) m n w):=by
 obtain ⟨hF,hP,hS,hd,hl,ht,hm,hB⟩:=h;obtain ⟨A,c,A',c',A2,c2,A3,c3,HL,HT,HM2,HN,hc0,hc1,hc2,hc3⟩:=hd.open_;have HD:=am_ hd;have HS:=am_ hS;have HC:=am_ (hS.rank A c l w HL.out hl);have HF:=am_ (hF.rank l hl);have HP:=am_ (hP.rank l hl);clear hd hF hP hS hB hl ht hm;go_enter Tryz.func75,Tryz.ntmps75
 go_wp2_with (first
  | (go_at_call 130;refine HC.out.mono ?_;rintro e w1 ⟨n',rfl,hm,hb⟩;have HM:=am_ hm;have HB:=am_ hb;clear hm hb)
  | (go_at_call 129;refine (number_any HS.out (some (F.rank l)) _ _ HM.out (fun m h=>by cases h;exact HF.out) (fun m h=>by cases h;exact HP.out)).mono ?_;rintro e w2 ⟨rfl,hb⟩;replace HB:=am_ (below_step HB.out hb);clear hb))
 go_ret;exact leftL_of HD.out HB.out
theorem asked_cost {F:Fns} {B g:Nat} {l t m n:List Int} {w:World} (h:StandL F B g l t m n w):Calls Tryz.prog 75 #[.pointer (some ⟨g,0,none⟩),.string ⟨#[99,111,115,116]⟩] w (LeftL B g (⟨l,t,itoaB (F.cost t)⟩) m n w):=by
 obtain ⟨hF,hP,hS,hd,hl,ht,hm,hB⟩:=h;obtain ⟨A,c,A',c',A2,c2,A3,c3,HL,HT,HM2,HN,hc0,hc1,hc2,hc3⟩:=hd.open_;have HD:=am_ hd;have HS:=am_ hS;have HC:=am_ (hS.cost A' c' t w HT.out ht);have HF:=am_ (hF.cost t ht);have HP:=am_ (hP.cost t ht);clear hd hF hP hS hB hl ht hm;go_enter Tryz.func75,Tryz.ntmps75
 go_wp2_with (first
  | (go_at_call 136;refine HC.out.mono ?_;rintro e w1 ⟨n',rfl,hm,hb⟩;have HM:=am_ hm;have HB:=am_ hb;clear hm hb)
  | (go_at_call 129;refine (number_any HS.out (some (F.cost t)) _ _ HM.out (fun m h=>by cases h;exact HF.out) (fun m h=>by cases h;exact HP.out)).mono ?_;rintro e w2 ⟨rfl,hb⟩;replace HB:=am_ (below_step HB.out hb);clear hb))
 go_ret;exact leftL_of HD.out HB.out
theorem asked_table {F:Fns} {B g:Nat} {l t m n:List Int} {w:World} (h:StandL F B g l t m n w):Calls Tryz.prog 75 #[.pointer (some ⟨g,0,none⟩),.string ⟨#[116,97,98,108,101]⟩] w (LeftL B g (⟨l,t,textB t⟩) m n w):=by
 obtain ⟨hF,hP,hS,hd,hl,ht,hm,hB⟩:=h;obtain ⟨A,c,A',c',A2,c2,A3,c3,HL,HT,HM2,HN,hc0,hc1,hc2,hc3⟩:=hd.open_;have HD:=am_ hd;have HS:=am_ hS;have HC:=am_ (hS.table A' c' t w HT.out ht);clear hd hF hP hS hB hl ht hm;go_enter Tryz.func75,Tryz.ntmps75
 go_wp2_with (first
  | (go_at_call 135;refine HC.out.mono ?_;rintro e w1 ⟨rfl,hb⟩;have HB:=am_ hb;clear hb))
 go_ret;exact leftL_of HD.out HB.out
theorem asked_count {F:Fns} {B g:Nat} {l t m:List Int} {w:World} {k:Int} (hk0:0<=k) (hk9:k<=999999) (h:StandL F B g l t m [k] w):Calls Tryz.prog 75 #[.pointer (some ⟨g,0,none⟩),.string ⟨#[99,111,117,110,116]⟩] w (LeftL B g (numR l t (F.count k)) m [k] w):=by
 obtain ⟨hF,hP,hS,hd,hl,ht,hm,hB⟩:=h;obtain ⟨A,c,A',c',A2,c2,A3,c3,HL,HT,HM2,HN,hc0,hc1,hc2,hc3⟩:=hd.open_;have HD:=am_ hd;have HS:=am_ hS;obtain ⟨adn,rfl,hxn⟩:=num_at HN.out;have HC:=am_ (hS.count k w hk0 hk9);have HF:=am_ (hF.count k);have HP:=am_ (hP.count k);clear hd hF hP hS hB hl ht hm;go_enter Tryz.func75,Tryz.ntmps75
 go_wp2_with (first
  | (go_at_call 131;refine HC.out.mono ?_;rintro e w1 ⟨n',rfl,hm,hb⟩;have HM:=am_ hm;have HB:=am_ hb;clear hm hb)
  | (go_at_call 129;refine (number_any HS.out (F.count k) _ _ HM.out (fun m h=>HF.out m h) (fun m h=>HP.out m h)).mono ?_;rintro e w2 ⟨rfl,hb⟩;replace HB:=am_ (below_step HB.out hb);clear hb))
 go_ret;exact numR_leftL HD.out HB.out
theorem asked_back {F:Fns} {B g:Nat} {l t m:List Int} {w:World} {k:Int} (hk0:0<=k) (hk9:k<=999999) (h:StandL F B g l t m [k] w):Calls Tryz.prog 75 #[.pointer (some ⟨g,0,none⟩),.string ⟨#[98,97,99,107]⟩] w (LeftL B g (numR l t (F.back k)) m [k] w):=by
 obtain ⟨hF,hP,hS,hd,hl,ht,hm,hB⟩:=h;obtain ⟨A,c,A',c',A2,c2,A3,c3,HL,HT,HM2,HN,hc0,hc1,hc2,hc3⟩:=hd.open_;have HD:=am_ hd;have HS:=am_ hS;obtain ⟨adn,rfl,hxn⟩:=num_at HN.out;have HC:=am_ (hS.back k w hk0 hk9);have HF:=am_ (hF.back k);have HP:=am_ (hP.back k);clear hd hF hP hS hB hl ht hm;go_enter Tryz.func75,Tryz.ntmps75
 go_wp2_with (first
  | (go_at_call 134;refine HC.out.mono ?_;rintro e w1 ⟨n',rfl,hm,hb⟩;have HM:=am_ hm;have HB:=am_ hb;clear hm hb)
  | (go_at_call 129;refine (number_any HS.out (F.back k) _ _ HM.out (fun m h=>HF.out m h) (fun m h=>HP.out m h)).mono ?_;rintro e w2 ⟨rfl,hb⟩;replace HB:=am_ (below_step HB.out hb);clear hb))
 go_ret;exact numR_leftL HD.out HB.out
theorem asked_class {F:Fns} {B g:Nat} {l t m n:List Int} {w:World} (h:StandL F B g l t m n w):Calls Tryz.prog 75 #[.pointer (some ⟨g,0,none⟩),.string ⟨#[99,108,97,115,115]⟩] w (LeftL B g (⟨l,t,listB (F.cls m)⟩) m n w):=by
 obtain ⟨hF,hP,hS,hd,hl,ht,hm,hB⟩:=h;obtain ⟨A,c,A',c',A2,c2,A3,c3,HL,HT,HM2,HN,hc0,hc1,hc2,hc3⟩:=hd.open_;have HD:=am_ hd;have HS:=am_ hS;have HC:=am_ (hS.cls A2 c2 m w HM2.out hm);have HF:=am_ (hF.cls m);have HP:=am_ (hP.cls m);clear hd hF hP hS hB hl ht hm;go_enter Tryz.func75,Tryz.ntmps75
 go_wp2_with (first
  | (go_at_call 132;refine HC.out.mono ?_;rintro e w1 ⟨v,l',n',rfl,ho,hm,hb⟩;have HO:=am_ ho;have HM:=am_ hm;have HB:=am_ hb;clear ho hm hb)
  | (go_at_call 133;refine (told_any HS.out (F.cls m) _ _ _ _ HO.out HM.out (fun m h=>HF.out m h) (fun m h=>HP.out m h)).mono ?_;rintro e w2 ⟨rfl,hb⟩;replace HB:=am_ (below_step HB.out hb);clear hb))
 go_ret;exact leftL_of HD.out HB.out
theorem num_at2 {w:World} {A:Option Addr} {c:Nat} {k r:Int} (h:Lst w A c [k,r]):∃ ad,A = some ad/\w.cell? ad = some (.int .i64 k)/\w.cell? ⟨ad.block,ad.off + 1,none⟩ = some (.int .i64 r)/\w.cell? (ad.add 1) = some (.int .i64 r):=by
 obtain ⟨ad,e,hx⟩:=Kd.at_int h.1 0 (by omega) (by simp);obtain ⟨ad',e',hy⟩:=Kd.at_int h.1 1 (by omega) (by simp);cases e;cases e';exact ⟨ad,rfl,by simpa [Addr.add,rd] using hx,by simpa [Addr.add,rd] using hy,by simpa [rd] using hy⟩
theorem cell_b {w w1:World} {a:Addr} {v:Value} (h:w.cell? a = some v) (hb:Below w.heap.size w w1):w1.cell? a = some v:=(hb.cell (World.block_lt_of_cell? w _ h)).trans h
theorem moved_next {F:Fns} {B g:Nat} {l t m n:List Int} {w:World} (h:StandL F B g l t m n w):Calls Tryz.prog 74 #[.pointer (some ⟨g,0,none⟩),.string ⟨#[110,101,120,116]⟩] w (LeftL B g (moveR l t (F.next l)) m n w):=by
 obtain ⟨hF,hP,hS,hd,hl,ht,hm,hB⟩:=h;obtain ⟨A,c,A',c',A2,c2,A3,c3,HL,HT,HM2,HN,hc0,hc1,hc2,hc3⟩:=hd.open_;have HD:=am_ hd;have HS:=am_ hS;have HBz:=am_ hB;have HB:=am_ (Below.refl w.heap.size w);have HC:=am_ (hS.next A c l w HL.out hl);clear hd hF hP hS hB hl ht hm;go_enter Tryz.func74,Tryz.ntmps74
 go_wp2_with (first
  | (go_at_call 119;refine HC.out.mono ?_;rintro e w3 ⟨v3,l3,rfl,ho,hm3,hb⟩;have HO:=am_ ho;have HM3:=am_ hm3;replace HB:=am_ (below_step (show Below w.heap.size w _ from bw_) hb);clear ho hm3 hb)
  | (go_at_call 118;refine (give_any (F.next l) HD.out bw_ HBz.out HO.out HM3.out).mono ?_;rintro e w4 ⟨rfl,hd2,hg2⟩;have HX:=am_ (leftL_then (show Below w.heap.size w _ from bw_) (x:=moveR l t (F.next l)) ⟨rfl,hd2,hg2⟩);clear hd2 hg2))
 go_ret;exact HX.out
theorem give_told (o:Option (List Int)) {B g:Nat} {A2:Option Addr} {c2:Nat} {l t m n:List Int} {w:World} (hd:LineAt w B g l t m n) (hc2:w.cell? ⟨g,2,none⟩ = some (.slice A2 m.length c2)) (ho:∀ p,o = some p->m = p) :
  Calls Tryz.prog 118 #[.pointer (some ⟨g,0,none⟩),.slice A2 m.length c2,.bool o.isSome] w fun e w'=>LeftL B g (moveR l t o) m n w e w'/\w'.cell? ⟨g,2,none⟩ = some (.slice A2 m.length c2):=by
 cases o with
 | none =>
  have HD:=am_ hd;have HC2:=am_ hc2;clear hd hc2 ho;go_enter Tryz.func118,Tryz.ntmps118;go_wp2;go_ret;exact ⟨⟨rfl,HD.out,World.grownBy.refl _ _⟩,HC2.out⟩
 | some p =>
  obtain rfl:=ho p rfl;obtain ⟨hB,v0,v1,v2,v3,h1,h2,h3,h4,h5,h6,h7⟩:=hd;have e2:v2 = .slice A2 m.length c2:=Option.some.inj (((blk_cell h1 2).trans rfl).symm.trans hc2);subst e2
  have HR:=am_ (show LineAt (w.setCell ⟨g,0,none⟩ (.slice A2 m.length c2)) B g m t m n from
   ⟨hB,.slice A2 m.length c2,v1,.slice A2 m.length c2,v3,blk_put h1 0 _ rfl,Kd.R_set h4 h1 (by decide) _ _,Kd.R_set h3 h1 (by decide) _ _,Kd.R_set h4 h1 (by decide) _ _,Kd.R_set h5 h1 (by decide) _ _,h7,h7⟩)
  have HC2:=am_ (show (w.setCell ⟨g,0,none⟩ (.slice A2 m.length c2)).cell? ⟨g,2,none⟩ = some (.slice A2 m.length c2) from (blk_cell (blk_set h1 0 _) 2).trans rfl);have hc:w.cell? ⟨g,0,none⟩ = some v0:=(blk_cell h1 0).trans rfl;have hf:=blk_frozen h1 0;clear h1 h2 h3 h4 h5 h6 h7 hB hc2;go_enter Tryz.func118,Tryz.ntmps118;go_wp2;go_ret;exact ⟨⟨rfl,HR.out,grown_set _ _ _⟩,HC2.out⟩
theorem moved_take {F:Fns} {B g:Nat} {l t m n:List Int} {w:World} (h:StandL F B g l t m n w):Calls Tryz.prog 74 #[.pointer (some ⟨g,0,none⟩),.string ⟨#[116,97,107,101]⟩] w (LeftL B g (moveR l t (if F.park m = true then some m else none)) m n w):=by
 obtain ⟨hF,hP,hS,hd,hl,ht,hm,hB⟩:=h;obtain ⟨A,c,A',c',A2,c2,A3,c3,HL,HT,HM2,HN,hc0,hc1,hc2,hc3⟩:=hd.open_;have HD:=am_ hd;have HS:=am_ hS;have HBz:=am_ hB;have HB:=am_ (Below.refl w.heap.size w);have HF:=am_ hm
 obtain ⟨o,ho⟩:∃ o:Option (List Int),o = (if F.park m = true then some m else none):=⟨_,rfl⟩
 have HPP:=am_ (show o.isSome = F.park m by rw [ho];cases F.park m <;> rfl);have HOO:=am_ (show ∀ p,o = some p->m = p from fun p hp=>by rw [ho] at hp;split at hp;cases hp;rfl;cases hp);rw [<- ho];clear ho hd hF hP hS hB hl ht hm;go_enter Tryz.func74,Tryz.ntmps74;go_wp2
 go_region_held3 (fun W:World=>W.cell? ⟨g,2,none⟩ = some (.slice A2 m.length c2)) (first | exact hc2 | exact cell_b hc2 HB.out | exact HX2.out) (first
  | (go_at_call 71;refine (HS.out.park A2 c2 m _ (Lst.below HM2.out bw_) HF.out).mono ?_;rintro e w3 ⟨rfl,hb⟩;replace HB:=am_ (below_step (show Below w.heap.size w _ from bw_) hb);clear hb;rw [<- HPP.out])
  | (go_at_call 118;refine (give_told o (HD.out.below bw_) (cell_b hc2 bw_) HOO.out).mono ?_;rintro e w4 ⟨⟨rfl,hd2,hg2⟩,hx2⟩;have HX2:=am_ hx2;have HX:=am_ (leftL_then (show Below w.heap.size w _ from bw_) (x:=moveR l t o) ⟨rfl,hd2,hg2⟩);clear hd2 hg2 hx2))
 all_goals
  go_wp2;go_ret;exact HX.out
theorem moved_join {F:Fns} {B g:Nat} {l t m n:List Int} {w:World} (h:StandL F B g l t m n w):Calls Tryz.prog 74 #[.pointer (some ⟨g,0,none⟩),.string ⟨#[106,111,105,110]⟩] w (LeftL B g (moveR l t (F.join l m)) m n w):=by
 obtain ⟨hF,hP,hS,hd,hl,ht,hm,hB⟩:=h;obtain ⟨A,c,A',c',A2,c2,A3,c3,HL,HT,HM2,HN,hc0,hc1,hc2,hc3⟩:=hd.open_;have HD:=am_ hd;have HS:=am_ hS;have HBz:=am_ hB;have HB:=am_ (Below.refl w.heap.size w);have HF:=am_ hm;have HPk:=am_ hl;clear hd hF hP hS hB hl ht hm;go_enter Tryz.func74,Tryz.ntmps74;go_wp2
 go_region_with (first
  | (go_at_call 121;refine (HS.out.join A c l A2 c2 m _ (Lst.below HL.out bw_) (Lst.below HM2.out bw_) HPk.out HF.out).mono ?_;rintro e w3 ⟨v3,l3,rfl,ho,hm3,hb⟩;have HO:=am_ (Kd.R_lower ho (below_size (show Below w.heap.size w _ from bw_)));have HM3:=am_ hm3;replace HB:=am_ (below_step (show Below w.heap.size w _ from bw_) hb);clear ho hm3 hb)
  | (go_at_call 118;refine (give_any (F.join l m) HD.out bw_ HBz.out HO.out HM3.out).mono ?_;rintro e w4 ⟨rfl,hd2,hg2⟩;have HX:=am_ (leftL_then (show Below w.heap.size w _ from bw_) (x:=moveR l t (F.join l m)) ⟨rfl,hd2,hg2⟩);clear hd2 hg2))
 all_goals
  go_wp2;go_ret;exact HX.out
theorem moved_at {F:Fns} {B g:Nat} {l t m:List Int} {w:World} {k r:Int} (hk0:0<=k) (hk9:k<=999999) (hr0:0<=r) (hr9:r<=999999) (h:StandL F B g l t m [k,r] w):Calls Tryz.prog 74 #[.pointer (some ⟨g,0,none⟩),.string ⟨#[97,116]⟩] w (LeftL B g (moveR l t (F.at_ k r)) m [k,r] w):=by
 obtain ⟨hF,hP,hS,hd,hl,ht,hm,hB⟩:=h;obtain ⟨A,c,A',c',A2,c2,A3,c3,HL,HT,HM2,HN,hc0,hc1,hc2,hc3⟩:=hd.open_;have HD:=am_ hd;have HS:=am_ hS;have HBz:=am_ hB;have HB:=am_ (Below.refl w.heap.size w);obtain ⟨adn,rfl,hxn,hyn,hyn2⟩:=num_at2 HN.out;have HC:=am_ fun W=>hS.at_ k r W hk0 hk9 hr0 hr9;clear hd hF hP hS hB hl ht hm;go_enter Tryz.func74,Tryz.ntmps74;go_wp2
 go_region_with (first
  | (go_at_call 120;refine (HC.out _).mono ?_;rintro e w3 ⟨v3,l3,rfl,ho,hm3,hb⟩;have HO:=am_ (Kd.R_lower ho (below_size (show Below w.heap.size w _ from bw_)));have HM3:=am_ hm3;replace HB:=am_ (below_step (show Below w.heap.size w _ from bw_) hb);clear ho hm3 hb)
  | (go_at_call 118;refine (give_any (F.at_ k r) HD.out bw_ HBz.out HO.out HM3.out).mono ?_;rintro e w4 ⟨rfl,hd2,hg2⟩;have HX:=am_ (leftL_then (show Below w.heap.size w _ from bw_) (x:=moveR l t (F.at_ k r)) ⟨rfl,hd2,hg2⟩);clear hd2 hg2))
 all_goals
  go_wp2;go_ret;exact HX.out
theorem bws_ {P:Prop} (h:P:=by repeat (first | (with_reducible first | exact HB.out | apply below_alloc | apply pw_below_drewN | apply below_drew1) | exact HB.out | refine below_set ?_ HB.out.size | refine below_set ?_ (Nat.le_refl _))):P:=h
theorem keepR_lay (l t:List Int) (o:Option (List Int)):keepR l t okB o = layR l t o:=by cases o <;> rfl
theorem moved_new {F:Fns} {B g:Nat} {l t m:List Int} {w:World} {k:Int} (hk0:0<=k) (hk9:k<=999999) (h:StandL F B g l t m [k] w):Calls Tryz.prog 74 #[.pointer (some ⟨g,0,none⟩),.string ⟨#[110,101,119]⟩] w (LeftL B g (keepR l t okB (F.empty k)) m [k] w):=by
 obtain ⟨hF,hP,hS,hd,hl,ht,hm,hB⟩:=h;obtain ⟨A,c,A',c',A2,c2,A3,c3,HL,HT,HM2,HN,hc0,hc1,hc2,hc3⟩:=hd.open_;have HD:=am_ hd;have HS:=am_ hS;have HBz:=am_ hB;have HB:=am_ (Below.refl w.heap.size w);obtain ⟨adn,rfl,hxn⟩:=num_at HN.out;have hxa:∀ o,(w.alloc o).cell? adn = some (.int .i64 k):=fun o=>cell_b hxn (below_alloc (Below.refl _ _) o);have hxg:∀ o,(w.alloc o).cell? ⟨g,3,none⟩ = some (.slice (some adn) 1 c3):=fun o=>cell_b hc3 (below_alloc (Below.refl _ _) o);have hxh:∀ o,(w.alloc o).cell? ⟨g,1,none⟩ = some (.slice A' t.length c'):=fun o=>cell_b hc1 (below_alloc (Below.refl _ _) o);have HC:=am_ (hS.empty k w hk0 hk9);clear hd hF hP hS hB hl ht hm;go_enter Tryz.func74,Tryz.ntmps74
 go_wp2_with (first
  | (go_at_call 122;refine HC.out.mono ?_;rintro e w3 ⟨v3,l3,rfl,ho,hm3,hb⟩;obtain ⟨Av,cv,rfl⟩:=Kd.R_slice ho;have HO:=am_ (Kd.R_lower ho (below_size (show Below w.heap.size w _ from bws_)));have HM3:=am_ hm3;replace HB:=am_ (below_step (show Below w.heap.size w _ from bws_) hb);clear ho hm3 hb)
  | (go_at_call 123;refine (keep_any (F.empty k) okB HD.out bw_ HBz.out (rs_ HO.out) HM3.out).mono ?_;rintro e w4 ⟨rfl,hd2,hg2⟩;have HX:=am_ (leftL_then (show Below w.heap.size w _ from bw_) (x:=keepR l t okB (F.empty k)) ⟨rfl,hd2,hg2⟩);clear hd2 hg2))
 go_ret;exact HX.out
theorem moved_drop {F:Fns} {B g:Nat} {l t m:List Int} {w:World} {k:Int} (hk0:0<=k) (hk9:k<=999999) (h:StandL F B g l t m [k] w):Calls Tryz.prog 74 #[.pointer (some ⟨g,0,none⟩),.string ⟨#[100,114,111,112]⟩] w (LeftL B g (keepR l t okB (F.rem t k)) m [k] w):=by
 obtain ⟨hF,hP,hS,hd,hl,ht,hm,hB⟩:=h;obtain ⟨A,c,A',c',A2,c2,A3,c3,HL,HT,HM2,HN,hc0,hc1,hc2,hc3⟩:=hd.open_;have HD:=am_ hd;have HS:=am_ hS;have HBz:=am_ hB;have HB:=am_ (Below.refl w.heap.size w);obtain ⟨adn,rfl,hxn⟩:=num_at HN.out;have hxa:∀ o,(w.alloc o).cell? adn = some (.int .i64 k):=fun o=>cell_b hxn (below_alloc (Below.refl _ _) o);have hxg:∀ o,(w.alloc o).cell? ⟨g,3,none⟩ = some (.slice (some adn) 1 c3):=fun o=>cell_b hc3 (below_alloc (Below.refl _ _) o);have hxh:∀ o,(w.alloc o).cell? ⟨g,1,none⟩ = some (.slice A' t.length c'):=fun o=>cell_b hc1 (below_alloc (Below.refl _ _) o);have HC:=am_ fun W hW=>hS.rem A' c' t k W hW ht hk0 hk9;clear hd hF hP hS hB hl ht hm;go_enter Tryz.func74,Tryz.ntmps74;go_wp2
 go_region_held3 (fun W:World=>W.cell? ⟨g,1,none⟩ = some (.slice A' t.length c')/\W.cell? ⟨g,3,none⟩ = some (.slice (some adn) 1 c3)/\W.cell? adn = some (.int .i64 k)) (first | exact ⟨hc1,hc3,hxn⟩ | exact ⟨cell_b hc1 bws_,cell_b hc3 bws_,cell_b hxn bws_⟩) (first | (go_at_call 125;refine (HC.out _ (Lst.below HT.out bws_)).mono ?_;rintro e w3 ⟨v3,l3,rfl,ho,hm3,hb⟩;(try (have hkn:=(hb.block w.heap.size (by simp)).trans (show ((w.alloc (.cells #[.slice none 0 0] 34)).drew).heap[w.heap.size]? = some (.cells #[.slice none 0 0] 34 (0,0)) from blk_drew (blk_new w _));have hcn:=(blk_cell hkn 0).trans rfl;have hfn:=blk_frozen hkn 0;have HBK:=am_ hkn;clear hkn));obtain ⟨Av,cv,rfl⟩:=Kd.R_slice ho;have HO:=am_ (Kd.R_lower ho (below_size (show Below w.heap.size w _ from bws_)));have HM3:=am_ hm3;replace HB:=am_ (below_step (show Below w.heap.size w _ from bws_) hb);clear ho hm3 hb))
 all_goals
  go_wp2_with (first
  | (go_at_call 123;(first | refine (keep_any (F.rem t k) okB HD.out bws_ HBz.out (rs_ HO.out) HM3.out).mono ?_ | refine (keep_any (F.rem t k) okB HD.out bws_ HBz.out (Kd.R_set HO.out HBK.out (by decide) 0 _) HM3.out).mono ?_);rintro e w4 ⟨rfl,hd2,hg2⟩;have HX:=am_ (leftL_then (show Below w.heap.size w _ from bws_) (x:=keepR l t okB (F.rem t k)) ⟨rfl,hd2,hg2⟩);clear hd2 hg2))
  go_ret;exact HX.out
theorem moved_put_no {F:Fns} {B g:Nat} {l t m:List Int} {w:World} {k:Int} (hk0:0<=k) (hk9:k<=999999) (hq:F.ins t k = none) (h:StandL F B g l t m [k] w):Calls Tryz.prog 74 #[.pointer (some ⟨g,0,none⟩),.string ⟨#[112,117,116]⟩] w (LeftL B g (⟨l,t,noB⟩) m [k] w):=by
 obtain ⟨hF,hP,hS,hd,hl,ht,hm,hB⟩:=h;obtain ⟨A,c,A',c',A2,c2,A3,c3,HL,HT,HM2,HN,hc0,hc1,hc2,hc3⟩:=hd.open_;have HD:=am_ hd;have HS:=am_ hS;have HBz:=am_ hB;have HB:=am_ (Below.refl w.heap.size w);obtain ⟨adn,rfl,hxn⟩:=num_at HN.out;have hxa:∀ o,(w.alloc o).cell? adn = some (.int .i64 k):=fun o=>cell_b hxn (below_alloc (Below.refl _ _) o);have hxg:∀ o,(w.alloc o).cell? ⟨g,3,none⟩ = some (.slice (some adn) 1 c3):=fun o=>cell_b hc3 (below_alloc (Below.refl _ _) o);have hxh:∀ o,(w.alloc o).cell? ⟨g,1,none⟩ = some (.slice A' t.length c'):=fun o=>cell_b hc1 (below_alloc (Below.refl _ _) o);have HC:=am_ fun W hW=>hS.ins A' c' t k W hW ht hk0 hk9;rw [hq] at HC;clear hq hd hF hP hS hB hl ht hm;go_enter Tryz.func74,Tryz.ntmps74;go_wp2
 go_region_held3 (fun W:World=>W.cell? ⟨g,1,none⟩ = some (.slice A' t.length c')/\W.cell? ⟨g,3,none⟩ = some (.slice (some adn) 1 c3)/\W.cell? adn = some (.int .i64 k)) (first | exact ⟨hc1,hc3,hxn⟩ | exact ⟨cell_b hc1 bws_,cell_b hc3 bws_,cell_b hxn bws_⟩) (first | (go_at_call 124;refine (HC.out _ (Lst.below HT.out bws_)).mono ?_;rintro e w3 ⟨v3,l3,n3,rfl,ho,hm3,hn3,hb⟩;(try (have hkn:=(hb.block w.heap.size (by simp)).trans (show ((w.alloc (.cells #[.slice none 0 0] 34)).drew).heap[w.heap.size]? = some (.cells #[.slice none 0 0] 34 (0,0)) from blk_drew (blk_new w _));have hcn:=(blk_cell hkn 0).trans rfl;have hfn:=blk_frozen hkn 0;have HBK:=am_ hkn;clear hkn));obtain ⟨Av,cv,rfl⟩:=Kd.R_slice ho;have HO:=am_ (Kd.R_lower ho (below_size (show Below w.heap.size w _ from bws_)));have HN3:=am_ hn3;replace HB:=am_ (below_step (show Below w.heap.size w _ from bws_) hb);clear ho hm3 hn3 hb))
 all_goals go_wp2
 ·
  have hcl:(w3.alloc (.cells #[.slice Av l3.length cv] 34)).cell? ⟨w3.heap.size,0,none⟩ = some (.slice Av l3.length cv):=(blk_cell (blk_new _ _) 0).trans rfl
  go_region_with (first
   | (go_at_call 86;refine (HS.out.num n3 _ HN3.out.1 (by have:=HN3.out;unfold I64;omega)).mono ?_;rintro e w5 ⟨rfl,hb⟩;have hcp:=cell_b (by exact hcl) hb;replace HO:=am_ (Kd.R_below (rs_ HO.out) hb);replace HB:=am_ (below_step (show Below w.heap.size w _ from bws_) hb);clear hb)
   | (go_at_call 123;refine (keep_any (none:Option (List Int)) (itoaB n3) HD.out bws_ HBz.out (rs_ HO.out) (fun m h=>by cases h)).mono ?_;rintro e w4 ⟨rfl,hd2,hg2⟩;have HX:=am_ (leftL_then (show Below w.heap.size w _ from bws_) (x:=⟨l,t,noB⟩) ⟨rfl,hd2,hg2⟩);clear hd2 hg2))
  all_goals
   go_wp2;go_ret;exact HX.out
 ·
  have hcl:(w3.setCell ⟨w.heap.size,0,none⟩ (.slice Av l3.length cv)).cell? ⟨w.heap.size,0,none⟩ = some (.slice Av l3.length cv):=(blk_cell (blk_set HBK.out 0 _) 0).trans rfl;replace HO:=am_ (Kd.R_set HO.out HBK.out (by decide) 0 (.slice Av l3.length cv));replace HB:=am_ (below_set HB.out (Nat.le_refl _) (j:=0) (v:=.slice Av l3.length cv))
  go_region_with (first
   | (go_at_call 86;refine (HS.out.num n3 _ HN3.out.1 (by have:=HN3.out;unfold I64;omega)).mono ?_;rintro e w5 ⟨rfl,hb⟩;have hcp:=cell_b (by exact hcl) hb;replace HO:=am_ (Kd.R_below (rs_ HO.out) hb);replace HB:=am_ (below_step (show Below w.heap.size w _ from bws_) hb);clear hb)
   | (go_at_call 123;refine (keep_any (none:Option (List Int)) (itoaB n3) HD.out bws_ HBz.out (rs_ HO.out) (fun m h=>by cases h)).mono ?_;rintro e w4 ⟨rfl,hd2,hg2⟩;have HX:=am_ (leftL_then (show Below w.heap.size w _ from bws_) (x:=⟨l,t,noB⟩) ⟨rfl,hd2,hg2⟩);clear hd2 hg2))
  all_goals
   go_wp2;go_ret;exact HX.out
theorem moved_put_yes {F:Fns} {B g:Nat} {l t m:List Int} {w:World} {k:Int} (hk0:0<=k) (hk9:k<=999999) {t':List Int} {a:Int} (hq:F.ins t k = some (t',a)) (h:StandL F B g l t m [k] w):Calls Tryz.prog 74 #[.pointer (some ⟨g,0,none⟩),.string ⟨#[112,117,116]⟩] w (LeftL B g (keepR l t (itoaB a) (some t')) m [k] w):=by
 obtain ⟨hF,hP,hS,hd,hl,ht,hm,hB⟩:=h;obtain ⟨A,c,A',c',A2,c2,A3,c3,HL,HT,HM2,HN,hc0,hc1,hc2,hc3⟩:=hd.open_;have HD:=am_ hd;have HS:=am_ hS;have HBz:=am_ hB;have HB:=am_ (Below.refl w.heap.size w);obtain ⟨adn,rfl,hxn⟩:=num_at HN.out;have hxa:∀ o,(w.alloc o).cell? adn = some (.int .i64 k):=fun o=>cell_b hxn (below_alloc (Below.refl _ _) o);have hxg:∀ o,(w.alloc o).cell? ⟨g,3,none⟩ = some (.slice (some adn) 1 c3):=fun o=>cell_b hc3 (below_alloc (Below.refl _ _) o);have hxh:∀ o,(w.alloc o).cell? ⟨g,1,none⟩ = some (.slice A' t.length c'):=fun o=>cell_b hc1 (below_alloc (Below.refl _ _) o);have HC:=am_ fun W hW=>hS.ins A' c' t k W hW ht hk0 hk9;rw [hq] at HC;clear hq hd hF hP hS hB hl ht hm;go_enter Tryz.func74,Tryz.ntmps74;go_wp2
 go_region_held3 (fun W:World=>W.cell? ⟨g,1,none⟩ = some (.slice A' t.length c')/\W.cell? ⟨g,3,none⟩ = some (.slice (some adn) 1 c3)/\W.cell? adn = some (.int .i64 k)) (first | exact ⟨hc1,hc3,hxn⟩ | exact ⟨cell_b hc1 bws_,cell_b hc3 bws_,cell_b hxn bws_⟩) (first | (go_at_call 124;refine (HC.out _ (Lst.below HT.out bws_)).mono ?_;rintro e w3 ⟨v3,l3,n3,rfl,ho,hm3,hn3,hb⟩;cases hm3 _ rfl;(try (have hkn:=(hb.block w.heap.size (by simp)).trans (show ((w.alloc (.cells #[.slice none 0 0] 34)).drew).heap[w.heap.size]? = some (.cells #[.slice none 0 0] 34 (0,0)) from blk_drew (blk_new w _));have hcn:=(blk_cell hkn 0).trans rfl;have hfn:=blk_frozen hkn 0;have HBK:=am_ hkn;clear hkn));obtain ⟨Av,cv,rfl⟩:=Kd.R_slice ho;have HO:=am_ (Kd.R_lower ho (below_size (show Below w.heap.size w _ from bws_)));have HN3:=am_ hn3;replace HB:=am_ (below_step (show Below w.heap.size w _ from bws_) hb);clear ho hm3 hn3 hb))
 all_goals go_wp2
 ·
  have hcl:(w3.alloc (.cells #[.slice Av t'.length cv] 34)).cell? ⟨w3.heap.size,0,none⟩ = some (.slice Av t'.length cv):=(blk_cell (blk_new _ _) 0).trans rfl
  go_region_with (first
   | (go_at_call 86;refine (HS.out.num a _ HN3.out.1 (by have:=HN3.out;unfold I64;omega)).mono ?_;rintro e w5 ⟨rfl,hb⟩;have hcp:=cell_b (by exact hcl) hb;replace HO:=am_ (Kd.R_below (rs_ HO.out) hb);replace HB:=am_ (below_step (show Below w.heap.size w _ from bws_) hb);clear hb)
   | (go_at_call 123;refine (keep_any (some t') (itoaB a) HD.out bws_ HBz.out (rs_ HO.out) (fun m h=>by cases h;rfl)).mono ?_;rintro e w4 ⟨rfl,hd2,hg2⟩;have HX:=am_ (leftL_then (show Below w.heap.size w _ from bws_) (x:=keepR l t (itoaB a) (some t')) ⟨rfl,hd2,hg2⟩);clear hd2 hg2))
  all_goals
   go_wp2;go_ret;exact HX.out
 ·
  have hcl:(w3.setCell ⟨w.heap.size,0,none⟩ (.slice Av t'.length cv)).cell? ⟨w.heap.size,0,none⟩ = some (.slice Av t'.length cv):=(blk_cell (blk_set HBK.out 0 _) 0).trans rfl;replace HO:=am_ (Kd.R_set HO.out HBK.out (by decide) 0 (.slice Av t'.length cv));replace HB:=am_ (below_set HB.out (Nat.le_refl _) (j:=0) (v:=.slice Av t'.length cv))
  go_region_with (first
   | (go_at_call 86;refine (HS.out.num a _ HN3.out.1 (by have:=HN3.out;unfold I64;omega)).mono ?_;rintro e w5 ⟨rfl,hb⟩;have hcp:=cell_b (by exact hcl) hb;replace HO:=am_ (Kd.R_below (rs_ HO.out) hb);replace HB:=am_ (below_step (show Below w.heap.size w _ from bws_) hb);clear hb)
   | (go_at_call 123;refine (keep_any (some t') (itoaB a) HD.out bws_ HBz.out (rs_ HO.out) (fun m h=>by cases h;rfl)).mono ?_;rintro e w4 ⟨rfl,hd2,hg2⟩;have HX:=am_ (leftL_then (show Below w.heap.size w _ from bws_) (x:=keepR l t (itoaB a) (some t')) ⟨rfl,hd2,hg2⟩);clear hd2 hg2))
  all_goals
   go_wp2;go_ret;exact HX.out
theorem two_text (a c:Int):(itoaB a ++ (⟨#[32]⟩:ByteArray)) ++ itoaB c = numsB [a,c] ⟨#[32]⟩:=by
 apply ByteArray.ext;apply Array.ext';unfold numsB joinB itoaB;simp [Lib.join_cons,Lib.joinTail,ByteArray.data_append]
theorem itoaB_size (n:Int) (h:I64 n):(itoaB n).size<=20:=itoa_length n h
theorem asked_find_no {F:Fns} {B g:Nat} {l t m:List Int} {w:World} {k:Int} (hk0:0<=k) (hk9:k<=999999) (hq:F.find t k = none) (h:StandL F B g l t m [k] w):Calls Tryz.prog 75 #[.pointer (some ⟨g,0,none⟩),.string ⟨#[102,105,110,100]⟩] w (LeftL B g (⟨l,t,noB⟩) m [k] w):=by
 obtain ⟨hF,hP,hS,hd,hl,ht,hm,hB⟩:=h;obtain ⟨A,c,A',c',A2,c2,A3,c3,HL,HT,HM2,HN,hc0,hc1,hc2,hc3⟩:=hd.open_;have HD:=am_ hd;have HS:=am_ hS;have HBz:=am_ hB;have HB:=am_ (Below.refl w.heap.size w);obtain ⟨adn,rfl,hxn⟩:=num_at HN.out;have HC:=am_ fun W hW=>hS.find A' c' t k W hW ht hk0 hk9;rw [hq] at HC;clear hq hd hF hP hS hB hl ht hm;go_enter Tryz.func75,Tryz.ntmps75;go_wp2
 go_region_held3 (fun W:World=>W.cell? ⟨g,1,none⟩ = some (.slice A' t.length c')/\W.cell? ⟨g,3,none⟩ = some (.slice (some adn) 1 c3)/\W.cell? adn = some (.int .i64 k)) (first | exact ⟨hc1,hc3,hxn⟩ | exact ⟨cell_b hc1 bw_,cell_b hc3 bw_,cell_b hxn bw_⟩) (first | (go_at_call 137;refine (HC.out _ (Lst.below HT.out bw_)).mono ?_;rintro e w1 ⟨a',n',rfl,hm,hb⟩;replace HB:=am_ (below_step (show Below w.heap.size w _ from bw_) hb);clear hm hb))
 go_wp2;go_ret;exact leftL_of HD.out HB.out
theorem asked_find_yes {F:Fns} {B g:Nat} {l t m:List Int} {w:World} {k:Int} (hk0:0<=k) (hk9:k<=999999) {a b:Int} (hq:F.find t k = some (a,b)) (h:StandL F B g l t m [k] w):Calls Tryz.prog 75 #[.pointer (some ⟨g,0,none⟩),.string ⟨#[102,105,110,100]⟩] w (LeftL B g (⟨l,t,numsB [a,b] ⟨#[32]⟩⟩) m [k] w):=by
 obtain ⟨hF,hP,hS,hd,hl,ht,hm,hB⟩:=h;obtain ⟨A,c,A',c',A2,c2,A3,c3,HL,HT,HM2,HN,hc0,hc1,hc2,hc3⟩:=hd.open_;have HD:=am_ hd;have HS:=am_ hS;have HBz:=am_ hB;have HB:=am_ (Below.refl w.heap.size w);obtain ⟨adn,rfl,hxn⟩:=num_at HN.out;have HC:=am_ fun W hW=>hS.find A' c' t k W hW ht hk0 hk9;rw [hq] at HC;obtain ⟨ha0,ha9,hb0,hb9⟩:=hF.find t k a b ht hq
 have ga:I64 a:=⟨by omega,by omega⟩
 have gb:I64 b:=⟨by omega,by omega⟩
 have HZ:=am_ (two_text a b);have s1:=itoaB_size a ga;have s2:=itoaB_size b gb;have HNA:=am_ fun W=>hS.num a W ha0 ga;have HNB:=am_ fun W=>hS.num b W hb0 gb
 obtain ⟨xa,hxa⟩:∃ x,x = itoaB a:=⟨_,rfl⟩
 obtain ⟨xb,hxb⟩:∃ x,x = itoaB b:=⟨_,rfl⟩
 rw [<- hxa] at s1 HNA HZ;rw [<- hxb] at s2 HNB HZ
 have e0:xa.size + 1<=9223372036854775807:=by omega
 have e1:(xa ++ (⟨#[32]⟩:ByteArray)).size + xb.size<=9223372036854775807:=by rw [ByteArray.size_append];have:(⟨#[32]⟩:ByteArray).size = 1:=rfl;omega
 have e2:xa.size + 1 + xb.size<=9223372036854775807:=by omega
 have h0:=eq_true e2;have h1:=decide_eq_true e2;have h2:(9223372036854775807 < xa.size + 1 + xb.size) = False:=eq_false (Nat.not_lt.2 e2);have f0:=eq_true e0;have f1:=decide_eq_true e0;have f2:(9223372036854775807 < xa.size + 1) = False:=eq_false (Nat.not_lt.2 e0);have g0:=eq_true e1;have g1:=decide_eq_true e1;have g2:(9223372036854775807 < (xa ++ (⟨#[32]⟩:ByteArray)).size + xb.size) = False:=eq_false (Nat.not_lt.2 e1);clear e0 e1 e2 s1 s2 hxa hxb ha0 ha9 hb0 hb9 ga gb hq hd hF hP hS hB hl ht hm;go_enter Tryz.func75,Tryz.ntmps75;go_wp2
 go_region_held3 (fun W:World=>W.cell? ⟨g,1,none⟩ = some (.slice A' t.length c')/\W.cell? ⟨g,3,none⟩ = some (.slice (some adn) 1 c3)/\W.cell? adn = some (.int .i64 k)) (first | exact ⟨hc1,hc3,hxn⟩ | exact ⟨cell_b hc1 bw_,cell_b hc3 bw_,cell_b hxn bw_⟩) (first | (go_at_call 137;refine (HC.out _ (Lst.below HT.out bw_)).mono ?_;rintro e w1 ⟨a',n',rfl,hm,hb⟩;cases hm _ rfl;replace HB:=am_ (below_step (show Below w.heap.size w _ from bw_) hb);clear hm hb))
 go_wp2_with (first
  | (go_at_call_of 86 a;refine (HNA.out _).mono ?_;rintro e w2 ⟨rfl,hb⟩;replace HB:=am_ (below_step HB.out hb);clear hb)
  | (go_at_call_of 86 b;refine (HNB.out _).mono ?_;rintro e w3 ⟨rfl,hb⟩;replace HB:=am_ (below_step HB.out hb);clear hb))
 go_ret;rw [HZ.out];exact leftL_of HD.out HB.out
end Go.Proofs.YtjdlhefjgceabaaGreatDoor.Hand

/-
  PRINTED WORDS, second file: A REGION THAT DRAWS ITS ORDER, WALKED BY HAND, where its last store writes what its own loads read ('x.f = append(x.f, f(i))'). Plain theorems; no macro, no elab. A claim may hold it (turn the namespace's name).
  A load may be taken first in every world that meets S; behind the operations of ds nothing is shown; sound because each of ds waits for what is taken (Region.lastB). The kernel checks it.
  By an AI agent of Go's test side, Mon Nov 16 2026. No person has read it.
-/
import Derived.Below
import Derived.Deep.Draws
import Derived.Deep.AppendLies
import Derived.Maps.AppendAt
import Derived.OwnWalk
import Derived.Laws.BytesArg
import Derived.Laws.MakeOwn
import Derived.Laws.OwnMore
import Derived.Deep.OwnRows
import Derived.Tactics
import Derived.Lib.ConvBytes
import Derived.Laws.Slices
import Derived.WalkKit
import Derived.KernelRfl
import Derived.RowKit3
import Derived.Deep.LoopGhost
import Derived.Deep.QuietTactic
import Derived.BigQuiet
import Derived.WideLaws
import Derived.Deep.DeepCutAuto
import Derived.Deep.CutBlock
import Derived.Deep.RegionHeld3
import Derived.Laws.Rows
import Derived.Lib.AppendStr
import Derived.ArgAppend
import Derived.Laws.IdiomCopy
import Derived.RowKit
import Derived.OrdersHeld
import Derived.Laws.BitsLemmas
set_option linter.unusedVariables false
set_option linter.unusedSimpArgs false
namespace Go.Proofs.YtjdlhefjgceabaaGreatDoorW.PrintWords
open Go.RowKit
structure ae (p:Prop):Prop where mk :: (out:p)
structure bg (w w':World):Prop where mk :: (out:∃n,w'=w.drewN n)
theorem bg.refl(w:World):bg w w:=⟨⟨0,rfl⟩⟩
theorem bg.step{w w':World}(h:bg w w')(n:Nat):bg w (w'.drewN n):=by
  obtain ⟨m,rfl⟩:=h;exact ⟨⟨m+n,World.drewN_drewN ..⟩⟩
theorem bg.below{w w':World}(h:bg w w'):Below w.heap.size w w':=by
  obtain ⟨n,rfl⟩:=h
  induction n with
  | zero=>exact Below.refl _ _
  | succ n ih=>rw[<- World.drew_drewN];exact ih.drew
def rd(xs:List Int)(i:Int):Int:=xs.getD i.toNat 0
def bt(s:ByteArray)(i:Int):Int:=if h:i.toNat<s.size then ((s[i.toNat]'h).toNat:Int)else 0
theorem jJ(s:ByteArray)(i:Int):∀h:i.toNat<s.size,((s[i.toNat]'h).toNat:Int)=bt s i:=λh=>by simp[bt,h]
theorem D_(s:ByteArray)(i:Int):0<=bt s i/\bt s i<=255:=by
  unfold bt
  split
  · rename_i h
    have:=(s[i.toNat]'h).toNat_lt;omega
  · omega
def nums(k:IntKind)(xs:List Int):List Value:=xs.map λx=>.int k x
theorem aG{w W:World}(h:Below w.heap.size w W)(o:Obj):Below w.heap.size w (W.alloc o):=h.alloc h.size o
theorem ql{B:Nat}{w W:World}(h:Below B w W):Below B w W.drew:=⟨h.os,h.tape,h.output,h.size,h.block⟩
theorem dD{B:Nat}{w W:World}(h:Below B w W)(n:Nat):Below B w (W.drewN n):=⟨h.os,h.tape,h.output,h.size,h.block⟩
theorem JD{B:Nat}{w w1 w2:World}(h:Below B w w1)(hB:B<=w1.heap.size)(k:Below w1.heap.size w1 w2):Below B w w2 :=
  h.trans ⟨k.os,k.tape,k.output,k.size,λi hi=>k.block i (Nat.lt_of_lt_of_le hi hB)⟩
theorem rf{B:Nat}{w w1:World}(h:Below B w w1)(row:Option Nat)(hB:B<=w1.heap.size){w2:World}(hg:w1.grownBy w2 row)(hr:∀k,row=some k->B<=k):Below B w w2:=h.grown hg hB hr
theorem ku{w w1:World}(h:Below w.heap.size w w1)(row:Option Nat):w.grownBy w1 row:=⟨h.os,h.tape,h.output,h.size,λi hi _=>h.block i hi⟩
theorem uI{w w1:World}(h:Below w.heap.size w w1){a:Addr}{v:Value}(hc:w.cell? a=some v):w1.cell? a=some v:=(h.cell (World.block_lt_of_cell? w a hc)).trans hc
theorem add_plain(g j:Nat):(⟨g,0,none⟩:Addr).add j=⟨g,j,none⟩:=by unfold Addr.add;split <;> simp_all
def jW(w:World)(k:IntKind)(A:Option Addr)(n:Nat)(xs:List Int):Prop :=
  xs.length=n/\n<=9223372036854775807/\(0<n->∃ad,A=some ad/\∀j,j<n->w.cell? (ad.add j)=some (.int k (xs.getD j 0)))
theorem FM(W:World)(base:Nat)(e:TypeId)(size:Nat):W.ownsRow base e size (.slice none 0 0) 0 []:=⟨by simp,.inl ⟨rfl,rfl⟩⟩
theorem o_{w:World}{base:Nat}{e:TypeId}{size n:Nat}{v:Value}{xs:List Value}(h:w.ownsRow base e size v n xs)(k:Nat)(hk:v.ownBlock=some k):base<=k:=by
  rcases h.2 with ⟨rfl,_⟩|⟨g,cap,cur,rfl,hb,_⟩
  · simp[Value.ownBlock]at hk
  · have:g=k:=by simpa [Value.ownBlock] using hk
    omega
theorem uy{w:World}{base:Nat}{e:TypeId}{size n:Nat}{v:Value}{xs:List Value}(h:w.ownsRow base e size v n xs)(k:Nat)(hk:v.ownBlock=some k):k<w.heap.size:=by
  rcases h.2 with ⟨rfl,_⟩|⟨g,cap,cur,rfl,hb,hh,_⟩
  · simp[Value.ownBlock]at hk
  · have:g=k:=by simpa [Value.ownBlock] using hk
    subst this;exact (Array.getElem?_eq_some_iff.1 hh).1
theorem nZ{P:Program}{w:World}{base n:Nat}{e' src dst e:TypeId}{v:Value}{xs:List Int}(hs:P.underlying src=some (.slice e))(he:P.underlying e=some (.int .u8))(hd:P.underlying dst=some .string)
    (h:w.ownsRow base e' 1 v n (nums .u8 xs)):(convert src dst v).run P w=.ok (.string (strOfNums xs)) w:=by
  have hl:xs.length=n:=by have:=h.1;simp[nums]at this;exact this
  rcases h.2 with ⟨rfl,rfl⟩|⟨g,cap,cur,rfl,_⟩
  · obtain rfl:xs=[]:=List.eq_nil_of_length_eq_zero hl
    exact run_convert_bytes_nil w src e hs he 0 0 dst hd
  · refine run_convert_bytes_arg w src e hs he g 0 n cap xs hl (λi hi=>?_) dst hd
    have hc:=h.cells (g:=g) rfl i (.int .u8 (xs.getD i 0)) (by simp[nums,List.getElem?_eq_getElem (show i<xs.length by omega),List.getD_eq_getElem?_getD])
    have ha:(⟨g,0,none⟩:Addr).add i=⟨g,0+i,none⟩:=by unfold Addr.add;split <;> simp_all
    rwa [ha]at hc
section
variable {P:Program} {ops:Array Oper} {rest:List Oper} {o:Oper} {a:Act} {Q:Exit->Act->World->Prop}
end
section
variable {P:Program}
theorem vY(t e:TypeId)(k:IntKind)(bytes:Nat)(ht:P.underlying t=some (.slice e))(hinfo:(P.info? e).map (λi=>(i.zero,i.size,i.bytes))=some (some (.int k 0),1,bytes))(hb0:0<bytes)
    (m:Nat) (hn:m * bytes<=281474976710656) :
    ∀W:World,(Instr.makeSlice t (.int .i64 (m:Int)) (.int .i64 (m:Int))).run P W=.ok (.slice (some ⟨W.heap.size,0,none⟩) m m) (W.alloc (.cells (madeCells #[.int k 0] m) e)):=by
  intro W;have hm:m<=281474976710656:=Nat.le_trans (Nat.le_mul_of_pos_right _ hb0) hn;exact run_make_row' t e (.int k 0) bytes ht hinfo rfl .i64 .i64 m (by rw[Nat.mul_comm];exact hn) (by omega) W
end
section
variable {P:Program} {ops:Array Oper} {rest:List Oper} {o:Oper} {a:Act} {Q:Exit->Act->World->Prop}
end
def aC{α:Type}(a b:Option α):Prop:=∀r,a=some r->b=some r
theorem aC.refl{α:Type}(a:Option α):aC a a:=λ_ h=>h
theorem aC.none{α:Type}(b:Option α):aC Option.none b:=λ_ h=>by cases h
theorem aC.trans{α:Type}{a b c:Option α}(h:aC a b)(k:aC b c):aC a c:=λr hr=>k r (h r hr)
theorem aC.ite{α:Type}{c:Prop}[Decidable c]{a a' b b':Option α}(h:aC a a')(k:aC b b'):aC (if c then a else b) (if c then a' else b'):=by
  split
  · exact h
  · exact k
theorem aC.bind{α β:Type}{a a':Option α}{f f':α->Option β}(h:aC a a')(k:∀x,aC (f x) (f' x)):aC (a.bind f) (a'.bind f'):=by
  intro r hr;obtain ⟨x,hx,hf⟩:=Option.bind_eq_some_iff.1 hr;exact Option.bind_eq_some_iff.2 ⟨x,h x hx,k x r hf⟩
theorem vZ{α:Type}{g:Nat->Option α}(h:∀k,aC (g k) (g (k+1)))(k:Nat):∀j,aC (g k) (g (k+j))
  | 0=>aC.refl _
  | j+1=>(vZ h k j).trans (h (k+j))
theorem Il{α:Type}{g:Nat->Option α}(h:∀k,aC (g k) (g (k+1))){k k':Nat}(hk:k<=k'){r:α}(hr:g k=some r):g k'=some r:=by
  have:=vZ h k (k' - k) r hr
  rwa [Nat.add_sub_cancel' hk]at this
def bG{α:Type}(R:α->List Value->Prop)(size:Nat)(ps:List α)(cs:List Value):Prop :=
  cs.length=ps.length * size/\∀j p,ps[j]?=some p->R p ((cs.drop (j * size)).take size)
theorem bG.none{α:Type}(R:α->List Value->Prop)(size:Nat):bG R size [] []:=⟨by simp,λj p h=>by simp at h⟩
theorem bG.snoc{α:Type}{R:α->List Value->Prop}{size:Nat}{ps:List α}{cs c:List Value}{p:α}(h:bG R size ps cs)(hp:R p c)(hc:c.length=size):bG R size (ps++[p]) (cs++c):=by
  refine ⟨by rw[List.length_append,h.1,hc,List.length_append,List.length_singleton,Nat.add_mul,Nat.one_mul],λj q hq=>?_⟩
  rcases Nat.lt_or_ge j ps.length with hj|hj
  · rw[List.getElem?_append_left hj]at hq
    have h1:j * size+size<=cs.length:=by rw[h.1,<- Nat.succ_mul];exact Nat.mul_le_mul_right _ hj
    have h2:=h.2 j q hq;rw[List.drop_append_of_le_length (by omega),List.take_append_of_le_length (by rw[List.length_drop];omega)];exact h2
  · have hj':j=ps.length:=by
      have:=(List.getElem?_eq_some_iff.1 hq).1;rw[List.length_append,List.length_singleton]at this;omega
    subst hj'
    have hq':p=q:=by simpa using hq
    subst hq';rw[<- h.1,List.drop_left,<- hc,List.take_length];exact hp
theorem bG.imp_{α:Type}{R R':α->List Value->Prop}{size:Nat}{ps:List α}{cs:List Value}(h:bG R size ps cs)(hR:∀p c,R p c->R' p c):bG R' size ps cs:=⟨h.1,λj p hj=>hR _ _ (h.2 j p hj)⟩
def iJ{α:Type}(R:α->List Value->Prop)(size:Nat)(w:World)(A:Option Addr)(n:Nat)(ps:List α):Prop :=
  ps.length=n/\n<=9223372036854775807/\(0<n->∃ad,A=some ad/\∀j p,ps[j]?=some p->∃c,c.length=size/\R p c/\∀i u,c[i]?=some u->w.cell? (ad.add (j * size+i))=some u)
theorem iJ.get_{α:Type}{R:α->List Value->Prop}{size:Nat}{w:World}{A:Option Addr}{n:Nat}{ps:List α}(h:iJ R size w A n ps)(d:α)(i:Int)(h0:0<=i)(h1:i<n) :
    ∃ad c,A=some ad/\c.length=size/\R (ps.getD i.toNat d) c/\∀j u,c[j]?=some u->w.cell? (ad.add (i.toNat * size+j))=some u:=by
  obtain ⟨ad,e,hc⟩:=h.2.2 (by omega)
  have hl:i.toNat<ps.length:=by have:=h.1;omega
  obtain ⟨c,hs,hr,hcell⟩:=hc i.toNat _ (List.getElem?_eq_getElem hl);refine ⟨ad,c,e,hs,?_,hcell⟩;rw[List.getD_eq_getElem?_getD,List.getElem?_eq_getElem hl];exact hr
theorem iJ.imp_{α:Type}{R R':α->List Value->Prop}{size:Nat}{w w1:World}{A:Option Addr}{n:Nat}{ps:List α}(h:iJ R size w A n ps)(hb:Below w.heap.size w w1)(hR:∀p c,R p c->R' p c):iJ R' size w1 A n ps :=
  ⟨h.1,h.2.1,λhn=>by
    obtain ⟨ad,e,hc⟩:=h.2.2 hn;refine ⟨ad,e,λj p hj=>?_⟩;obtain ⟨c,hs,hr,hcell⟩:=hc j p hj
    exact ⟨c,hs,hR _ _ hr,λi u hu=>uI hb (hcell i u hu)⟩⟩
theorem Ep{α:Type}{R:α->List Value->Prop}{w:World}{base n size:Nat}{e:TypeId}{v:Value}{ps:List α}{cs:List Value}(h:w.ownsRow base e size v n cs)(hR:bG R size ps cs)(hn:ps.length=n) :
    ∃A c,v=.slice A n c/\iJ R size w A n ps:=by
  rcases Nat.eq_zero_or_pos n with h0|h0
  · rcases h.2 with ⟨rfl,rfl⟩|⟨g,cap,cur,rfl,_⟩
    · exact ⟨none,0,rfl,hn,by omega,λhp=>absurd hp (by omega)⟩
    · exact ⟨_,cap,rfl,hn,by omega,λhp=>absurd hp (by omega)⟩
  · obtain ⟨g,cap,rfl,_,_⟩:=h.form h0
    have hm:n<=9223372036854775807:=by
      rcases h.2 with ⟨_,h1⟩|⟨g',cap',cur,he,_,_,h1,h2,_⟩
      · omega
      · simp only[maxLen]at h2
        omega
    refine ⟨_,cap,rfl,hn,hm,λ_=>⟨_,rfl,λj p hj=>⟨(cs.drop (j * size)).take size,?_,hR.2 j p hj,λi u hu=>?_⟩⟩⟩
    · have hjl:=(List.getElem?_eq_some_iff.1 hj).1
      have h1:j * size+size<=cs.length:=by rw[hR.1,<- Nat.succ_mul];exact Nat.mul_le_mul_right _ hjl
      rw[List.length_take,List.length_drop];omega
    · refine h.cells (g:=g) rfl _ u ?_
      rw[List.getElem?_take]at hu
      split at hu
      · rw[List.getElem?_drop]at hu
        exact hu
      · cases hu
section
variable {P:Program} {ops:Array Oper} {rest:List Oper} {o:Oper} {a:Act} {Q:Exit->Act->World->Prop}
theorem JF{w0 W:World}(base:Nat)(hgd:o.guard=none)(s x:Operand)(t e:TypeId)(z:Value)(size bytes:Nat)
    (ho:o.op=.call { callee:=.builtin .append,args:=#[s,x],argTypes:=#[t,t] })
    (ht:P.underlying t=some (.slice e)) (hinfo:(P.info? e).map (λi=>(i.zero,i.size,i.bytes))=some (some z,size,bytes)) (hz:z.cells.size=size) (hs0:0<size) (hb0:0<bytes)
    (v:Value) (n:Nat) (xs ys:List Value) (hs:a.eval s=v) (hx:a.eval x=.slice (some ⟨W.heap.size,0,none⟩) 1 1) (hys:ys.length=size) (h1:∀u∈ys,u.oneCell'=true)
    (HO:W.ownsRow base e size v n xs) (HB:Below base w0 W) (hbase:base<=W.heap.size) (hl:(n+1) * bytes<=140737488355328)
    (h:∀v1 w1,w1.ownsRow base e size v1 (n+1) (xs++ys)->Below base w0 w1->W.grownBy w1 v.ownBlock->(v1.ownBlock=v.ownBlock\/∃b,v1.ownBlock=some b/\W.heap.size<=b)->wpList P ops Q rest (a.put o.dst v1) w1) :
    wpList P ops Q (o :: rest) a (W.alloc (.cells ys.toArray e)):=by
  obtain ⟨i0,hi,hzz⟩:=Option.map_eq_some_iff.1 hinfo;simp only[Prod.mk.injEq]at hzz;obtain ⟨hz0,hz1,hz2⟩:=hzz;have hlen:n+1<=140737488355328:=Nat.le_trans (Nat.le_mul_of_pos_right _ hb0) hl
  refine wpList_append_own_at (W.alloc (.cells ys.toArray e)) hgd s x t ho base e i0 z size bytes ht hi hz0 hz1 hz2 hz hs0 v n xs hs (HO.alloc _) ⟨W.heap.size,0,none⟩ 1 1 ys hx (by rw[hys];simp)
    (by simpa using World.news_of_block (cs:=ys.toArray) (t:=e) (fr:=(0,0)) (heap_alloc_new W (.cells ys.toArray e))) h1 (by simp only[maxLen];omega) hl (by simp;omega) ?_
  intro v1 w1 hown hg _ hat
  refine h v1 w1 hown ((HB.alloc hbase _).grown hg (by simp;omega) (o_ HO)) (World.grownBy.trans (World.grownBy_alloc W _ _) hg) ?_
  rcases hat with hat|hat
  · exact .inl hat
  · exact .inr ⟨_,hat,by simp⟩
end
theorem own_ne{w:World}{base:Nat}{e t:TypeId}{size n g:Nat}{v:Value}{xs:List Value}{cs:Array Value}(h:w.ownsRow base e size v n xs)(hg:w.heap[g]?=some (.cells cs t (0,0)))(hne:e≠t):some g≠v.ownBlock:=by
  rcases h.2 with ⟨rfl,_⟩|⟨g',cap,cur,rfl,_,hh,_⟩
  · simp[Value.ownBlock]
  · intro he
    have:g=g':=by simpa [Value.ownBlock] using he
    subst this;rw[hg]at hh
    injection hh with hh
    injection hh with _ ht
    exact hne ht.symm
theorem iq{w:World}{g:Nat}{t:TypeId}{cs:Array Value}(h:w.heap[g]?=some (.cells cs t (0,0)))(i:Nat)(u:Value):(w.setCell ⟨g,i,none⟩ u).heap[g]?=some (.cells (cs.setIfInBounds i u) t (0,0)):=by
  simp[World.setCell,Array.getElem?_modify,h]
theorem fZ{w:World}{g:Nat}{t:TypeId}{cs:Array Value}(h:w.heap[g]?=some (.cells cs t (0,0))){p:Addr}(hp:g≠p.block)(u:Value):(w.setCell p u).heap[g]?=some (.cells cs t (0,0)):=(Below.heap_setCell w p u g hp).trans h
theorem dC{w:World}{g:Nat}{o:Obj}(h:w.heap[g]?=some o):g<w.heap.size:=(Array.getElem?_eq_some_iff.1 h).1
theorem ah{w:World}{g:Nat}{t:TypeId}{cs:Array Value}(h:w.heap[g]?=some (.cells cs t (0,0)))(i:Nat):w.cell? ⟨g,i,none⟩=cs[i]?:=cell_of_row w g i cs t (0,0) h
theorem au{w:World}{g:Nat}{t:TypeId}{cs:Array Value}(h:w.heap[g]?=some (.cells cs t (0,0)))(i:Nat):w.frozen? ⟨g,i,none⟩=false:=by simp[World.frozen?,h]
theorem iM{w w1:World}{g:Nat}{o:Obj}{row:Option Nat}(h:w.heap[g]?=some o)(hg:w.grownBy w1 row)(hne:some g≠row):w1.heap[g]?=some o:=(hg.block g (dC h) hne).trans h
def aQ(w w':World)(g:Nat)(row:Option Nat):Prop:=w.heap.size<=w'.heap.size/\∀i,i<w.heap.size->i≠g->some i≠row->w'.heap[i]?=w.heap[i]?
theorem aQ.refl(w:World)(g:Nat)(row:Option Nat):aQ w w g row:=⟨Nat.le_refl _,λ_ _ _ _=>rfl⟩
theorem aQ.of_grown{w w1:World}{row:Option Nat}(h:w.grownBy w1 row)(g:Nat):aQ w w1 g row:=⟨h.size,λi hi _ hr=>h.block i hi hr⟩
theorem aQ.of_below{w w1:World}(h:Below w.heap.size w w1)(g:Nat)(row:Option Nat):aQ w w1 g row:=⟨h.size,λi hi _ _=>h.block i hi⟩
theorem aQ.set_{w w1:World}{g:Nat}{row:Option Nat}(h:aQ w w1 g row)(j:Nat)(u:Value):aQ w (w1.setCell ⟨g,j,none⟩ u) g row :=
  ⟨by simpa [World.setCell] using h.1,λi hi hg hr=>(Below.heap_setCell w1 ⟨g,j,none⟩ u i hg).trans (h.2 i hi hg hr)⟩
theorem aQ.trans{w w1 w2:World}{g:Nat}{row row1:Option Nat}(h:aQ w w1 g row)(k:aQ w1 w2 g row1)(hr:row1=row\/∃b,row1=some b/\w.heap.size<=b):aQ w w2 g row :=
  ⟨Nat.le_trans h.1 k.1,λi hi hg hn=>by
    refine (k.2 i (Nat.lt_of_lt_of_le hi h.1) hg ?_).trans (h.2 i hi hg hn)
    rcases hr with rfl|⟨b,rfl,hb⟩
    · exact hn
    · intro e
      injection e with e
      omega⟩
def Ev{α:Type}(g:Nat->Option α)(r:α):Prop:=∃K,∀k,K<=k->g k=some r
theorem Ev.of{α:Type}{g:Nat->Option α}{r:α}(hg:∀k,aC (g k) (g (k+1))){k:Nat}(h:g k=some r):Ev g r:=⟨k,λ_ hk=>Il hg hk h⟩
theorem Ev.now{α:Type}(r:α):Ev (λ_=>some r) r:=⟨0,λ_ _=>rfl⟩
theorem Ev.bind{α β:Type}{g:Nat->Option α}{f:Nat->α->Option β}{a:α}{r:β}(h:Ev g a)(k:Ev (λn=>f n a) r):Ev (λn=>(g n).bind (f n)) r:=by
  obtain ⟨K,h⟩:=h;obtain ⟨K',k⟩:=k;refine ⟨max K K',λn hn=>?_⟩;have h1:=h n (by omega);have h2:=k n (by omega);simp only[h1,Option.bind_some];exact h2
theorem Ev.step{α:Type}{g f:Nat->Option α}{r:α}(h:∀k,g (k+1)=f k)(k:Ev f r):Ev g r:=by
  obtain ⟨K,k⟩:=k;refine ⟨K+1,λn hn=>?_⟩
  obtain ⟨m,rfl⟩:∃m,n=m+1:=⟨n - 1,by omega⟩
  rw[h];exact k m (by omega)
theorem Ev.congr{α:Type}{g f:Nat->Option α}{r:α}(h:∀k,g k=f k)(k:Ev f r):Ev g r:=by
  obtain ⟨K,k⟩:=k;exact ⟨K,λn hn=>(h n).trans (k n hn)⟩
section
variable {P:Program} {ops:Array Oper} {o:Oper} {a:Act} {Q:Exit->Act->World->Prop} {K:Act->World->Prop}
end
theorem xG{w:World}{base base':Nat}{e:TypeId}{size n:Nat}{v:Value}{xs:List Value}(h:w.ownsRow base e size v n xs)(hb:base'<=base):w.ownsRow base' e size v n xs:=by
  obtain ⟨h1,h2⟩:=h;refine ⟨h1,?_⟩
  rcases h2 with h2|⟨g,cap,cur,rfl,hg,r⟩
  · exact .inl h2
  · exact .inr ⟨g,cap,cur,rfl,Nat.le_trans hb hg,r⟩
section
variable {α:Type} {enc:α->Value} {d:α}
def encs(enc:α->Value)(xs:List α):List Value:=xs.map enc
def dS(d:α)(xs:List α)(i:Int):α:=xs.getD i.toNat d
theorem yS(xs:List α):(encs enc xs).length=xs.length:=by simp[encs]
theorem Bd(xs:List α)(j:Nat)(h:j<xs.length):(encs enc xs)[j]?=some (enc (xs.getD j d)):=by
  simp[encs,List.getElem?_eq_getElem h,List.getD_eq_getElem?_getD]
def ky(enc:α->Value)(d:α)(w:World)(A:Option Addr)(n:Nat)(xs:List α):Prop :=
  xs.length=n/\n<=9223372036854775807/\(0<n->∃ad,A=some ad/\∀j,j<n->w.cell? (ad.add j)=some (enc (xs.getD j d)))
theorem ky.at_{w:World}{A:Option Addr}{n:Nat}{xs:List α}(h:ky enc d w A n xs)(i:Int)(h0:0<=i)(h1:i<n):∃ad,A=some ad/\w.cell? (ad.add i.toNat)=some (enc (dS d xs i)):=by
  obtain ⟨ad,e,hc⟩:=h.2.2 (by omega);exact ⟨ad,e,hc _ (by omega)⟩
theorem ky.take_{w:World}{A:Option Addr}{n:Nat}{xs:List α}(h:ky enc d w A n xs)(i:Nat)(hi:i<=n):ky enc d w A i (xs.take i):=by
  refine ⟨by rw[List.length_take,h.1];omega,by have:=h.2.1;omega,λhp=>?_⟩;obtain ⟨ad,e,hc⟩:=h.2.2 (by omega);refine ⟨ad,e,λj hj=>?_⟩;rw[hc j (by omega)];simp[List.getD_eq_getElem?_getD,hj]
theorem BB{W:World}{base g n cap:Nat}{e:TypeId}{xs:List α}(h:W.ownsRow base e 1 (.slice (some ⟨g,0,none⟩) n cap) n (encs enc xs))(i:Int)(h0:0<=i)(h1:i<n) :
    W.cell? ⟨g,i.toNat,none⟩=some (enc (dS d xs i))/\W.frozen? ⟨g,i.toNat,none⟩=false:=by
  have hl:xs.length=n:=by have:=h.1;simp[encs]at this;exact this
  constructor
  · have hc:=h.cells (g:=g) rfl i.toNat _ (Bd (d:=d) xs i.toNat (by omega))
    rwa [add_plain]at hc
  · rcases h.2 with ⟨h',_⟩|⟨g',cap',cur,h',_,hh,_⟩
    · cases h'
    · have:g=g':=by injection h' with h';injection h' with h';injection h' with h'
      subst this;simp[World.frozen?,hh]
theorem Bn{W:World}{base g n cap:Nat}{e:TypeId}{xs:List α}(h:W.ownsRow base e 1 (.slice (some ⟨g,0,none⟩) n cap) n (encs enc xs))(i:Int)(x:α) :
    (W.setCell ⟨g,i.toNat,none⟩ (enc x)).ownsRow base e 1 (.slice (some ⟨g,0,none⟩) n cap) n (encs enc (xs.set i.toNat x))/\W.grownBy (W.setCell ⟨g,i.toNat,none⟩ (enc x)) (some g):=by
  have hs:=h.stored i.toNat (enc x)
  have he:(encs enc xs).set i.toNat (enc x)=encs enc (xs.set i.toNat x):=by simp[encs,List.map_set]
  rwa [he]at hs
end
section
variable {α:Type} {P:Program} {ops:Array Oper} {rest:List Oper} {o:Oper} {a:Act} {Q:Exit->Act->World->Prop}
end
def gZ(v v':Value):Prop:=∀k,v.ownBlock=some k->v'.ownBlock≠some k
theorem bq{w:World}{g:Nat}{o:Obj}(h:w.heap[g]?=some o)(o':Obj):(w.alloc o').heap[g]?=some o:=(Below.heap_alloc w o' g (dC h)).trans h
theorem bS{w:World}{g:Nat}{o:Obj}(h:w.heap[g]?=some o):w.drew.heap[g]?=some o:=h
theorem di{w:World}{g:Nat}{o:Obj}(h:w.heap[g]?=some o)(n:Nat):(w.drewN n).heap[g]?=some o:=h
theorem aI{w w1:World}{g:Nat}{o:Obj}(h:w.heap[g]?=some o)(hb:Below w.heap.size w w1):w1.heap[g]?=some o:=(hb.block g (dC h)).trans h
theorem bC(w:World)(o:Obj):(w.alloc o).heap[w.heap.size]?=some o:=heap_alloc_new w o
section
variable {P:Program}
theorem ni{fn:Func}{p u:Tmp}{ty:TypeId}(h:fn.results=#[.cell p ty,.tmp u])(tmps:Array Value)(w:World)(g:Nat)(t:TypeId)(cs:Array Value)(fr:Nat × Nat)(d:TypeDesc)
    (hp:tmps.getD p undef=.pointer (some ⟨g,0,none⟩)) (hg:w.heap[g]?=some (.cells cs t fr))
    (hu:P.underlying ty=some d) (hd:(match d with|.struct _|.array _ _=>true|_=>false)=true) (hi:(P.info? ty).map (·.size)=some cs.size) :
    (results fn tmps).run P w=.ok (.tuple #[.agg cs,tmps.getD u undef]) w:=by
  have hp':tmps[p]?.getD undef=.pointer (some ⟨g,0,none⟩):=by simpa using hp
  simp[results,h,hp',asAddr,run_loadVar_row w g t ty cs fr d hg hu hd hi]
theorem sF{fn:Func}{p u v:Tmp}{ty:TypeId}(h:fn.results=#[.cell p ty,.tmp u,.tmp v])(tmps:Array Value)(w:World)(g:Nat)(t:TypeId)(cs:Array Value)(fr:Nat × Nat)(d:TypeDesc)
    (hp:tmps.getD p undef=.pointer (some ⟨g,0,none⟩)) (hg:w.heap[g]?=some (.cells cs t fr))
    (hu:P.underlying ty=some d) (hd:(match d with|.struct _|.array _ _=>true|_=>false)=true) (hi:(P.info? ty).map (·.size)=some cs.size) :
    (results fn tmps).run P w=.ok (.tuple #[.agg cs,tmps.getD u undef,tmps.getD v undef]) w:=by
  have hp':tmps[p]?.getD undef=.pointer (some ⟨g,0,none⟩):=by simpa using hp
  simp[results,h,hp',asAddr,run_loadVar_row w g t ty cs fr d hg hu hd hi]
end
theorem Am{w:World}{base n m c size:Nat}{e:TypeId}{A:Option Addr}{xs:List Value}(h:w.ownsRow base e size (.slice A m c) n xs):m<=c:=by
  rcases h.2 with ⟨he,_⟩|⟨g,cap,cur,he,_,_,hnc,_⟩
  · injection he with _ h2 h3
    omega
  · injection he with _ h2 h3
    omega
def jY{α:Type}(R:α->List Value->Prop)(e:TypeId)(size:Nat)(w:World)(base:Nat)(v:Value)(ps:List α):Prop :=
  ∃inner,w.ownsRow base e size v ps.length inner/\bG R size ps inner
section
variable {α:Type} {R R':α->List Value->Prop} {e:TypeId} {size:Nat} {w w1:World} {base:Nat} {v:Value} {ps:List α}
theorem jY.none_(R:α->List Value->Prop)(e:TypeId)(size:Nat)(w:World)(base:Nat):jY R e size w base (.slice none 0 0) []:=⟨[],FM _ _ _ _,bG.none _ _⟩
theorem jY.imp_(h:jY R e size w base v ps)(hR:∀p c,R p c->R' p c):jY R' e size w base v ps:=by
  obtain ⟨inner,ho,hr⟩:=h;exact ⟨inner,ho,hr.imp_ hR⟩
theorem jY.reads(h:jY R e size w base v ps):∃A c,v=.slice A ps.length c/\ps.length<=c/\iJ R size w A ps.length ps:=by
  obtain ⟨inner,ho,hr⟩:=h;obtain ⟨A,c,rfl,hrow⟩:=Ep ho hr rfl;exact ⟨A,c,rfl,Am ho,hrow⟩
theorem jY.ne_block(h:jY R e size w base v ps){g:Nat}{t:TypeId}{cells:Array Value}(hb:w.heap[g]?=some (.cells cells t (0,0)))(ht:e≠t):some g≠v.ownBlock:=by
  obtain ⟨inner,ho,hr⟩:=h;exact own_ne ho hb ht
end
section
variable {P:Program} {ops:Array Oper} {rest:List Oper} {o:Oper} {a:Act} {Q:Exit->Act->World->Prop} {α:Type} {R:α->List Value->Prop}
end
section
variable {P:Program} {ops:Array Oper} {o:Oper} {a:Act} {Q:Exit->Act->World->Prop} {K:Act->World->Prop} {α:Type} {R:α->List Value->Prop}
end
theorem iJ.inner_{α:Type}{R:α->List Value->Prop}{size:Nat}{w:World}{ad:Addr}{n:Nat}{ps:List α}(h:iJ R size w (some ad) n ps) :
    ∃inner,bG R size ps inner/\∀j u,inner[j]?=some u->w.cell? (ad.add j)=some u:=by
  have key:∀m,m<=ps.length->∃inner,bG R size (ps.take m) inner/\∀j u,inner[j]?=some u->w.cell? (ad.add j)=some u:=by
    intro m
    induction m with
    | zero=>exact λ_=>⟨[],bG.none _ _,λj u hu=>by simp at hu⟩
    | succ m ih =>
      intro hm;obtain ⟨inner,hr,hc⟩:=ih (by omega);obtain ⟨ad',he,hcell⟩:=h.2.2 (by have:=h.1;omega)
      injection he with he
      subst he;obtain ⟨c,hcl,hp,hcc⟩:=hcell m _ (List.getElem?_eq_getElem (show m<ps.length by omega));refine ⟨inner++c,?_,λj u hu=>?_⟩
      · rw[List.take_succ_eq_append_getElem (show m<ps.length by omega)]
        exact hr.snoc hp hcl
      · have hil:inner.length=m * size:=by rw[hr.1,List.length_take,Nat.min_eq_left (by omega)]
        rcases Nat.lt_or_ge j inner.length with hj|hj
        · rw[List.getElem?_append_left hj]at hu
          exact hc j u hu
        · rw[List.getElem?_append_right hj]at hu
          have:=hcc (j - inner.length) u hu
          rwa [hil,Nat.add_sub_cancel' (by omega)]at this
  obtain ⟨inner,hr,hc⟩:=key ps.length (Nat.le_refl _);rw[List.take_length]at hr;exact ⟨inner,hr,hc⟩
section
variable {α:Type} {P:Program}
theorem mE(enc:α->Value)(d:α)(t e:TypeId)(kl:IntKind){i:TypeInfo}(ht:P.underlying t=some (.slice e))(hi:P.info? e=some i)(hsz:i.size=1)(A:Option Addr)(c:Nat)(xs:List α)(j:Int)(h0:0<=j)(hm:j<=xs.length)(hc:xs.length<=c) :
    (∀W:World,(Instr.slice t (.slice A xs.length c) none (some (.int kl j)) none).run P W=.ok (.slice A (xs.take j.toNat).length c) W) /\
      (∀w:World,ky enc d w A xs.length xs->ky enc d w A (xs.take j.toNat).length (xs.take j.toNat))/\(xs.take j.toNat).length<=c:=by
  have hl:(xs.take j.toNat).length=j.toNat:=by rw[List.length_take];omega
  refine ⟨λW=>?_,λw h=>by rw[hl];exact h.take_ j.toNat (by omega),by rw[hl];omega⟩
  have hel:P.elem t=e:=by simp[Program.elem,ht]
  have hu:P.underlying t=some (.slice (P.elem t)):=by rw[hel];exact ht
  have ha:(A.map λx=>x.add 0)=A:=by cases A <;> simp[Addr.add]
  rw[run_slice_h W t A xs.length c hu kl j h0 (by omega),hel,hl];simp[sizeOf,typeInfo,hi,hsz,sliced,Result.andThen,ha]
end
section
variable {P:Program} {ops:Array Oper} {rest:List Oper} {o:Oper} {a:Act} {Q:Exit->Act->World->Prop}
end
structure Kd (α:Type) where
  sz:Nat
  E:List Nat
  K:World->α->List Value->Prop
  M:World->Nat->(Nat->Prop)->α->List Value->Prop
  K_len:∀ {w x cs},K w x cs->cs.length=sz
  K_one:∀ {w x cs},K w x cs->∀u∈cs,u.oneCell'=true
  K_below:∀ {w w1:World} {x cs},Below w.heap.size w w1->K w x cs->K w1 x cs
  K_of_M:∀ {w base ok x cs},M w base ok x cs->K w x cs
  M_mono:∀ {w base ok ok' x cs},(∀k,ok k->ok' k)->M w base ok x cs->M w base ok' x cs
  M_bound:∀ {w:World} {base ok x cs},M w base ok x cs->M w base (λk=>ok k/\base<=k/\k<w.heap.size/\∃q,q∈E/\∃cells,w.heap[k]?=some (.cells cells q (0,0))) x cs
  M_move:∀ {w w1:World} {base ok x cs},(∀k,ok k->w1.heap[k]?=w.heap[k]?)->M w base ok x cs->M w1 base ok x cs
  M_lower:∀ {w base base' ok x cs},base'<=base->M w base ok x cs->M w base' ok x cs
theorem Jh{w w1:World}{base:Nat}{e:TypeId}{size n:Nat}{v:Value}{xs:List Value}(h:w.ownsRow base e size v n xs)(hm:∀k,v.ownBlock=some k->w1.heap[k]?=w.heap[k]?):w1.ownsRow base e size v n xs:=by
  obtain ⟨h1,h2⟩:=h;refine ⟨h1,?_⟩
  rcases h2 with h2|⟨g,cap,cur,rfl,hg,hh,r⟩
  · exact .inl h2
  · exact .inr ⟨g,cap,cur,rfl,hg,(hm g (by simp[Value.ownBlock])).trans hh,r⟩
theorem oF{w:World}{base:Nat}{e:TypeId}{size n:Nat}{v:Value}{xs:List Value}(h:w.ownsRow base e size v n xs)(k:Nat)(hk:v.ownBlock=some k):∃cells,w.heap[k]?=some (.cells cells e (0,0)):=by
  rcases h.2 with ⟨rfl,_⟩|⟨g,cap,cur,rfl,hg,hh,r⟩
  · simp[Value.ownBlock]at hk
  · have:g=k:=by simpa [Value.ownBlock] using hk
    subst this;exact ⟨cur,hh⟩
namespace Kd
def C{α:Type}(d:Kd α)(w:World)(A:Option Addr)(n:Nat)(xs:List α):Prop:=iJ (d.K w) d.sz w A n xs
def R{α:Type}(d:Kd α)(e:Nat)(w:World)(base:Nat)(ok:Nat->Prop)(v:Value)(xs:List α):Prop :=
  (∀k,v.ownBlock=some k->ok k)/\jY (d.M w base (λk=>ok k/\some k≠v.ownBlock)) e d.sz w base v xs
section
variable {α:Type} {d:Kd α} {e:Nat} {w w1:World} {base:Nat} {ok ok':Nat->Prop} {v:Value} {xs:List α}
theorem C_below{A:Option Addr}{n:Nat}(h:d.C w A n xs)(hb:Below w.heap.size w w1):d.C w1 A n xs:=iJ.imp_ h hb (λ_ _ hp=>d.K_below hb hp)
theorem R_nil(d:Kd α)(e:Nat)(w:World)(base:Nat)(ok:Nat->Prop):d.R e w base ok (.slice none 0 0) []:=⟨λk hk=>by simp[Value.ownBlock]at hk,jY.none_ _ _ _ _ _⟩
theorem R_mono(h:d.R e w base ok v xs)(hok:∀k,ok k->ok' k):d.R e w base ok' v xs:=⟨λk hk=>hok k (h.1 k hk),h.2.imp_ (λ_ _ hp=>d.M_mono (λk hk=>⟨hok k hk.1,hk.2⟩) hp)⟩
theorem lI(h:d.R e w base ok v xs):d.R e w base (λk=>ok k/\base<=k/\k<w.heap.size/\∃q,q∈e :: d.E/\∃cells,w.heap[k]?=some (.cells cells q (0,0))) v xs:=by
  obtain ⟨h0,inner,ho,hr⟩:=h;refine ⟨λk hk=>?_,inner,ho,hr.imp_ (λ_ _ hp=>d.M_mono (λk hk=>?_) (d.M_bound hp))⟩
  · obtain ⟨cells,hc⟩:=oF ho k hk
    exact ⟨h0 k hk,o_ ho k hk,uy ho k hk,e,List.mem_cons_self,cells,hc⟩
  · obtain ⟨⟨h1,h2⟩,h3,h4,q,hq,hc⟩:=hk
    exact ⟨⟨h1,h3,h4,q,List.mem_cons_of_mem _ hq,hc⟩,h2⟩
theorem qh(h:d.R e w base ok v xs)(hm:∀k,ok k->w1.heap[k]?=w.heap[k]?):d.R e w1 base ok v xs:=by
  obtain ⟨h0,inner,ho,hr⟩:=h;exact ⟨h0,inner,Jh ho (λk hk=>hm k (h0 k hk)),hr.imp_ (λ_ _ hp=>d.M_move (λk hk=>hm k hk.1) hp)⟩
theorem R_lower{base':Nat}(h:d.R e w base ok v xs)(hb:base'<=base):d.R e w base' ok v xs:=by
  obtain ⟨h0,inner,ho,hr⟩:=h;exact ⟨h0,inner,xG ho hb,hr.imp_ (λ_ _ hp=>d.M_lower hb hp)⟩
theorem nQ(h:d.R e w base ok v xs)(hm:∀k,ok k->k<w.heap.size->w1.heap[k]?=w.heap[k]?):d.R e w1 base ok v xs :=
  R_mono (qh (lI h) (λk hk=>hm k hk.1 hk.2.2.1)) (λ_ hk=>hk.1)
theorem yf{x:α}{cs:List Value}(h:d.M w base ok x cs)(hm:∀k,ok k->k<w.heap.size->w1.heap[k]?=w.heap[k]?):d.M w1 base ok x cs :=
  d.M_mono (λ_ hk=>hk.1) (d.M_move (λk hk=>hm k hk.1 hk.2.2.1) (d.M_bound h))
theorem R_below(h:d.R e w base ok v xs)(hb:Below w.heap.size w w1):d.R e w1 base ok v xs:=nQ h (λk _ hk=>hb.block k hk)
theorem xe{x:α}{cs:List Value}(h:d.M w base ok x cs)(hb:Below w.heap.size w w1):d.M w1 base ok x cs:=yf h (λk _ hk=>hb.block k hk)
theorem R_grown(h:d.R e w base ok v xs){row:Option Nat}(hg:w.grownBy w1 row)(hok:∀k,ok k->some k≠row):d.R e w1 base ok v xs:=nQ h (λk ho hk=>hg.block k hk (hok k ho))
theorem R_far(h:d.R e w base ok v xs){p:Addr}(hok:∀k,ok k->k≠p.block)(u:Value):d.R e (w.setCell p u) base ok v xs:=nQ h (λk ho _=>Below.heap_setCell w p u k (hok k ho))
theorem R_keep(h:d.R e w base ok v xs){g:Nat}(hk:aQ w w1 g none)(hok:∀k,ok k->k≠g):d.R e w1 base ok v xs:=nQ h (λk ho hlt=>hk.2 k hlt (hok k ho) (by simp))
theorem R_types(h:d.R e w base ok v xs){g t:Nat}{cells:Array Value}(hb:w.heap[g]?=some (.cells cells t (0,0)))(ht:∀q,q∈e :: d.E->q≠t):d.R e w base (λk=>ok k/\k≠g) v xs :=
  R_mono (lI h) (λk hk=>⟨hk.1,by
    obtain ⟨_,_,_,q,hq,cells',hc⟩:=hk;rintro rfl;rw[hc]at hb
    injection hb with hb
    injection hb with _ hb
    exact ht q hq hb⟩)
theorem R_set(h:d.R e w base ok v xs){g t:Nat}{cells:Array Value}(hb:w.heap[g]?=some (.cells cells t (0,0)))(ht:∀q,q∈e :: d.E->q≠t)(j:Nat)(u:Value):d.R e (w.setCell ⟨g,j,none⟩ u) base ok v xs :=
  R_mono (R_far (p:=⟨g,j,none⟩) (R_types h hb ht) (λ_ hk=>hk.2) u) (λ_ hk=>hk.1)
theorem R_reads(h:d.R e w base ok v xs):∃A c,v=.slice A xs.length c/\xs.length<=c/\d.C w A xs.length xs:=by
  obtain ⟨A,c,he,hl,hr⟩:=jY.reads h.2;exact ⟨A,c,he,hl,hr.imp_ (Below.refl _ _) (λ_ _ hp=>d.K_of_M hp)⟩
theorem R_slice(h:d.R e w base ok v xs):∃A c,v=.slice A xs.length c:=by
  obtain ⟨A,c,he,_⟩:=R_reads h;exact ⟨A,c,he⟩
theorem R_own(h:d.R e w base ok v xs):∃inner,w.ownsRow base e d.sz v xs.length inner:=by
  obtain ⟨_,inner,ho,_⟩:=h;exact ⟨inner,ho⟩
theorem R_ne(h:d.R e w base ok v xs){g t:Nat}{cells:Array Value}(hb:w.heap[g]?=some (.cells cells t (0,0)))(ht:e≠t):some g≠v.ownBlock:=jY.ne_block h.2 hb ht
end
def scalar{α:Type}(enc:α->Value)(h1:∀x,(enc x).oneCell'=true):Kd α where
  sz:=1
  E:=[]
  K:=λ_ x cs=>cs=[enc x]
  M:=λ_ _ _ x cs=>cs=[enc x]
  K_len:=λh=>by rw[h];rfl
  K_one:=λh u hu=>by
    rw[h]at hu;rw[List.mem_singleton.1 hu];exact h1 _
  K_below:=λ_ h=>h
  K_of_M:=λh=>h
  M_mono:=λ_ h=>h
  M_bound:=λh=>h
  M_move:=λ_ h=>h
  M_lower:=λ_ h=>h
def int(k:IntKind):Kd Int:=scalar (Value.int k) (λ_=>rfl)
def bool:Kd Bool:=scalar Value.bool (λ_=>rfl)
def string:Kd ByteArray:=scalar Value.string (λ_=>rfl)
def slice{α:Type}(e:Nat)(d:Kd α):Kd (List α) where
  sz:=1
  E:=e :: d.E
  K:=λw xs cs=>∃A c,cs=[.slice A xs.length c]/\xs.length<=c/\d.C w A xs.length xs
  M:=λw base ok xs cs=>∃v,cs=[v]/\d.R e w base ok v xs
  K_len:=by
    rintro w x cs ⟨A,c,rfl,_⟩;rfl
  K_one:=by
    rintro w x cs ⟨A,c,rfl,_⟩ u hu;rw[List.mem_singleton.1 hu];rfl
  K_below:=by
    rintro w w1 x cs hb ⟨A,c,rfl,hl,hr⟩;exact ⟨A,c,rfl,hl,C_below hr hb⟩
  K_of_M:=by
    rintro w base ok x cs ⟨v,rfl,h⟩;obtain ⟨A,c,rfl,hl,hr⟩:=R_reads h;exact ⟨A,c,rfl,hl,hr⟩
  M_mono:=by
    rintro w base ok ok' x cs hok ⟨v,rfl,h⟩;exact ⟨v,rfl,R_mono h hok⟩
  M_bound:=by
    rintro w base ok x cs ⟨v,rfl,h⟩;exact ⟨v,rfl,lI h⟩
  M_move:=by
    rintro w w1 base ok x cs hm ⟨v,rfl,h⟩;exact ⟨v,rfl,qh h hm⟩
  M_lower:=by
    rintro w base base' ok x cs hb ⟨v,rfl,h⟩;exact ⟨v,rfl,R_lower h hb⟩
def Bt{α:Type}(sz:Nat)(E:List Nat):Kd α where
  sz:=sz
  E:=E
  K:=λ_ _ _=>False
  M:=λ_ _ _ _ _=>False
  K_len:=λh=>h.elim
  K_one:=λh=>h.elim
  K_below:=λ_ h=>h
  K_of_M:=λh=>h
  M_mono:=λ_ h=>h
  M_bound:=λh=>h
  M_move:=λ_ h=>h
  M_lower:=λ_ h=>h
def upto{α:Type}(F:Kd α->Kd α)(sz:Nat)(E:List Nat):Nat->Kd α
  | 0=>Bt sz E
  | n+1=>F (upto F sz E n)
theorem C_get{α:Type}{d:Kd α}{w:World}{A:Option Addr}{n:Nat}{xs:List α}(h:d.C w A n xs)(z:α)(i:Int)(h0:0<=i)(h1:i<n) :
    ∃ad c,A=some ad/\c.length=d.sz/\d.K w (xs.getD i.toNat z) c/\∀j u,c[j]?=some u->w.cell? (ad.add (i.toNat * d.sz+j))=some u:=iJ.get_ h z i h0 h1
theorem JJ{α:Type}{d:Kd α}{e base:Nat}{ok okp:Nat->Prop}{W w1:World}{v v1:Value}{xs:List α}{p:α}{inner cs:List Value}(h0:∀k,v.ownBlock=some k->ok k)(hr:bG (d.M W base (λk=>ok k/\some k≠v.ownBlock)) d.sz xs inner)(hp:d.M W base okp p cs)(hokp:∀k,okp k->ok k/\some k≠v.ownBlock)(hfresh:∀k,W.heap.size<=k->ok k)
    (hown:w1.ownsRow base e d.sz v1 (xs.length+1) (inner++cs)) (hg:W.grownBy w1 v.ownBlock) (hat:v1.ownBlock=v.ownBlock\/∃b,v1.ownBlock=some b/\W.heap.size<=b):d.R e w1 base ok v1 (xs++[p]):=by
  have hne:∀k,some k≠v.ownBlock->k<W.heap.size->some k≠v1.ownBlock:=by
    intro k hk hlt
    rcases hat with hat|⟨b,hb,hle⟩
    · rw[hat];exact hk
    · rw[hb]
      intro he
      injection he with he
      omega
  have step:∀ {q:α} {c:List Value} {o:Nat->Prop},d.M W base o q c->(∀k,o k->ok k/\some k≠v.ownBlock)->d.M w1 base (λk=>ok k/\some k≠v1.ownBlock) q c:=by
    intro q c o hq ho;have h1:=d.M_move (w1:=w1) (λk hk=>hg.block k hk.2.2.1 (ho k hk.1).2) (d.M_bound hq);exact d.M_mono (λk hk=>⟨(ho k hk.1).1,hne k (ho k hk.1).2 hk.2.2.1⟩) h1
  refine ⟨λk hk=>?_,inner++cs,by rw[List.length_append,List.length_singleton];exact hown,?_⟩
  · rcases hat with hat|⟨b,hb,hle⟩
    · exact h0 k (hat▸hk)
    · rw[hb]at hk
      injection hk with hk
      exact hfresh k (by omega)
  · exact (hr.imp_ (λ_ _ hq=>step hq (λ_ hk=>hk))).snoc (step hp hokp) (d.K_len (d.K_of_M hp))
section
variable {P:Program} {ops:Array Oper} {rest:List Oper} {o:Oper} {a:Act} {Q:Exit->Act->World->Prop} {α:Type}
theorem R_append(d:Kd α){w0 W:World}(base:Nat)(hgd:o.guard=none)(s x:Operand)(t e:TypeId)(z:Value)(bytes:Nat)
    (ho:o.op=.call { callee:=.builtin .append,args:=#[s,x],argTypes:=#[t,t] })
    (ht:P.underlying t=some (.slice e)) (hinfo:(P.info? e).map (λi=>(i.zero,i.size,i.bytes))=some (some z,d.sz,bytes)) (hz:z.cells.size=d.sz) (hs0:0<d.sz) (hb0:0<bytes)
    (v:Value) (xs:List α) (p:α) (cs:List Value) (ok okp:Nat->Prop) (hs:a.eval s=v) (hx:a.eval x=.slice (some ⟨W.heap.size,0,none⟩) 1 1) (hp:d.M W base okp p cs) (hokp:∀k,okp k->ok k/\some k≠v.ownBlock) (hfresh:∀k,W.heap.size<=k->ok k)
    (HO:d.R e W base ok v xs) (HB:Below base w0 W) (hbase:base<=W.heap.size) (hl:(xs.length+1) * bytes<=140737488355328)
    (h:∀v1 w1,d.R e w1 base ok v1 (xs++[p])->Below base w0 w1->W.grownBy w1 v.ownBlock->(v1.ownBlock=v.ownBlock\/∃b,v1.ownBlock=some b/\W.heap.size<=b)->wpList P ops Q rest (a.put o.dst v1) w1) :
    wpList P ops Q (o :: rest) a (W.alloc (.cells cs.toArray e)):=by
  obtain ⟨h0,inner,hown,hr⟩:=HO
  refine JF base hgd s x t e z d.sz bytes ho ht hinfo hz hs0 hb0 v xs.length inner cs hs hx (d.K_len (d.K_of_M hp)) (d.K_one (d.K_of_M hp)) hown HB hbase hl ?_
  intro v1 w1 hown1 hb1 hg1 hat1;exact h v1 w1 (JJ h0 hr hp hokp hfresh hown1 hg1 hat1) hb1 hg1 hat1
end
section
variable {P:Program} {ops:Array Oper} {o:Oper} {a:Act} {Q:Exit->Act->World->Prop} {Kc:Act->World->Prop} {α:Type}
end
theorem Jv{α:Type}{enc:α->Value}(xs:List α):bG (λ(x:α) (cs:List Value)=>cs=[enc x]) 1 xs (encs enc xs):=by
  refine ⟨by simp[encs],λj p hj=>?_⟩;obtain ⟨hl,hp⟩:=List.getElem?_eq_some_iff.1 hj
  have hl':j<(encs enc xs).length:=by rw[yS];exact hl
  rw[Nat.mul_one,List.drop_eq_getElem_cons hl'];simp[encs,hp]
theorem R_of_own{α:Type}{enc:α->Value}{h1:∀x,(enc x).oneCell'=true}{e:Nat}{w:World}{base:Nat}{ok:Nat->Prop}{v:Value}{xs:List α}(ho:w.ownsRow base e 1 v xs.length (encs enc xs))(hok:∀k,v.ownBlock=some k->ok k):(scalar enc h1).R e w base ok v xs:=⟨hok,encs enc xs,ho,Jv xs⟩
theorem own_of_R{α:Type}{enc:α->Value}{h1:∀x,(enc x).oneCell'=true}{e:Nat}{w:World}{base:Nat}{ok:Nat->Prop}{v:Value}{xs:List α}(h:(scalar enc h1).R e w base ok v xs):w.ownsRow base e 1 v xs.length (encs enc xs):=by
  obtain ⟨_,inner,ho,hr⟩:=h
  have:inner=encs enc xs:=by
    apply List.ext_getElem?;intro j
    rcases Nat.lt_or_ge j xs.length with hj|hj
    · have h2:=hr.2 j _ (List.getElem?_eq_getElem hj)
      have hl:j<inner.length:=by have:=hr.1;simp[scalar]at this;omega
      have h3:(inner.drop (j * 1)).take 1=[enc xs[j]]:=h2;rw[Nat.mul_one,List.drop_eq_getElem_cons hl]at h3
      have h4:inner[j]=enc xs[j]:=by
        have h5:=congrArg List.head? h3;rw[List.take_succ_cons]at h5;exact Option.some.inj h5
      rw[List.getElem?_eq_getElem hl,h4];simp[encs,List.getElem?_eq_getElem hj]
    · have h3:inner.length=xs.length:=by have:=hr.1;simp[scalar]at this;omega
      rw[List.getElem?_eq_none (by omega),List.getElem?_eq_none (by rw[yS];omega)]
  rw[<- this];exact ho
theorem C_of_reads{α:Type}{enc:α->Value}{d:α}{h1:∀x,(enc x).oneCell'=true}{w:World}{A:Option Addr}{n:Nat}{xs:List α}(h:ky enc d w A n xs):(scalar enc h1).C w A n xs:=by
  refine ⟨h.1,h.2.1,λhn=>?_⟩;obtain ⟨ad,e,hc⟩:=h.2.2 hn;refine ⟨ad,e,λj p hj=>⟨[enc p],rfl,rfl,λi u hu=>?_⟩⟩;obtain ⟨hl,hp⟩:=List.getElem?_eq_some_iff.1 hj;have h2:=hc j (by have:=h.1;omega);rw[List.getD_eq_getElem?_getD,hj]at h2
  cases i with
  | zero =>
    have:enc p=u:=by simpa using hu
    subst this;simpa [scalar] using h2
  | succ i=>simp at hu
theorem reads_of_C{α:Type}{enc:α->Value}{d:α}{h1:∀x,(enc x).oneCell'=true}{w:World}{A:Option Addr}{n:Nat}{xs:List α}(h:(scalar enc h1).C w A n xs):ky enc d w A n xs:=by
  refine ⟨h.1,h.2.1,λhn=>?_⟩;obtain ⟨ad,e,hc⟩:=h.2.2 hn;refine ⟨ad,e,λj hj=>?_⟩
  have hl:j<xs.length:=by have:=h.1;omega
  obtain ⟨c,_,hK,hcell⟩:=hc j _ (List.getElem?_eq_getElem hl);have hK':c=[enc xs[j]]:=hK;subst hK';have:=hcell 0 _ rfl;simpa [scalar,List.getD_eq_getElem?_getD,List.getElem?_eq_getElem hl] using this
end Kd
namespace Kd
section
variable {α:Type} {F:Kd α->Kd α} {sz:Nat} {E:List Nat} {hs:∀n,(upto F sz E n).sz=sz} {hE:∀n q,q∈(upto F sz E n).E->q∈E}
end
end Kd
namespace Kd
theorem R_after{α:Type}{d:Kd α}{e base:Nat}{ok:Nat->Prop}{W w1:World}{u v v1:Value}{xs:List α}(h:d.R e W base (λk=>ok k/\some k≠v.ownBlock) u xs)(hg:W.grownBy w1 v.ownBlock)(hat:v1.ownBlock=v.ownBlock\/∃b,v1.ownBlock=some b/\W.heap.size<=b):d.R e w1 base (λk=>ok k/\some k≠v1.ownBlock) u xs:=by
  refine R_mono (qh (lI h) (λk hk=>hg.block k hk.2.2.1 hk.1.2)) (λk hk=>⟨hk.1.1,?_⟩)
  rcases hat with hat|⟨b,hb,hle⟩
  · rw[hat];exact hk.1.2
  · rw[hb]
    intro he
    injection he with he
    have:=hk.2.2.1;omega
end Kd
namespace Kd
section
variable {α β:Type} {d:Kd α} {d':Kd β} {e e':Nat} {w w1 W:World} {base b b':Nat} {ok ok' okv oku:Nat->Prop} {v u:Value} {xs:List α} {ys:List β}
theorem R_alloc(h:d.R e w base ok v xs)(o:Obj):d.R e (w.alloc o) base ok v xs:=R_below h (aG (Below.refl _ _) o)
theorem R_drew(h:d.R e w base ok v xs):d.R e w.drew base ok v xs:=R_below h (ql (Below.refl _ _))
theorem R_drewN(h:d.R e w base ok v xs)(m:Nat):d.R e (w.drewN m) base ok v xs:=R_below h (dD (Below.refl _ _) m)
theorem C_alloc{A:Option Addr}{n:Nat}(h:d.C w A n xs)(o:Obj):d.C (w.alloc o) A n xs:=C_below h (aG (Below.refl _ _) o)
theorem C_drew{A:Option Addr}{n:Nat}(h:d.C w A n xs):d.C w.drew A n xs:=C_below h (ql (Below.refl _ _))
theorem C_drewN{A:Option Addr}{n:Nat}(h:d.C w A n xs)(m:Nat):d.C (w.drewN m) A n xs:=C_below h (dD (Below.refl _ _) m)
theorem C_nil(d:Kd α)(w:World):d.C w none ([]:List α).length []:=⟨rfl,by simp,λh=>absurd h (Nat.lt_irrefl 0)⟩
theorem R_reads'{A:Option Addr}{n c:Nat}(h:d.R e w base ok (.slice A n c) xs):n=xs.length/\n<=c/\d.C w A xs.length xs:=by
  obtain ⟨A',c',he,hl,hr⟩:=R_reads h
  injection he with h1 h2 h3
  subst h1;exact ⟨h2,by omega,hr⟩
theorem R_lt(h:d.R e w base ok v xs):∀k,v.ownBlock=some k->k<w.heap.size:=by
  obtain ⟨inner,ho⟩:=R_own h;exact uy ho
theorem R_base(h:d.R e w base ok v xs):∀k,v.ownBlock=some k->base<=k:=by
  obtain ⟨inner,ho⟩:=R_own h;exact o_ ho
theorem R_away(h:d.R e w base ok v xs){g:Nat}(hok:∀k,ok k->k≠g):some g≠v.ownBlock:=λe=>hok g (h.1 g e.symm) rfl
theorem R_form(h:d.R e w base ok v xs)(hp:0<xs.length):∃g cap,v=.slice (some ⟨g,0,none⟩) xs.length cap/\base<=g/\g<w.heap.size/\∃cells,w.heap[g]?=some (.cells cells e (0,0)):=by
  obtain ⟨inner,ho⟩:=R_own h;obtain ⟨g,cap,he,hb,hl⟩:=ho.form hp;obtain ⟨cells,hc⟩:=oF ho g (by rw[he];simp[Value.ownBlock]);exact ⟨g,cap,he,hb,hl,cells,hc⟩
end
section
variable {w W:World} {A:Option Addr} {n:Nat}
theorem at_int{k:IntKind}{xs:List Int}(h:(Kd.int k).C w A n xs)(i:Int)(h0:0<=i)(h1:i<n):∃ad,A=some ad/\w.cell? (ad.add i.toNat)=some (.int k (rd xs i)) :=
  ky.at_ (reads_of_C (enc:=Value.int k) (d:=(0:Int)) (h1:=λ_=>rfl) h) i h0 h1
theorem at_bool{xs:List Bool}(h:Kd.bool.C w A n xs)(i:Int)(h0:0<=i)(h1:i<n):∃ad,A=some ad/\w.cell? (ad.add i.toNat)=some (.bool (dS false xs i)) :=
  ky.at_ (reads_of_C (enc:=Value.bool) (d:=false) (h1:=λ_=>rfl) h) i h0 h1
theorem at_string{xs:List ByteArray}(h:Kd.string.C w A n xs)(i:Int)(h0:0<=i)(h1:i<n):∃ad,A=some ad/\w.cell? (ad.add i.toNat)=some (.string (dS ByteArray.empty xs i)) :=
  ky.at_ (reads_of_C (enc:=Value.string) (d:=ByteArray.empty) (h1:=λ_=>rfl) h) i h0 h1
variable {α:Type} {enc:α->Value} {h1:∀x,(enc x).oneCell'=true} {e base g cap:Nat} {ok:Nat->Prop} {xs:List α}
theorem Jc(d:α)(h:(scalar enc h1).R e W base ok (.slice (some ⟨g,0,none⟩) xs.length cap) xs)(i:Int)(h0:0<=i)(hi:i<xs.length):W.cell? ⟨g,i.toNat,none⟩=some (enc (dS d xs i))/\W.frozen? ⟨g,i.toNat,none⟩=false:=BB (own_of_R h) i h0 hi
theorem Ac(h:(scalar enc h1).R e W base ok (.slice (some ⟨g,0,none⟩) xs.length cap) xs)(i:Int)(x:α):(scalar enc h1).R e (W.setCell ⟨g,i.toNat,none⟩ (enc x)) base ok (.slice (some ⟨g,0,none⟩) xs.length cap) (xs.set i.toNat x)/\W.grownBy (W.setCell ⟨g,i.toNat,none⟩ (enc x)) (some g):=by
  obtain ⟨ho,hg⟩:=Bn (own_of_R h) i x;exact ⟨R_of_own (by rw[List.length_set];exact ho) h.1,hg⟩
end
section
variable {P:Program} {ops:Array Oper} {rest:List Oper} {o:Oper} {a:Act} {Q:Exit->Act->World->Prop}
theorem event_run{W w1:World}{v:Value}(hgd:o.guard=none)(hrun:(execOp a.eval o).run P W=.ok (.value v) w1)(h:wpList P ops Q rest (a.put o.dst v) w1):wpList P ops Q (o :: rest) a W:=by
  refine wpList_plain hgd λK hK=>?_
  unfold Oper.wp;rw[hrun];exact hK _ _ h
variable {α:Type}
theorem R_lit(d:Kd α){w0 W:World}(base e:Nat)(hgd:o.guard=none){N:Tmp}(_hd:o.dst=some N){xs:List α}{inner:List Value}{ok okp:Nat->Prop}
    (hrun:(execOp a.eval o).run P W=.ok (.value (.slice (some ⟨W.heap.size,0,none⟩) xs.length xs.length)) (W.alloc (.cells inner.toArray e)))
    (hrep:bG (d.M W base okp) d.sz xs inner) (hok:∀k,okp k->ok k) (hfresh:ok W.heap.size) (HB:Below base w0 W) (hbase:base<=W.heap.size) (hm:xs.length<=9223372036854775807)
    (h:∀v1 w1,d.R e w1 base ok v1 xs->Below base w0 w1->W.grownBy w1 none->(∃b,v1.ownBlock=some b/\W.heap.size<=b)->wpList P ops Q rest (a.put o.dst v1) w1):wpList P ops Q (o :: rest) a W:=by
  refine event_run hgd hrun (h _ _ ⟨λk hk=>?_,inner,?_,?_⟩ (HB.alloc hbase _) (World.grownBy_alloc W _ none) ⟨W.heap.size,by simp[Value.ownBlock],Nat.le_refl _⟩)
  · have:W.heap.size=k:=by simpa [Value.ownBlock] using hk
    subst this;exact hfresh
  · have h2:=World.ownsRow_lit (base:=base) (e:=e) (size:=d.sz) W inner.toArray xs.length hbase (by simpa [maxLen] using hm) (by simpa using hrep.1)
    simpa using h2
  · refine hrep.imp_ (λp c hp=>d.M_mono (λk hk=>⟨hok k hk.1,λhe=>?_⟩) (xe (d.M_bound hp) (aG (Below.refl _ _) _)))
    have h3:k=W.heap.size:=by simpa [Value.ownBlock] using he
    have:=hk.2.2.1;omega
theorem wV{α:Type}{R:α->List Value->Prop}{z:Value}{size:Nat}{z0:α}(hz:z.cells.size=size)(hs:0<size)(h0:R z0 z.cells.toList)(m:Nat):bG R size (List.replicate m z0) (madeCells z.cells (m * size)).toList:=by
  refine ⟨by simp[size_madeCells],λj p hj=>?_⟩;obtain ⟨hjl,hp⟩:=List.getElem?_eq_some_iff.1 hj
  have hjm:j<m:=by simpa using hjl
  have hp':z0=p:=by simpa using hp
  subst hp'
  have hle:j * size+size<=m * size:=by rw[<- Nat.succ_mul];exact Nat.mul_le_mul_right _ hjm
  have:((madeCells z.cells (m * size)).toList.drop (j * size)).take size=z.cells.toList:=by
    apply List.ext_getElem
    · simp[size_madeCells,hz]
      omega
    · intro i h1 h2
      have hi:i<size:=by rw[Array.length_toList,hz]at h2;exact h2
      have hmod:(j * size+i) % size=i:=by
        rw[Nat.mul_comm,Nat.mul_add_mod];exact Nat.mod_eq_of_lt hi
      simp[madeCells,hz,hmod];rw[getElem!_pos z.cells i (by omega)]
  rw[this];exact h0
theorem R_make(d:Kd α){w0 W:World}(base e:Nat)(hgd:o.guard=none){N:Tmp}(hd:o.dst=some N)(t:TypeId)(x y:Operand)(ho:o.op=.makeSlice t x y)(n:Int)(hx:a.eval x=.int .i64 n)(hy:a.eval y=.int .i64 n)
    (ht:P.underlying t=some (.slice e)) (z:Value) (bytes:Nat) (hinfo:(P.info? e).map (λi=>(i.zero,i.size,i.bytes))=some (some z,d.sz,bytes)) (hz:z.cells.size=d.sz) (hs0:0<d.sz) (hb0:0<bytes)
    (z0:α) {ok okp:Nat->Prop} (hzero:d.M W base okp z0 z.cells.toList) (hok:∀k,okp k->ok k) (hfresh:ok W.heap.size) (h0:0<=n) (hl:n.toNat * bytes<=281474976710656) (HB:Below base w0 W) (hbase:base<=W.heap.size)
    (h:∀v1 w1,d.R e w1 base ok v1 (List.replicate n.toNat z0)->Below base w0 w1->W.grownBy w1 none->(∃b,v1.ownBlock=some b/\W.heap.size<=b)->wpList P ops Q rest (a.put o.dst v1) w1):wpList P ops Q (o :: rest) a W:=by
  obtain ⟨m,rfl⟩:=Int.eq_ofNat_of_zero_le h0;simp only[Int.toNat_natCast]at hl h;obtain ⟨i0,hi,hzz⟩:=Option.map_eq_some_iff.1 hinfo;simp only[Prod.mk.injEq]at hzz;obtain ⟨hz0,hz1,hz2⟩:=hzz;have hm:m<=281474976710656:=Nat.le_trans (Nat.le_mul_of_pos_right _ hb0) hl
  have hr:=run_make (P:=P) W t e i0 z ht hi hz0 .i64 .i64 (m:Int) (m:Int) (by omega) (by omega)
    (by
      have h3:((i0.bytes * m:Nat):Int)<=281474976710656:=by rw[hz2,Nat.mul_comm];omega
      rwa [Int.natCast_mul]at h3) (by omega)
  simp only[Int.toNat_natCast]at hr;rw[hz1]at hr;refine R_lit d base e hgd hd (xs:=List.replicate m z0) (inner:=(madeCells z.cells (m * d.sz)).toList) (okp:=okp) (ok:=ok) ?_ (wV hz hs0 hzero m) hok hfresh HB hbase (by simp;omega) h;simp[execOp,ho,hx,hy,hr]
end
end Kd
section
variable {P:Program}
theorem FO(t e:TypeId)(kh:IntKind){i:TypeInfo}(ht:P.underlying t=some (.slice e))(hi:P.info? e=some i)(A:Option Addr)(n c:Nat)(j:Int)(h0:0<=j)(hm:j<=n)(hc:n<=c) :
    ∀W:World,(Instr.slice t (.slice A n c) none (some (.int kh j)) none).run P W=.ok (.slice A j.toNat c) W:=by
  intro W
  have hel:P.elem t=e:=by simp[Program.elem,ht]
  have hu:P.underlying t=some (.slice (P.elem t)):=by rw[hel];exact ht
  have ha:(A.map λx=>x.add 0)=A:=by cases A <;> simp[Addr.add]
  rw[run_slice_h W t A n c hu kh j h0 (by omega),hel];simp[sizeOf,typeInfo,hi,sliced,Result.andThen,ha]
theorem Ij(t e:TypeId)(kl:IntKind){i:TypeInfo}(ht:P.underlying t=some (.slice e))(hi:P.info? e=some i)(size:Nat)(hsz:i.size=size)(A:Option Addr)(n c:Nat)(j:Int)(h0:0<=j)(hm:j<=n) :
    ∀W:World,(Instr.slice t (.slice A n c) (some (.int kl j)) none none).run P W=.ok (.slice (if c=j.toNat then A else A.map (·.add (j.toNat * size))) (n - j.toNat) (c - j.toNat)) W:=by
  intro W
  have hel:P.elem t=e:=by simp[Program.elem,ht]
  have hu:P.underlying t=some (.slice (P.elem t)):=by rw[hel];exact ht
  rw[run_slice_l W t A n c hu kl j h0 hm,hel];simp[sizeOf,typeInfo,hi,hsz,sliced,Result.andThen]
end
def xz(w:World)(base:Nat)(e:TypeId)(size:Nat)(v:Value)(n:Nat)(xs:List Value):Prop :=
  xs.length=n * size /\
  ((n=0/\∃A,v=.slice A 0 0/\∀a,A=some a->base<=a.block/\∃cur,w.heap[a.block]?=some (.cells cur e (0,0))) \/
   ∃g off cap cur,v=.slice (some ⟨g,off * size,none⟩) n cap/\base<=g/\w.heap[g]?=some (.cells cur e (0,0))/\n<=cap/\off+cap<=maxLen/\cur.size=(off+cap) * size/\(cur.toList.drop (off * size)).take (n * size)=xs)
section
variable {w w1:World} {base n size:Nat} {e:TypeId} {v:Value} {xs:List Value}
theorem F6(h:w.ownsRow base e size v n xs):xz w base e size v n xs:=by
  obtain ⟨h1,h2⟩:=h;refine ⟨h1,?_⟩
  rcases h2 with ⟨rfl,h0⟩|⟨g,cap,cur,rfl,hb,hh,hnc,hcm,hcs,ht⟩
  · exact .inl ⟨h0,none,rfl,λa ha=>by cases ha⟩
  · exact .inr ⟨g,0,cap,cur,by rw[Nat.zero_mul],hb,hh,hnc,by rw[Nat.zero_add];exact hcm,by rw[Nat.zero_add];exact hcs,by rw[Nat.zero_mul,List.drop_zero];exact ht⟩
theorem JH(g o j:Nat):(⟨g,o,none⟩:Addr).add j=⟨g,o+j,none⟩:=by unfold Addr.add;split <;> simp_all
end
section
variable {P:Program}
end
namespace Kd
def Q{α:Type}(d:Kd α)(e:Nat)(w:World)(base:Nat)(ok:Nat->Prop)(v:Value)(xs:List α):Prop :=
  (∀k,v.ownBlock=some k->ok k)/\∃inner,xz w base e d.sz v xs.length inner/\bG (d.M w base (λk=>ok k/\some k≠v.ownBlock)) d.sz xs inner
section
variable {α:Type} {d:Kd α} {e:Nat} {w w1 W:World} {base:Nat} {ok ok':Nat->Prop} {v:Value} {xs:List α}
theorem AA(h:d.R e w base ok v xs):d.Q e w base ok v xs:=by
  obtain ⟨h0,inner,ho,hr⟩:=h;exact ⟨h0,inner,F6 ho,hr⟩
theorem Q_nil(d:Kd α)(e:Nat)(w:World)(base:Nat)(ok:Nat->Prop):d.Q e w base ok (.slice none 0 0) []:=AA (R_nil d e w base ok)
end
section
variable {P:Program} {ops:Array Oper} {rest:List Oper} {o:Oper} {a:Act} {Q':Exit->Act->World->Prop} {Kc:Act->World->Prop} {α:Type}
end
end Kd
namespace Kd
section
variable {α:Type} {d:Kd α} {e e':Nat} {w w1 W:World} {base:Nat} {ok:Nat->Prop} {u v:Value} {xs:List α}
theorem R_typed(h:d.R e w base ok v xs):∀k,v.ownBlock=some k->∃cells,w.heap[k]?=some (.cells cells e (0,0)):=by
  obtain ⟨inner,ho⟩:=R_own h;exact λk hk=>oF ho k hk
theorem R_over'(h:d.R e W base ok u xs)(hty:∀k,v.ownBlock=some k->∃cells,W.heap[k]?=some (.cells cells e' (0,0)))(ht:∀q,q∈e :: d.E->q≠e')(hg:W.grownBy w1 v.ownBlock):d.R e w1 base ok u xs:=by
  refine R_mono (qh (lI h) (λk hk=>hg.block k hk.2.2.1 (λhe=>?_))) (λ_ hk=>hk.1);obtain ⟨_,_,_,q,hq,cells,hc⟩:=hk;obtain ⟨cells',hc'⟩:=hty k he.symm;rw[hc]at hc'
  injection hc' with hc'
  injection hc' with _ hc'
  exact ht q hq hc'
theorem R_elder'(hu:d.R e W base ok u xs)(hbase:∀k,v.ownBlock=some k->W.heap.size<=k)(hb:Below W.heap.size W w1):d.R e w1 base (λk=>ok k/\some k≠v.ownBlock) u xs :=
  R_mono (qh (lI hu) (λk hk=>hb.block k hk.2.2.1)) (λk hk=>⟨hk.1,λhe=>by have:=hbase k he.symm;have:=hk.2.2.1;omega⟩)
theorem R_new'(h:d.R e w1 W.heap.size ok v xs)(hlt:∀k,u.ownBlock=some k->k<W.heap.size):d.R e w1 W.heap.size (λk=>ok k/\some k≠u.ownBlock) v xs :=
  R_mono (lI h) (λk hk=>⟨hk.1,λhe=>by have:=hlt k he.symm;have:=hk.2.1;omega⟩)
theorem fresh'(hlt:∀k,u.ownBlock=some k->k<W.heap.size):∀k,W.heap.size<=k->some k≠u.ownBlock:=λk hk he=>by have:=hlt k he.symm;omega
end
end Kd
theorem vP{n c g:Nat}{A:Option Addr}(hne:some g≠(Value.slice A n c).ownBlock):∀ad,A=some ad->0<n->ad.block≠g:=by
  rintro ad rfl _ rfl;exact hne (by simp[Value.ownBlock])
namespace Kd
section
variable {α:Type} {d:Kd α} {e base g n cap:Nat} {ok okp:Nat->Prop} {W:World} {xs:List α}
theorem CS(h:d.R e W base ok (.slice (some ⟨g,0,none⟩) n cap) xs)(z:α)(i:Int)(h0:0<=i)(h1:i<n) :
    ∃c,c.length=d.sz/\d.M W base (λk=>ok k/\k≠g) (xs.getD i.toNat z) c/\(∀j u,c[j]?=some u->W.cell? ⟨g,i.toNat * d.sz+j,none⟩=some u)/\∀j,W.frozen? ⟨g,i.toNat * d.sz+j,none⟩=false:=by
  obtain ⟨hn,hnc,hC⟩:=R_reads' h;obtain ⟨_,inner,ho,hr⟩:=h
  have hil:i.toNat<xs.length:=by omega
  have hseg:i.toNat * d.sz+d.sz<=inner.length:=by rw[hr.1,<- Nat.succ_mul];exact Nat.mul_le_mul_right _ hil
  have hM:=hr.2 i.toNat _ (List.getElem?_eq_getElem hil);refine ⟨(inner.drop (i.toNat * d.sz)).take d.sz,by rw[List.length_take,List.length_drop];omega,?_,λj u hu=>?_,λj=>?_⟩
  · rw[List.getD_eq_getElem?_getD,List.getElem?_eq_getElem hil]
    exact d.M_mono (λk hk=>⟨hk.1,λhe=>hk.2 (by rw[he];simp[Value.ownBlock])⟩) hM
  · rw[List.getElem?_take]at hu
    split at hu
    · rw[List.getElem?_drop]at hu
      have:=ho.cells (g:=g) (by simp[Value.ownBlock]) _ u hu
      rwa [add_plain]at this
    · cases hu
  · obtain ⟨cells,hc⟩:=oF ho g (by simp[Value.ownBlock])
    exact au hc _
end
end Kd
namespace Kd
section
variable {α:Type} {F:Kd α->Kd α} {sz:Nat} {E:List Nat} {hs:∀n,(upto F sz E n).sz=sz} {hE:∀n q,q∈(upto F sz E n).E->q∈E}
end
end Kd
namespace Kd
theorem Bo{α:Type}{R:α->List Value->Prop}{size:Nat}{ps qs:List α}{cs ds:List Value}(h:bG R size ps cs)(h':bG R size qs ds):bG R size (ps++qs) (cs++ds):=by
  refine ⟨by rw[List.length_append,List.length_append,h.1,h'.1,Nat.add_mul],λj p hj=>?_⟩
  rcases Nat.lt_or_ge j ps.length with hlt|hge
  · rw[List.getElem?_append_left hlt]at hj
    have hle:j * size+size<=cs.length:=by rw[h.1,<- Nat.succ_mul];exact Nat.mul_le_mul_right _ hlt
    rw[List.drop_append_of_le_length (by omega),List.take_append_of_le_length (by rw[List.length_drop];omega)];exact h.2 j p hj
  · rw[List.getElem?_append_right hge]at hj
    have h2:=h'.2 (j - ps.length) p hj;have hle:ps.length * size<=j * size:=Nat.mul_le_mul_right _ hge;rw[List.drop_append,List.drop_eq_nil_of_le (by rw[h.1];exact hle),List.nil_append,h.1,<- Nat.sub_mul];exact h2
section
variable {P:Program} {ops:Array Oper} {rest:List Oper} {o:Oper} {a:Act} {Q:Exit->Act->World->Prop} {α:Type}
theorem R_append_rows(d:Kd α){Rr:α->List Value->Prop}{w0 W:World}(base:Nat)(hgd:o.guard=none)(s x:Operand)(t e:TypeId)(z:Value)(bytes:Nat)
    (ho:o.op=.call { callee:=.builtin .append,args:=#[s,x],argTypes:=#[t,t] })
    (ht:P.underlying t=some (.slice e)) (hinfo:(P.info? e).map (λi=>(i.zero,i.size,i.bytes))=some (some z,d.sz,bytes)) (hz:z.cells.size=d.sz) (hs0:0<d.sz) (hb0:0<bytes)
    (v:Value) (xs ys:List α) (A:Option Addr) (m c:Nat) (ok okp:Nat->Prop) (hs:a.eval s=v) (hx:a.eval x=.slice A m c)
    (HO:d.R e W base ok v xs) (HR:iJ Rr d.sz W A m ys) (hKM:∀x cs,Rr x cs->d.M W base okp x cs) (hokp:∀k,okp k->ok k/\some k≠v.ownBlock) (hfresh:∀k,W.heap.size<=k->ok k)
    (HB:Below base w0 W) (hbase:base<=W.heap.size) (hl:(xs.length+m) * bytes<=140737488355328)
    (h:∀v1 w1,d.R e w1 base ok v1 (xs++ys)->Below base w0 w1->W.grownBy w1 v.ownBlock->(v1.ownBlock=v.ownBlock\/∃b,v1.ownBlock=some b/\W.heap.size<=b)->wpList P ops Q rest (a.put o.dst v1) w1) :
    wpList P ops Q (o :: rest) a W:=by
  obtain ⟨i0,hi,hzz⟩:=Option.map_eq_some_iff.1 hinfo;simp only[Prod.mk.injEq]at hzz;obtain ⟨hz0,hz1,hz2⟩:=hzz;have hm:ys.length=m:=HR.1;have hlen:xs.length+m<=140737488355328:=Nat.le_trans (Nat.le_mul_of_pos_right _ hb0) hl;obtain ⟨hok,inner,hown,hr⟩:=HO
  have hrun:∃v1 w1,(Builtin.append_ #[t,t] o.type #[v,.slice A m c]).run P W=.ok v1 w1/\d.R e w1 base ok v1 (xs++ys)/\W.grownBy w1 v.ownBlock/\(v1.ownBlock=v.ownBlock\/∃b,v1.ownBlock=some b/\W.heap.size<=b):=by
    rcases A with _|ad
    · have h0:m=0:=by
        rcases Nat.eq_zero_or_pos m with h0|h0
        · exact h0
        · obtain ⟨ad,h,_⟩:=HR.2.2 h0
          cases h
      subst h0;obtain rfl:ys=[]:=List.eq_nil_of_length_eq_zero hm;refine ⟨v,W,?_,by rw[List.append_nil];exact ⟨hok,inner,hown,hr⟩,World.grownBy.refl W _,.inl rfl⟩
      rcases hown.2 with ⟨rfl,hn⟩|⟨g,cap,cur,rfl,_,_,hnc,_⟩
      · simp[Builtin.append_,run_underlying ht,sizeOf,typeInfo,hi,Builtin.lenOf,Builtin.firstCells]
      · simp[Builtin.append_,run_underlying ht,sizeOf,typeInfo,hi,Builtin.lenOf,Builtin.firstCells,hnc,storeCells]
    · obtain ⟨news,hnr,hnc⟩:=iJ.inner_ HR
      have hnM:bG (d.M W base okp) d.sz ys news:=hnr.imp_ (λp c hp=>hKM p c hp)
      have hone:∀u∈news,u.oneCell'=true:=by
        intro u hu;obtain ⟨q,hq,rfl⟩:=List.mem_iff_getElem.1 hu
        have hql:q / d.sz<ys.length:=by
          rw[Nat.div_lt_iff_lt_mul hs0];rw[<- hnM.1];exact hq
        have hc:=hnM.2 (q / d.sz) _ (List.getElem?_eq_getElem hql)
        refine d.K_one (d.K_of_M hc) _ ?_
        rw[List.mem_iff_getElem?];refine ⟨q % d.sz,?_⟩;rw[List.getElem?_take,if_pos (Nat.mod_lt _ hs0),List.getElem?_drop,Nat.mul_comm,Nat.div_add_mod,List.getElem?_eq_getElem hq]
      obtain ⟨v1,w1,hrun,h2,hg,_,hat⟩:=run_append_own_at (P:=P) W base t o.type e i0 z d.sz bytes ht hi hz0 hz1 hz2 hz hs0 v xs.length inner hown ad m c news (by rw[hnM.1,hm]) hnc hone (by simp only[maxLen];omega) hl hbase
      have hat':v1.ownBlock=v.ownBlock\/∃b,v1.ownBlock=some b/\W.heap.size<=b:=by
        rcases hat with hat|hat
        · exact .inl hat
        · exact .inr ⟨_,hat,Nat.le_refl _⟩
      have hne:∀k,some k≠v.ownBlock->k<W.heap.size->some k≠v1.ownBlock:=by
        intro k hk hlt
        rcases hat' with hat|⟨b,hb,hle⟩
        · rw[hat];exact hk
        · rw[hb]
          intro he
          injection he with he
          omega
      have step:∀ {q:α} {c:List Value} {o:Nat->Prop},d.M W base o q c->(∀k,o k->ok k/\some k≠v.ownBlock)->d.M w1 base (λk=>ok k/\some k≠v1.ownBlock) q c:=by
        intro q c o hq ho;have h1:=d.M_move (w1:=w1) (λk hk=>hg.block k hk.2.2.1 (ho k hk.1).2) (d.M_bound hq);exact d.M_mono (λk hk=>⟨(ho k hk.1).1,hne k (ho k hk.1).2 hk.2.2.1⟩) h1
      refine ⟨v1,w1,hrun,⟨λk hk=>?_,inner++news,by rw[List.length_append,hm];exact h2,Bo (hr.imp_ (λ_ _ hq=>step hq (λ_ hk=>hk))) (hnM.imp_ (λ_ _ hq=>step hq hokp))⟩,hg,hat'⟩
      rcases hat' with hat|⟨b,hb,hle⟩
      · exact hok k (hat▸hk)
      · rw[hb]at hk
        injection hk with hk
        exact hfresh k (by omega)
  obtain ⟨v1,w1,hr1,h1,hg,hat⟩:=hrun
  refine wpList_plain hgd λK hK=>?_
  unfold Oper.wp execOp;simp only[ho,resolve,invoke,builtin,Sem.run_bind,Sem.run_pure,Result.andThen_ok,List.map_toArray,List.map_cons,List.map_nil,hs,hx,hr1];exact hK _ _ (h v1 w1 h1 (HB.grown hg hbase (o_ hown)) hg hat)
end
end Kd
namespace Kd
section
variable {P:Program} {ops:Array Oper} {rest:List Oper} {o:Oper} {a:Act} {Q:Exit->Act->World->Prop} {α:Type}
end
end Kd
theorem add_add(a:Addr)(i j:Nat):(a.add i).add j=a.add (i+j):=by
  unfold Addr.add
  by_cases h1:i=0 <;> by_cases h2:j=0 <;> simp[h1,h2,Nat.add_assoc]
namespace Kd
section
variable {α:Type} {k:Kd α} {w:World} {A:Option Addr} {xs:List α} {m c:Nat}
theorem C_take(h:k.C w A xs.length xs)(hm:m<=xs.length):k.C w A (xs.take m).length (xs.take m):=by
  have hl:(xs.take m).length=m:=by rw[List.length_take];omega
  refine ⟨rfl,by rw[hl];have:=h.2.1;omega,λhp=>?_⟩;obtain ⟨ad,e,hc⟩:=h.2.2 (by omega);refine ⟨ad,e,λj p hj=>hc j p ?_⟩;rw[List.getElem?_take]at hj
  split at hj
  · exact hj
  · cases hj
theorem C_drop(h:k.C w A xs.length xs)(hm:m<=xs.length)(hc:xs.length<=c):k.C w (if c=m then A else A.map (·.add (m * k.sz))) (xs.drop m).length (xs.drop m):=by
  have hl:(xs.drop m).length=xs.length - m:=List.length_drop;refine ⟨rfl,by rw[hl];have:=h.2.1;omega,λhp=>?_⟩;rw[hl]at hp;obtain ⟨ad,rfl,hcell⟩:=h.2.2 (by omega);rw[if_neg (by omega)];refine ⟨ad.add (m * k.sz),rfl,λj p hj=>?_⟩;rw[List.getElem?_drop]at hj;obtain ⟨cs,h1,h2,h3⟩:=hcell (m+j) p hj;refine ⟨cs,h1,h2,λi u hu=>?_⟩;rw[add_add,show m * k.sz+(j * k.sz+i)=(m+j) * k.sz+i by rw[Nat.add_mul];omega];exact h3 i u hu
end
end Kd
section
variable {P:Program}
end
theorem ay{w W:World}(h:Below w.heap.size w W):w.heap.size<=W.heap.size:=h.size
theorem aj{w W w2:World}(h:Below w.heap.size w W)(k:Below W.heap.size W w2):Below w.heap.size w w2:=JD h h.size k
theorem jW.nil(W:World)(k:IntKind):jW W k none ([]:List Int).length []:=⟨rfl,by simp,λh=>absurd h (Nat.lt_irrefl 0)⟩
theorem jW.ofRow{k:IntKind}{w:World}{a:Option Addr}{len cap:Nat}{zs:List Int}(h:(a=none/\len=0/\cap=0/\zs=[])\/∃x,a=some x/\len<=cap/\cap<=maxLen/\zs.length=cap/\(∀i,i<zs.length->w.cell? (x.add i)=some (.int k (zs.getD i 0)))/\∀n∈zs,(Lit.int k n).wf=true) :
    ∃l:List Int,len=l.length/\jW w k a l.length l/\l.length<=maxLen/\∀x∈l,(Lit.int k x).wf=true:=by
  rcases h with ⟨rfl,rfl,rfl,rfl⟩|⟨x,rfl,hl,hm,hz,hc,hw⟩
  · exact ⟨[],rfl,jW.nil _ _,Nat.zero_le _,λx hx=>by simp at hx⟩
  · have e:(zs.take len).length=len:=by simp;omega
    have hm':len<=maxLen:=Nat.le_trans hl hm;refine ⟨zs.take len,e.symm,⟨rfl,by rw[e];simpa [maxLen] using hm',λ_=>⟨x,rfl,λj hj=>?_⟩⟩,by rw[e];exact hm',λy hy=>hw y (List.mem_of_mem_take hy)⟩;rw[e]at hj;rw[hc j (by omega)];simp[List.getD,List.getElem?_take,hj]
theorem bf{w W:World}{g j:Nat}{v:Value}(h:Below w.heap.size w W)(hg:w.heap.size<=g):Below w.heap.size w (W.setCell ⟨g,j,none⟩ v):=h.setCell hg _
theorem Ai{w W:World}{g:Nat}{row:Option Nat}(h:aQ w W g row)(m:Nat):aQ w (W.drewN m) g row:=h
theorem EN{w W:World}{g:Nat}(h:aQ w W g none)(o:Obj):aQ w (W.alloc o) g none:=h.trans (aQ.of_grown (World.grownBy_alloc W o none) g) (.inl rfl)
theorem yM{w W:World}{g:Nat}(h:aQ w W g none){a:Addr}{v:Value}(hc:w.cell? a=some v)(hne:a.block≠g):W.cell? a=some v:=by
  have:=h.2 a.block (World.block_lt_of_cell? w a hc) hne (by simp);simpa [World.cell?,this] using hc
theorem add_block(a:Addr)(i:Nat):(a.add i).block=a.block:=by unfold Addr.add;split <;> rfl
theorem qG{w0 w w1:World}{B:Nat}(h:Below w0.heap.size w0 w)(hB:w0.heap.size<=B)(k:Below B w w1):Below w0.heap.size w0 w1 :=
  h.trans ⟨k.os,k.tape,k.output,k.size,λi hi=>k.block i (Nat.lt_of_lt_of_le hi hB)⟩
theorem own_base'{w:World}{base:Nat}{e:TypeId}{size n:Nat}{v:Value}{xs:List Value}(h:w.ownsRow base e size v n xs):v.ownBlock=none\/∃b,v.ownBlock=some b/\base<=b:=by
  cases hv:v.ownBlock with
  | none=>exact .inl rfl
  | some b=>exact .inr ⟨b,rfl,o_ h b hv⟩
theorem jR{w W:World}{g:Nat}{row:Option Nat}(h:aQ w W g row):w.heap.size<=W.heap.size:=h.1
theorem dV{w:World}{g:Nat}{t:TypeId}{cs cs':Array Value}(h:w.heap[g]?=some (.cells cs t (0,0)))(i:Nat)(u:Value)(e:cs.setIfInBounds i u=cs'):(w.setCell ⟨g,i,none⟩ u).heap[g]?=some (.cells cs' t (0,0)):=e▸iq h i u
theorem jW.ofRowC{k:IntKind}{w:World}{a:Option Addr}{len cap:Nat}{zs:List Int}(h:(a=none/\len=0/\cap=0/\zs=[])\/∃x,a=some x/\len<=cap/\cap<=maxLen/\zs.length=cap/\(∀i,i<zs.length->w.cell? (x.add i)=some (.int k (zs.getD i 0)))/\∀n∈zs,(Lit.int k n).wf=true) :
    ∃l:List Int,len=l.length/\jW w k a l.length l/\l.length<=maxLen/\(∀x∈l,(Lit.int k x).wf=true)/\l.length<=cap:=by
  have hl:len<=cap:=by
    rcases h with ⟨_,rfl,rfl,_⟩|⟨_,_,h,_⟩
    · exact Nat.le_refl _
    · exact h
  obtain ⟨l,e,h1,h2,h3⟩:=jW.ofRow h;exact ⟨l,e,h1,h2,h3,e▸hl⟩
theorem dw{base:Nat}{w W:World}(h:Below base w W):Below base w W.drew:=h.drew
theorem Hy{w W:World}{g:Nat}{row:Option Nat}(h:aQ w W g row):aQ w W.drew g row:=h
namespace Kd
section
variable {α β:Type} {d:Kd α} {d':Kd β} {e e' base base' n:Nat} {ok ok':Nat->Prop} {w W w1 W1:World} {v u:Value} {xs:List α} {ys:List β} {A:Option Addr} {c:Nat}
theorem R_base2(h:d.R e w base ok v xs):v.ownBlock=none\/∃k,v.ownBlock=some k/\base<=k:=by
  obtain ⟨inner,ho⟩:=R_own h;exact own_base' ho
end
section
variable {α:Type} {enc:α->Value} {h1:∀x,(enc x).oneCell'=true} {w W:World} {A:Option Addr} {n g:Nat} {xs:List α}
end
end Kd
namespace Kd
section
variable {α:Type} {d:Kd α} {e base g:Nat} {ok:Nat->Prop} {w w1:World} {v:Value} {xs:List α} {o:Obj}
theorem R_elderB(h:d.R e w base ok v xs)(a:Nat)(ha:w.heap.size<=a):d.R e w base (λk=>ok k/\k≠a) v xs:=R_mono (lI h) (λk hk=>⟨hk.1,by have:=hk.2.2.1;omega⟩)
theorem R_newB(h:d.R e w1 w.heap.size ok v xs)(hb:w.heap[g]?=some o):d.R e w1 w.heap.size (λk=>ok k/\k≠g) v xs:=R_mono (lI h) (λk hk=>⟨hk.1,by have:=dC hb;have:=hk.2.1;omega⟩)
theorem freshB(hb:w.heap[g]?=some o):∀k,w.heap.size<=k->k≠g:=λk hk=>by have:=dC hb;omega
end
end Kd
section
variable {P:Program} {ops:Array Oper} {rest:List Oper} {o:Oper} {a:Act} {Q:Exit->Act->World->Prop}
theorem tu{W:World}(hgd:o.guard=none){N:Tmp}(_hd:o.dst=some N){cs:Array Value}{t:TypeId}
    (hrun:(execOp a.eval o).run P W=.ok (.value (.pointer (some ⟨W.heap.size,0,none⟩))) (W.alloc (.cells cs t (0,0))))
    (h:∀g,g=W.heap.size->∀w1,w1.heap[g]?=some (.cells cs t (0,0))->Below W.heap.size W w1->wpList P ops Q rest (a.put o.dst (.pointer (some ⟨g,0,none⟩))) w1):wpList P ops Q (o :: rest) a W :=
  Kd.event_run hgd hrun (h _ rfl _ (bC W _) (aG (Below.refl _ _) _))
end
namespace Kd
section
variable {α:Type} {enc:α->Value} {h1:∀x,(enc x).oneCell'=true} {e base g n cap:Nat} {ok:Nat->Prop} {W:World} {xs:List α}
theorem R_celln(d:α)(h:(scalar enc h1).R e W base ok (.slice (some ⟨g,0,none⟩) n cap) xs)(i:Int)(h0:0<=i)(hi:i<n):W.cell? ⟨g,i.toNat,none⟩=some (enc (dS d xs i))/\W.frozen? ⟨g,i.toNat,none⟩=false:=by
  obtain ⟨rfl,_⟩:=R_reads' h;exact Jc d h i h0 hi
theorem R_putn(h:(scalar enc h1).R e W base ok (.slice (some ⟨g,0,none⟩) n cap) xs)(i:Int)(x:α):(scalar enc h1).R e (W.setCell ⟨g,i.toNat,none⟩ (enc x)) base ok (.slice (some ⟨g,0,none⟩) n cap) (xs.set i.toNat x):=by
  obtain ⟨rfl,_⟩:=R_reads' h;exact (Ac h i x).1
end
end Kd
section
variable {P:Program} {ops:Array Oper} {rest:List Oper} {o:Oper} {a:Act} {Q:Exit->Act->World->Prop}
theorem jF{W w1:World}(hgd:o.guard=none){t:TypeId}{p:Tmp}{v:Operand}(_ho:o.op=.store t (.tmp p) v)(hN:o.dst=none)
    (hrun:(execOp a.eval o).run P W=.ok .skip w1) (h:∀w',w'=w1->wpList P ops Q rest a w'):wpList P ops Q (o :: rest) a W:=by
  refine wpList_plain hgd λK hK=>?_
  unfold Oper.wp;rw[hrun];show K (a.put o.dst undef) w1;rw[hN];exact hK _ _ (h _ rfl)
end
namespace Kd
section
variable {α:Type} {enc:α->Value} {h1:∀x,(enc x).oneCell'=true} {e base g n cap:Nat} {ok:Nat->Prop} {W:World} {xs:List α}
theorem R_putg(h:(scalar enc h1).R e W base ok (.slice (some ⟨g,0,none⟩) n cap) xs)(i:Int)(x:α):(scalar enc h1).R e (W.setCell ⟨g,i.toNat,none⟩ (enc x)) base ok (.slice (some ⟨g,0,none⟩) n cap) (xs.set i.toNat x)/\W.grownBy (W.setCell ⟨g,i.toNat,none⟩ (enc x)) (some g):=by
  obtain ⟨rfl,_⟩:=R_reads' h;exact Ac h i x
end
end Kd
section
variable {P:Program} {ops:Array Oper} {rest:List Oper} {o:Oper} {a:Act} {Q:Exit->Act->World->Prop} {W:World}
theorem qE{N:Tmp}(_hN:o.dst=some N)(h:wpList P ops Q (o :: rest) a W):wpList P ops Q (o :: rest) a W:=h
theorem jh{t:TypeId}{p:Tmp}{v:Operand}(_ho:o.op=.store t (.tmp p) v)(h:wpList P ops Q (o :: rest) a W):wpList P ops Q (o :: rest) a W:=h
end
section
variable {P:Program} {ops:Array Oper} {o:Oper} {a:Act} {Q:Exit->Act->World->Prop} {Kc:Act->World->Prop}
theorem Ap{W w1:World}{v:Value}(hw:Region.wanted o (yielded ops a.tmps)=true)(hrun:(execOp a.eval o).run P W=.ok (.value v) w1)(h:Kc (a.put o.dst v) w1):if Region.wanted o (yielded ops a.tmps)=true then Oper.wp P o a W Kc Q else Kc (a.put o.dst undef) W:=by
  rw[if_pos hw];unfold Oper.wp;rw[hrun];exact h
namespace Kd
variable {α:Type}
theorem R_lit_step(d:Kd α){w0 W:World}(base e:Nat)(hw:Region.wanted o (yielded ops a.tmps)=true){N:Tmp}(_hd:o.dst=some N){xs:List α}{inner:List Value}{ok okp:Nat->Prop}
    (hrun:(execOp a.eval o).run P W=.ok (.value (.slice (some ⟨W.heap.size,0,none⟩) xs.length xs.length)) (W.alloc (.cells inner.toArray e)))
    (hrep:bG (d.M W base okp) d.sz xs inner) (hok:∀k,okp k->ok k) (hfresh:ok W.heap.size) (HB:Below base w0 W) (hbase:base<=W.heap.size) (hm:xs.length<=9223372036854775807)
    (h:∀v1 w1,d.R e w1 base ok v1 xs->Below base w0 w1->W.grownBy w1 none->(∃b,v1.ownBlock=some b/\W.heap.size<=b)->Kc (a.put o.dst v1) w1):if Region.wanted o (yielded ops a.tmps)=true then Oper.wp P o a W Kc Q else Kc (a.put o.dst undef) W:=by
  refine Ap hw hrun (h _ _ ⟨λk hk=>?_,inner,?_,?_⟩ (HB.alloc hbase _) (World.grownBy_alloc W _ none) ⟨W.heap.size,by simp[Value.ownBlock],Nat.le_refl _⟩)
  · have:W.heap.size=k:=by simpa [Value.ownBlock] using hk
    subst this;exact hfresh
  · have h2:=World.ownsRow_lit (base:=base) (e:=e) (size:=d.sz) W inner.toArray xs.length hbase (by simpa [maxLen] using hm) (by simpa using hrep.1)
    simpa using h2
  · refine hrep.imp_ (λp c hp=>d.M_mono (λk hk=>⟨hok k hk.1,λhe=>?_⟩) (xe (d.M_bound hp) (aG (Below.refl _ _) _)))
    have h3:k=W.heap.size:=by simpa [Value.ownBlock] using he
    have:=hk.2.2.1;omega
theorem R_make_step(d:Kd α){w0 W:World}(base e:Nat)(hw:Region.wanted o (yielded ops a.tmps)=true){N:Tmp}(hd:o.dst=some N)(t:TypeId)(x y:Operand)(ho:o.op=.makeSlice t x y)(n:Int)(hx:a.eval x=.int .i64 n)(hy:a.eval y=.int .i64 n)
    (ht:P.underlying t=some (.slice e)) (z:Value) (bytes:Nat) (hinfo:(P.info? e).map (λi=>(i.zero,i.size,i.bytes))=some (some z,d.sz,bytes)) (hz:z.cells.size=d.sz) (hs0:0<d.sz) (hb0:0<bytes)
    (z0:α) {ok okp:Nat->Prop} (hzero:d.M W base okp z0 z.cells.toList) (hok:∀k,okp k->ok k) (hfresh:ok W.heap.size) (h0:0<=n) (hl:n.toNat * bytes<=281474976710656) (HB:Below base w0 W) (hbase:base<=W.heap.size)
    (h:∀v1 w1,d.R e w1 base ok v1 (List.replicate n.toNat z0)->Below base w0 w1->W.grownBy w1 none->(∃b,v1.ownBlock=some b/\W.heap.size<=b)->Kc (a.put o.dst v1) w1):if Region.wanted o (yielded ops a.tmps)=true then Oper.wp P o a W Kc Q else Kc (a.put o.dst undef) W:=by
  obtain ⟨m,rfl⟩:=Int.eq_ofNat_of_zero_le h0;simp only[Int.toNat_natCast]at hl h;obtain ⟨i0,hi,hzz⟩:=Option.map_eq_some_iff.1 hinfo;simp only[Prod.mk.injEq]at hzz;obtain ⟨hz0,hz1,hz2⟩:=hzz;have hm:m<=281474976710656:=Nat.le_trans (Nat.le_mul_of_pos_right _ hb0) hl
  have hr:=run_make (P:=P) W t e i0 z ht hi hz0 .i64 .i64 (m:Int) (m:Int) (by omega) (by omega)
    (by
      have h3:((i0.bytes * m:Nat):Int)<=281474976710656:=by rw[hz2,Nat.mul_comm];omega
      rwa [Int.natCast_mul]at h3) (by omega)
  simp only[Int.toNat_natCast]at hr;rw[hz1]at hr;refine R_lit_step d base e hw hd (xs:=List.replicate m z0) (inner:=(madeCells z.cells (m * d.sz)).toList) (okp:=okp) (ok:=ok) ?_ (wV hz hs0 hzero m) hok hfresh HB hbase (by simp;omega) h;simp[execOp,ho,hx,hy,hr]
end Kd
end
section
variable {P:Program} {tmps:Array Value} {w:World}
end
namespace Kd
section
variable {P:Program} {α:Type}
end
section
variable {P:Program} {ops:Array Oper} {rest:List Oper} {o:Oper} {a:Act} {Q:Exit->Act->World->Prop} {Kc:Act->World->Prop} {α:Type}
end
end Kd
end Go.Proofs.YtjdlhefjgceabaaGreatDoorW.PrintWords
namespace Go.Proofs.YtjdlhefjgceabaaGreatDoorW.PrintLast
section
variable {P:Program} {ops:Array Oper} {Q:Exit->Act->World->Prop} {md:Region.Mode} {S:World->Prop} {ds:List Nat}
def Region.reachB(md:Region.Mode)(ops:Array Oper)(i:Nat):Nat->Nat->Bool
  | 0,_=>false
  | fuel+1,d=>match ops[d]? with
    | some o=>o.after.any λe=>Region.binds md e && (e.on == i || Region.reachB md ops i fuel e.on)
    | none=>false
def Region.closedB(md:Region.Mode)(ops:Array Oper)(listed:Array Bool):Bool :=
  (List.range ops.size).all λj=>!listed.getD j false || match ops[j]? with
    | some o=>o.after.all λe=>!Region.binds md e || listed.getD e.on false
    | none=>true
def Region.lastB(md:Region.Mode)(ops:Array Oper)(listed:Array Bool)(ds:List Nat)(i:Nat):Bool :=
  ds.all λd=>listed.getD d true || Region.reachB md ops i ops.size d
def nL(md:Region.Mode)(ops:Array Oper)(listed:Array Bool):Prop :=
  ∀j oj,ops[j]?=some oj->listed.getD j false=true->∀e∈oj.after,Region.binds md e=true->listed.getD e.on false=true
theorem Region.closedB_spec{listed:Array Bool}(h:Region.closedB md ops listed=true):nL md ops listed:=by
  intro j oj hj hl e he hb;have hlt:j<ops.size:=(Array.getElem?_eq_some_iff.1 hj).1;have h1:=List.all_eq_true.1 h j (List.mem_range.2 hlt);simp only[hl,hj,Bool.not_true,Bool.false_or]at h1;have h2:=Array.all_eq_true_iff_forall_mem.1 h1 e he;simpa [hb] using h2
theorem nL.set{listed:Array Bool}{i:Nat}(h:nL md ops listed)(hi:i∈Region.ready md ops listed):nL md ops (listed.setIfInBounds i true):=by
  obtain ⟨_,oi,hoi,hall⟩:=mem_ready.1 hi;intro j oj hj hl e he hb
  by_cases hij:i=j
  · subst hij
    have:oj=oi:=Option.some.inj (hj.symm.trans hoi);subst this;exact getD_set_true (hall e he hb)
  · rw[getD_set_ne false hij]at hl
    exact getD_set_true (h j oj hj hl e he hb)
theorem Region.reach_listed{listed:Array Bool}{i:Nat}(hc:nL md ops listed):∀ (fuel d:Nat),Region.reachB md ops i fuel d=true->listed.getD d false=true->listed.getD i false=true
  | 0,_,h,_=>by simp[Region.reachB]at h
  | fuel+1,d,h,hl=>by
    unfold Region.reachB at h
    cases ho:ops[d]? with
    | none=>rw[ho]at h;simp at h
    | some o =>
      rw[ho]at h;obtain ⟨e,he,h1⟩:=Array.any_eq_true'.1 h;simp only[Bool.and_eq_true,Bool.or_eq_true,beq_iff_eq]at h1;have hle:=hc d o ho hl e he h1.1
      rcases h1.2 with h2|h2
      · rw[<- h2];exact hle
      · exact Region.reach_listed hc fuel e.on h2 hle
theorem Region.reach_not_ready{listed:Array Bool}{i d fuel:Nat}(hc:nL md ops listed)(hr:Region.reachB md ops i fuel d=true)(hun:listed.getD i true=false):d ∉ Region.ready md ops listed:=by
  intro hd;obtain ⟨_,o,ho,hall⟩:=mem_ready.1 hd
  have hi:listed.getD i false=true:=by
    cases fuel with
    | zero=>simp[Region.reachB]at hr
    | succ n =>
      unfold Region.reachB at hr;rw[ho]at hr;obtain ⟨e,he,h1⟩:=Array.any_eq_true'.1 hr;simp only[Bool.and_eq_true,Bool.or_eq_true,beq_iff_eq]at h1;have hle:=hall e he h1.1
      rcases h1.2 with h2|h2
      · rw[<- h2];exact hle
      · exact Region.reach_listed hc n e.on h2 hle
  rcases Nat.lt_or_ge i listed.size with h'|h'
  · simp[h']at hun hi
    rw[hun]at hi;cases hi
  · simp[Array.getElem?_eq_none h']at hun
def dh(P:Program)(md:Region.Mode)(ops:Array Oper)(Q:Exit->Act->World->Prop)(S:World->Prop)(ds:List Nat):Nat->Array Bool->Act->World->Prop
  | 0,listed,a,w=>Region.ready md ops listed=[]/\Q .normal a w
  | fuel+1,listed,a,w =>
    (Region.ready md ops listed=[]->Q .normal a w) /\
    ∀i∈Region.ready md ops listed,wpOp P ops Q i (λa' w'=>(i ∉ ds->S w->S w')/\dh P md ops Q S ds fuel (listed.setIfInBounds i true) a' w') a w
theorem wI:∀ (fuel:Nat) (listed:Array Bool) (a:Act) (w:World),dh P md ops Q S ds fuel listed a w->wpAny P md ops Q fuel listed a w
  | 0,_,_,_,h=>h
  | fuel+1,_,_,_,h=>⟨h.1,λi hi=>wpOp_mono (λa' w' h'=>wI fuel _ a' w' h'.2) (h.2 i hi)⟩
theorem F9{i:Nat}{oi:Oper}{v:Value}(hi:ops[i]?=some oi)(hsel:∀ (j:Nat) (o:Oper) cs b,ops[j]?=some o->o.op≠.select cs b)
    (hQ:∀c a w,Q (.panic c) (a.put oi.dst v) w->Q (.panic c) a w) (n:Nat) :
    ∀ (fuel:Nat) (listed:Array Bool) (a:Act) (w:World),
      (∀j oj,ops[j]?=some oj->j≠i->listed.getD j true=false->(∀e∈oj.after,Region.binds md e=true->e.on≠i)->oi.apart ops oj=true) ->
      nL md ops listed->(∀d∈ds,listed.getD d true=false->Region.reachB md ops i n d=true) ->
      i∈Region.ready md ops listed->YieldsIf P ops S oi v a->S w ->
      dh P md ops Q S ds fuel (listed.setIfInBounds i true) (a.put oi.dst v) w->dh P md ops Q S ds (fuel+1) listed a w:=by
  intro fuel
  induction fuel with
  | zero =>
    intro listed a w _ _ _ hr hy hS H;refine ⟨λh=>(by rw[h]at hr;cases hr),λj hj=>?_⟩
    by_cases hji:j=i
    · subst hji;exact hy.wpOp hi hS ⟨λ_ h=>h,H⟩
    · have:=ready_mono hj hji
      rw[H.1]at this;cases this
  | succ fuel ih =>
    intro listed a w hfree hc hd hr hy hS H;refine ⟨λh=>(by rw[h]at hr;cases hr),λj hj=>?_⟩
    by_cases hji:j=i
    · subst hji;exact hy.wpOp hi hS ⟨λ_ h=>h,H⟩
    · have h1:=H.2 j (ready_mono hj hji)
      obtain ⟨hjun,oj,hoj,hall⟩:=mem_ready.1 hj;have hiun:=(mem_ready.1 hr).1
      have hnot:∀e∈oj.after,Region.binds md e=true->e.on≠i:=λe he hb heq=>by
        have h1:=hall e he hb;rw[heq]at h1
        rcases Nat.lt_or_ge i listed.size with h'|h'
        · simp[h']at hiun h1;rw[hiun]at h1;cases h1
        · simp[Array.getElem?_eq_none h']at h1
      have hjd:j ∉ ds:=λhm=>Region.reach_not_ready hc (hd j hm hjun) hiun hj;have h2:=wpOp_putIf hoj (hfree j oj hoj hji hjun hnot) (λcs b=>hsel i oi cs b hi) (λcs b=>hsel j oj cs b hoj) hQ hy h1
      have hfree':∀k ok,ops[k]?=some ok->k≠i->(listed.setIfInBounds j true).getD k true=false ->
          (∀e∈ok.after,Region.binds md e=true->e.on≠i)->oi.apart ops ok=true:=λk ok hk hki hun hno=>by
        refine hfree k ok hk hki ?_ hno
        by_cases hjk:j=k
        · subst hjk;exact hjun
        · rw[getD_set_ne true hjk]at hun;exact hun
      have hd':∀d∈ds,(listed.setIfInBounds j true).getD d true=false->Region.reachB md ops i n d=true:=λd hm hun=>by
        refine hd d hm ?_
        by_cases hjk:j=d
        · subst hjk;exact hjun
        · rw[getD_set_ne true hjk]at hun;exact hun
      refine wpOp_mono (λa' w' h3=>⟨h3.2.1,ih (listed.setIfInBounds j true) a' w' hfree' (hc.set hj) hd' (ready_mono hr (Ne.symm hji)) h3.1 (h3.2.1 hjd hS) ?_⟩) h2;rw[Array.setIfInBounds_comm _ _ hji];exact h3.2.2
theorem Hr{i:Nat}{oi:Oper}{v:Value}(hi:ops[i]?=some oi)(hsel:∀ (j:Nat) (o:Oper) cs b,ops[j]?=some o->o.op≠.select cs b)
    (hQ:∀c a w,Q (.panic c) (a.put oi.dst v) w->Q (.panic c) a w) :
    ∀ (fuel:Nat) (listed:Array Bool) (a:Act) (w:World),
      (∀j oj,ops[j]?=some oj->j≠i->listed.getD j true=false->(∀e∈oj.after,Region.binds md e=true->e.on≠i)->oi.apart ops oj=true) ->
      i∈Region.ready md ops listed->Yields P ops oi v a ->
      dh P md ops Q S ds fuel (listed.setIfInBounds i true) (a.put oi.dst v) w->dh P md ops Q S ds (fuel+1) listed a w:=by
  intro fuel
  induction fuel with
  | zero =>
    intro listed a w _ hr hy H;refine ⟨λh=>(by rw[h]at hr;cases hr),λj hj=>?_⟩
    by_cases hji:j=i
    · subst hji;exact (hy.yieldsIf (S:=λ_=>True)).wpOp hi trivial ⟨λ_ h=>h,H⟩
    · have:=ready_mono hj hji
      rw[H.1]at this;cases this
  | succ fuel ih =>
    intro listed a w hfree hr hy H;refine ⟨λh=>(by rw[h]at hr;cases hr),λj hj=>?_⟩
    by_cases hji:j=i
    · subst hji;exact (hy.yieldsIf (S:=λ_=>True)).wpOp hi trivial ⟨λ_ h=>h,H⟩
    · have h1:=H.2 j (ready_mono hj hji)
      obtain ⟨hjun,oj,hoj,hall⟩:=mem_ready.1 hj;have hiun:=(mem_ready.1 hr).1
      have hnot:∀e∈oj.after,Region.binds md e=true->e.on≠i:=λe he hb heq=>by
        have h1:=hall e he hb;rw[heq]at h1
        rcases Nat.lt_or_ge i listed.size with h'|h'
        · simp[h']at hiun h1;rw[hiun]at h1;cases h1
        · simp[Array.getElem?_eq_none h']at h1
      have h2:=wpOp_put hoj (hfree j oj hoj hji hjun hnot) (λcs b=>hsel i oi cs b hi) (λcs b=>hsel j oj cs b hoj) hQ hy h1
      have hfree':∀k ok,ops[k]?=some ok->k≠i->(listed.setIfInBounds j true).getD k true=false ->
          (∀e∈ok.after,Region.binds md e=true->e.on≠i)->oi.apart ops ok=true:=λk ok hk hki hun hno=>by
        refine hfree k ok hk hki ?_ hno
        by_cases hjk:j=k
        · subst hjk;exact hjun
        · rw[getD_set_ne true hjk]at hun;exact hun
      refine wpOp_mono (λa' w' h3=>⟨h3.2.1,ih (listed.setIfInBounds j true) a' w' hfree' (ready_mono hr (Ne.symm hji)) h3.1 ?_⟩) h2;rw[Array.setIfInBounds_comm _ _ hji];exact h3.2.2
theorem BF{i:Nat}{oi:Oper}{v:Value}{fuel:Nat}{listed:Array Bool}{a:Act}{w:World}(hi:ops[i]?=some oi)
    (hs:Region.noSelect ops=true) (hf:Region.free md ops listed i=true) (hr:(Region.ready md ops listed).contains i=true)
    (hc:Region.closedB md ops listed=true) (hl:Region.lastB md ops listed ds i=true)
    (hQ:∀c a w,Q (.panic c) (a.put oi.dst v) w->Q (.panic c) a w) (hy:YieldsIf P ops S oi v a) (hS:S w)
    (h:dh P md ops Q S ds fuel (listed.setIfInBounds i true) (a.put oi.dst v) w):dh P md ops Q S ds (fuel+1) listed a w :=
  F9 hi (Region.noSelect_spec hs) hQ ops.size fuel listed a w (Region.free_spec hi hf) (Region.closedB_spec hc)
    (λd hm hun=>by have:=List.all_eq_true.1 hl d hm;rw[hun]at this;simpa using this) (by simpa using hr) hy hS h
theorem Fa{rs:List Nat}{fuel:Nat}{listed:Array Bool}{a:Act}{w:World}(hr:Region.ready md ops listed=rs)(hne:rs≠[])
    (h:∀i∈rs,wpOp P ops Q i (λa' w'=>(i ∉ ds->S w->S w')/\dh P md ops Q S ds fuel (listed.setIfInBounds i true) a' w') a w):dh P md ops Q S ds (fuel+1) listed a w :=
  ⟨λh0=>absurd (hr▸h0) hne,hr▸h⟩
theorem Jg{listed:Array Bool}{a:Act}{w:World}(hr:Region.ready md ops listed=[])(h:Q .normal a w) :
    ∀fuel,dh P md ops Q S ds fuel listed a w
  | 0=>⟨hr,h⟩
  | _+1=>⟨λ_=>h,by rw[hr];simp⟩
theorem FV{id:Nat}{a:Act}{w:World}(hm:P.follows .mixedOrders=true)
    (h:dh P .any ops Q S ds ops.size (Array.replicate ops.size false) a { w with drawn:=w.drawn+1 }):(Code.region id ops true).wp P Q a w :=
  wp_region_any hm (wI _ _ _ _ h)
end
section
variable {P:Program} {ops:Array Oper} {Q:Exit->Act->World->Prop} {md:Region.Mode} {S:World->Prop} {ds:List Nat}
def jc(P:Program)(md:Region.Mode)(ops:Array Oper)(Q:Exit->Act->World->Prop)(S:World->Prop)(ds:List Nat)(fuel:Nat)(listed:Array Bool)(a:Act)(w:World)(rs:List Nat):Prop :=
  ∀i∈rs,wpOp P ops Q i (λa' w'=>(i ∉ ds->S w->S w')/\dh P md ops Q S ds fuel (listed.setIfInBounds i true) a' w') a w
theorem jc.nil{fuel:Nat}{listed:Array Bool}{a:Act}{w:World}:jc P md ops Q S ds fuel listed a w []:=λ_ h=>by cases h
theorem jc.cons{fuel:Nat}{listed:Array Bool}{a:Act}{w:World}{i:Nat}{o:Oper}{rs:List Nat}(ho:ops[i]?=some o)(hd:i ∉ ds)
    (h:∀K':Act->World->Prop,Shut (∀a w,S w->(S w->dh P md ops Q S ds fuel (listed.setIfInBounds i true) a w)->K' a w)->if Region.wanted o (yielded ops a.tmps)=true then Oper.wp P o a w K' Q else K' (a.put o.dst undef) w)
    (hs:jc P md ops Q S ds fuel listed a w rs):jc P md ops Q S ds fuel listed a w (i :: rs):=λj hj=>by
  rcases List.mem_cons.1 hj with rfl|hj
  · exact wpOp_step ho (λK' hK=>h K' (λa w hS hW=>hK a w ⟨λ_ _=>hS,hW hS⟩))
  · exact hs j hj
theorem jc.cons_last{fuel:Nat}{listed:Array Bool}{a:Act}{w:World}{i:Nat}{o:Oper}{rs:List Nat}(ho:ops[i]?=some o)(hd:i∈ds)
    (h:∀K':Act->World->Prop,Shut (∀a w,dh P md ops Q S ds fuel (listed.setIfInBounds i true) a w->K' a w)->if Region.wanted o (yielded ops a.tmps)=true then Oper.wp P o a w K' Q else K' (a.put o.dst undef) w)
    (hs:jc P md ops Q S ds fuel listed a w rs):jc P md ops Q S ds fuel listed a w (i :: rs):=λj hj=>by
  rcases List.mem_cons.1 hj with rfl|hj
  · exact wpOp_step ho (λK' hK=>h K' (λa w hW=>hK a w ⟨λhn=>absurd hd hn,hW⟩))
  · exact hs j hj
theorem vR{rs:List Nat}{fuel:Nat}{listed:Array Bool}{a:Act}{w:World}(hr:Region.ready md ops listed=rs)(hne:rs≠[])
    (h:jc P md ops Q S ds fuel listed a w rs):dh P md ops Q S ds (fuel+1) listed a w:=Fa hr hne h
theorem jf{id n:Nat}{a:Act}{w:World}(l:Array Bool)(hm:P.follows .mixedOrders=true)(hn:ops.size=n)(hl:Array.replicate n false=l)(hS:S w.drew)
    (h:S w.drew->dh P .any ops Q S ds n l a w.drew):(Code.region id ops true).wp P Q a w:=by
  subst hn;subst hl;exact FV hm (h hS)
def takeB(md:Region.Mode)(ops:Array Oper)(ds:List Nat)(l l':Array Bool)(i:Nat):Bool :=
  Region.noSelect ops && Region.free md ops l i && (Region.ready md ops l).contains i && Region.closedB md ops l && Region.lastB md ops l ds i && (l.setIfInBounds i true == l')
theorem take_{i:Nat}{N:Option Tmp}{oi:Oper}{v:Value}{fuel:Nat}{l:Array Bool}{a:Act}{w:World}(l':Array Bool)(hi:ops[i]?=some oi)(hN:oi.dst=N)(hc:takeB md ops ds l l' i=true)
    (hQ:∀c a w,Q (.panic c) (a.put oi.dst v) w->Q (.panic c) a w) (hy:YieldsIf P ops S oi v a) (hS:S w) {a':Act} (ha:a.put N v=a')
    (h:dh P md ops Q S ds fuel l' a' w):dh P md ops Q S ds (fuel+1) l a w:=by
  subst ha;subst hN;simp only[takeB,Bool.and_eq_true,beq_iff_eq]at hc;obtain ⟨⟨⟨⟨⟨h1,h2⟩,h3⟩,h4⟩,h5⟩,h6⟩:=hc;subst h6;exact BF hi h1 h2 h3 h4 h5 hQ hy hS h
def sG(md:Region.Mode)(ops:Array Oper)(l l':Array Bool)(i:Nat):Bool :=
  Region.noSelect ops && Region.free md ops l i && (Region.ready md ops l).contains i && (l.setIfInBounds i true == l')
theorem l9{i:Nat}{N:Option Tmp}{oi:Oper}{v:Value}{fuel:Nat}{l:Array Bool}{a:Act}{w:World}(l':Array Bool)(hi:ops[i]?=some oi)(hN:oi.dst=N)(hc:sG md ops l l' i=true)
    (hQ:∀c a w,Q (.panic c) (a.put oi.dst v) w->Q (.panic c) a w) (hy:Yields P ops oi v a) {a':Act} (ha:a.put N v=a')
    (h:dh P md ops Q S ds fuel l' a' w):dh P md ops Q S ds (fuel+1) l a w:=by
  subst ha;subst hN;simp only[sG,Bool.and_eq_true,beq_iff_eq]at hc;obtain ⟨⟨⟨h1,h2⟩,h3⟩,h6⟩:=hc;subst h6;exact Hr hi (Region.noSelect_spec h1) hQ fuel l a w (Region.free_spec hi h2) (by simpa using h3) hy h
def oI(md:Region.Mode)(ops:Array Oper)(l l':Array Bool)(i:Nat):Bool:=(Region.ready md ops l == [i]) && (l.setIfInBounds i true == l')
theorem sP{i:Nat}{N:Option Tmp}{oi:Oper}{fuel:Nat}{l:Array Bool}{a:Act}{w:World}(l':Array Bool)(hi:ops[i]?=some oi)(hN:oi.dst=N)(hc:oI md ops l l' i=true)(hd:i ∉ ds)
    (h:∀K:Act->World->Prop,Shut (∀a' w',S w'->(S w'->dh P md ops Q S ds fuel l' a' w')->K a' w')->if Region.wanted oi (yielded ops a.tmps)=true then Oper.wp P oi a w K Q else K (a.put N undef) w) :
    dh P md ops Q S ds (fuel+1) l a w:=by
  subst hN;simp only[oI,Bool.and_eq_true,beq_iff_eq]at hc;obtain ⟨h1,h2⟩:=hc;subst h2;exact vR h1 (by simp) (jc.cons hi hd (λK hK=>h K hK) jc.nil)
theorem yO{i:Nat}{N:Option Tmp}{oi:Oper}{fuel:Nat}{l:Array Bool}{a:Act}{w:World}(l':Array Bool)(hi:ops[i]?=some oi)(hN:oi.dst=N)(hc:oI md ops l l' i=true)(hd:i∈ds)
    (h:∀K:Act->World->Prop,Shut (∀a' w',dh P md ops Q S ds fuel l' a' w'->K a' w')->if Region.wanted oi (yielded ops a.tmps)=true then Oper.wp P oi a w K Q else K (a.put N undef) w) :
    dh P md ops Q S ds (fuel+1) l a w:=by
  subst hN;simp only[oI,Bool.and_eq_true,beq_iff_eq]at hc;obtain ⟨h1,h2⟩:=hc;subst h2;exact vR h1 (by simp) (jc.cons_last hi hd (λK hK=>h K hK) jc.nil)
theorem iQ{l:Array Bool}{a:Act}{w:World}{n:Nat}(hr:(Region.ready md ops l == [])=true)(h:Q .normal a w):dh P md ops Q S ds n l a w:=Jg (by simpa using hr) h n
theorem uz{i j:Nat}{Ni Nj:Option Tmp}{oi oj:Oper}{fuel:Nat}{l:Array Bool}{a:Act}{w:World}(li lj:Array Bool)(hi:ops[i]?=some oi)(hj:ops[j]?=some oj)(hNi:oi.dst=Ni)(hNj:oj.dst=Nj)
    (hc:(Region.ready md ops l == [i,j] && l.setIfInBounds i true == li && l.setIfInBounds j true == lj)=true) (hdi:i ∉ ds) (hdj:j ∉ ds)
    (h1:∀K:Act->World->Prop,Shut (∀a' w',S w'->(S w'->dh P md ops Q S ds fuel li a' w')->K a' w')->if Region.wanted oi (yielded ops a.tmps)=true then Oper.wp P oi a w K Q else K (a.put Ni undef) w)
    (h2:∀K:Act->World->Prop,Shut (∀a' w',S w'->(S w'->dh P md ops Q S ds fuel lj a' w')->K a' w')->if Region.wanted oj (yielded ops a.tmps)=true then Oper.wp P oj a w K Q else K (a.put Nj undef) w) :
    dh P md ops Q S ds (fuel+1) l a w:=by
  subst hNi;subst hNj;simp only[Bool.and_eq_true,beq_iff_eq]at hc;obtain ⟨⟨h3,h4⟩,h5⟩:=hc;subst h4;subst h5;exact vR h3 (by simp) (jc.cons hi hdi (λK hK=>h1 K hK) (jc.cons hj hdj (λK hK=>h2 K hK) jc.nil))
def o6:Act->List (Tmp × Value)->Act
  | a,[]=>a
  | a,(n,v) :: r=>o6 (a.put (some n) v) r
theorem wo{σ:Type}{fuel:Nat}{l:Array Bool}{a:Act}{w:World}(fuel':Nat)(l':Array Bool)(ns:σ->List (Tmp × Value))(F:σ->World->Prop)
    (hcont:∀s w',F s w'->dh P md ops Q S ds fuel' l' (o6 a (ns s)) w')
    (h:(∀s w',F s w'->dh P md ops Q S ds fuel' l' (o6 a (ns s)) w')->dh P md ops Q S ds fuel l a w):dh P md ops Q S ds fuel l a w:=h hcont
theorem ll{fuel:Nat}{l:Array Bool}{a a':Act}{w:World}(ha:a=a')(h:dh P md ops Q S ds fuel l a' w):dh P md ops Q S ds fuel l a w:=by
  subst ha;exact h
theorem call_{oi:Oper}{N:Option Tmp}{a:Act}{w:World}{K:Act->World->Prop}(f:FuncId)(args:Array Value)(hw:Region.wanted oi (yielded ops a.tmps)=true)(hN:oi.dst=N)(hrun:(execOp a.eval oi).run P w=.ok (.enter f args) w)
    (h:Calls P f args w λe w'=>∃v,e=.returned v/\K (a.put N v) w'):if Region.wanted oi (yielded ops a.tmps)=true then Oper.wp P oi a w K Q else K (a.put N undef) w:=by
  rw[if_pos hw];subst hN;unfold Oper.wp;rw[hrun,Oper.upon_enter]
  refine h.mono λe w'' hh=>?_
  obtain ⟨v,rfl,hk⟩:=hh;exact hk
theorem xI {f:FuncId} {fn:Func} (hf:P.funcs[f]?=some fn) (hname:(fn.name == "runtime.NumGoroutine")=false) (hb:fn.body.isSome=true) (args:Array Value) (w:World):(callFunc f args).run P w=.ok (.enter f args) w:=by
  have h1:fn.name ≠ "runtime.NumGoroutine":=by simpa using hname
  obtain ⟨c,hc⟩:=Option.isSome_iff_exists.1 hb;simp[callFunc,hf,h1,hc]
theorem gq {oi:Oper} {N:Option Tmp} {a:Act} {w:World} {K:Act->World->Prop} {f:FuncId} {fn:Func} {as:Array Operand} {ts:Array TypeId} (hf:P.funcs[f]?=some fn) (hname:(fn.name == "runtime.NumGoroutine")=false) (hb:fn.body.isSome=true) (args:Array Value)
    (hw:Region.wanted oi (yielded ops a.tmps)=true) (hN:oi.dst=N) (hop:oi.op=.call { callee:=.value (.func f),args:=as,argTypes:=ts }) (hargs:as.map a.eval=args)
    (h:Calls P f args w λe w'=>∃v,e=.returned v/\K (a.put N v) w'):if Region.wanted oi (yielded ops a.tmps)=true then Oper.wp P oi a w K Q else K (a.put N undef) w:=by
  refine call_ f args hw hN ?_ h;have he:=xI hf hname hb args w;unfold execOp;simp[hop,resolve,Deferred.ofValue,invoke,Act.eval,hargs,he]
theorem oL {rest:List Oper} {oi:Oper} {a:Act} {w:World} (N:Option Tmp) (hd:oi.dst=N) (hg:oi.guard=none) {f:FuncId} {fn:Func} {as:Array Operand} {ts:Array TypeId} (hf:P.funcs[f]?=some fn) (hname:(fn.name == "runtime.NumGoroutine")=false) (hb:fn.body.isSome=true) (args:Array Value)
    (hop:oi.op=.call { callee:=.value (.func f),args:=as,argTypes:=ts }) (hargs:as.map a.eval=args)
    (h:Calls P f args w λe w'=>∃v,e=.returned v/\wpList P ops Q rest (a.put N v) w'):wpList P ops Q (oi :: rest) a w:=by
  refine wpList_plain hg λK hK=>?_
  have he:=xI hf hname hb args w
  have hrun:(execOp a.eval oi).run P w=.ok (.enter f args) w:=by
    unfold execOp;simp[hop,resolve,Deferred.ofValue,invoke,Act.eval,hargs,he]
  unfold Oper.wp;rw[hrun,Oper.upon_enter]
  refine h.mono λe w'' hh=>?_
  obtain ⟨v,rfl,hk⟩:=hh;subst hd;exact hK _ _ hk
theorem uw{oi:Oper}{N:Option Tmp}{a:Act}{w w1:World}{v:Value}{K:Act->World->Prop}(hw:Region.wanted oi (yielded ops a.tmps)=true)(hN:oi.dst=N)(hrun:(execOp a.eval oi).run P w=.ok (.value v) w1)
    (h:K (a.put N v) w1):if Region.wanted oi (yielded ops a.tmps)=true then Oper.wp P oi a w K Q else K (a.put N undef) w:=by
  rw[if_pos hw];subst hN;unfold Oper.wp;rw[hrun];exact h
theorem qi{oi:Oper}{a:Act}{w w1:World}{K:Act->World->Prop}(hw:Region.wanted oi (yielded ops a.tmps)=true)(hN:oi.dst=none)(hrun:(execOp a.eval oi).run P w=.ok .skip w1)
    (h:K a w1):if Region.wanted oi (yielded ops a.tmps)=true then Oper.wp P oi a w K Q else K (a.put none undef) w:=by
  rw[if_pos hw];unfold Oper.wp;rw[hrun];show K (a.put oi.dst undef) w1;rw[hN];exact h
theorem cO(n:Int):IntKind.i64.wrap n=Go.RowKit.wrap64 n:=by unfold Go.RowKit.wrap64;exact IntKind.wrap_i64 n
theorem eB(n:Int):IntKind.i32.wrap n=Go.RowKit.wrap32 n:=by unfold Go.RowKit.wrap32;exact IntKind.wrap_i32 n
end
end Go.Proofs.YtjdlhefjgceabaaGreatDoorW.PrintLast
namespace Go.Proofs.YtjdlhefjgceabaaGreatDoorW.PrintLast
open PrintWords (ae)
def oo(md:Region.Mode)(o:Oper):List Nat:=(o.after.toList.filter (λe=>Region.binds md e)).map (λe=>e.on)
def vE(md:Region.Mode)(ops:Array Oper)(i:Nat)(oi:Oper):List Nat:=(List.range ops.size).filter λj=>!(j == i) && match ops[j]? with
  | some oj=>!(oj.after.any (λe=>Region.binds md e && e.on == i) || oi.apart ops oj)
  | none=>false
def dQ(md:Region.Mode)(ops:Array Oper):Bool × List (List Nat × List Nat):=(Region.noSelect ops,(List.range ops.size).map λi=>match ops[i]? with
  | some o=>(oo md o,vE md ops i o)
  | none=>([],[]))
def ng(T:List (List Nat × List Nat))(l:List Bool)(i:Nat):Bool:=!l.getD i true && match T[i]? with
  | some r=>r.1.all (λj=>l.getD j false)
  | none=>false
def mZ(T:List (List Nat × List Nat))(l:List Bool):List Nat:=(List.range T.length).filter (ng T l)
def qx(T:List (List Nat × List Nat))(l:List Bool)(i:Nat):Bool:=match T[i]? with
  | some r=>r.2.all (λj=>l.getD j true)
  | none=>false
def sD(T:List (List Nat × List Nat))(l:List Bool):Bool:=(List.range T.length).all λj=>!l.getD j false || match T[j]? with
  | some r=>r.1.all (λk=>l.getD k false)
  | none=>true
def pO(T:List (List Nat × List Nat))(i:Nat):Nat->Nat->Bool
  | 0,_=>false
  | fuel+1,d=>match T[d]? with
    | some r=>r.1.any λj=>j == i || pO T i fuel j
    | none=>false
def lastT(T:List (List Nat × List Nat))(l:List Bool)(ds:List Nat)(i:Nat):Bool:=ds.all λd=>l.getD d true || pO T i T.length d
section
variable {md:Region.Mode} {ops:Array Oper} {T:Bool × List (List Nat × List Nat)} {l l' li lj lk:Array Bool} {ds:List Nat} {i j k:Nat}
theorem gd(l:Array Bool)(j:Nat)(b:Bool):l.getD j b=l.toList.getD j b:=by simp[Array.getD_eq_getD_getElem?,List.getD_eq_getElem?_getD]
theorem zn(o:Oper)(p:Nat->Bool):o.after.all (λe=>!Region.binds md e || p e.on)=(oo md o).all p:=by
  unfold oo;rw[<- Array.all_toList]
  induction o.after.toList with
  | nil=>rfl
  | cons e r ih =>
    rw[List.all_cons,ih,List.filter_cons]
    cases h:Region.binds md e <;> simp
theorem AP(o:Oper)(p:Nat->Bool):o.after.any (λe=>Region.binds md e && p e.on)=(oo md o).any p:=by
  unfold oo;rw[<- Array.any_toList]
  induction o.after.toList with
  | nil=>rfl
  | cons e r ih =>
    rw[List.any_cons,ih,List.filter_cons]
    cases h:Region.binds md e <;> simp
theorem rF:(dQ md ops).2.length=ops.size:=by simp[dQ]
theorem tq{o:Oper}(h:ops[i]?=some o):(dQ md ops).2[i]?=some (oo md o,vE md ops i o):=by
  have hi:=(Array.getElem?_eq_some_iff.1 h).1;unfold dQ;rw[List.getElem?_map,List.getElem?_range hi,Option.map_some,h]
theorem rA(h:ops[i]?=none):(dQ md ops).2[i]?=none:=by
  have hi:ops.size<=i:=Array.getElem?_eq_none_iff.1 h;exact List.getElem?_eq_none (by rw[rF];exact hi)
theorem E_:ng (dQ md ops).2 l.toList i=(!l.getD i true && ((ops[i]?).map (·.after.all λe=>!Region.binds md e || l.getD e.on false)).getD false):=by
  unfold ng;rw[gd]
  cases h:ops[i]? with
  | none=>rw[rA h];rfl
  | some o =>
    rw[tq h];simp only[Option.map_some,Option.getD_some];rw[<- zn];simp only[gd]
theorem ready_eq:Region.ready md ops l=mZ (dQ md ops).2 l.toList:=by
  unfold Region.ready mZ;rw[rF];refine List.filter_congr (λi _=>?_);rw[E_]
theorem free_eq:Region.free md ops l i=qx (dQ md ops).2 l.toList i:=by
  unfold Region.free qx
  cases h:ops[i]? with
  | none=>rw[rA h]
  | some oi =>
    rw[tq h];simp only[vE];rw[List.all_filter]
    congr 1
    funext j
    rw[gd]
    cases hj:ops[j]? with
    | none=>cases (j == i) <;> cases (l.toList.getD j true) <;> simp
    | some oj =>
      cases (j == i) <;> cases (l.toList.getD j true) <;> cases (oj.after.any (λe=>Region.binds md e && e.on == i) || oi.apart ops oj) <;> simp_all
theorem FE:Region.closedB md ops l=sD (dQ md ops).2 l.toList:=by
  unfold Region.closedB sD;rw[rF]
  congr 1
  funext j
  rw[gd]
  cases h:ops[j]? with
  | none=>rw[rA h]
  | some o =>
    rw[tq h];simp only;rw[<- zn];simp only[gd]
theorem xS:∀ (fuel d:Nat),Region.reachB md ops i fuel d=pO (dQ md ops).2 i fuel d
  | 0,_=>rfl
  | fuel+1,d=>by
    unfold Region.reachB pO
    cases h:ops[d]? with
    | none=>rw[rA h]
    | some o =>
      rw[tq h];simp only;rw[<- AP]
      congr 1
      funext e
      rw[xS fuel]
theorem AC:Region.lastB md ops l ds i=lastT (dQ md ops).2 l.toList ds i:=by
  unfold Region.lastB lastT;rw[rF]
  congr 1
  funext d
  rw[gd,xS]
theorem yE(h:ng T.2 l.toList i=true)(hT:dQ md ops=T):(Region.ready md ops l).contains i=true:=by
  subst hT;rw[ready_eq];unfold mZ;rw[List.contains_iff_mem,List.mem_filter,List.mem_range];refine ⟨?_,h⟩;unfold ng at h;rw[Bool.and_eq_true]at h
  cases hq:(dQ md ops).2[i]? with
  | none=>rw[hq]at h;simp at h
  | some r=>exact (List.getElem?_eq_some_iff.1 hq).1
theorem qg(h:(l.toList.set i true == l'.toList)=true):(l.setIfInBounds i true == l')=true:=by
  rw[beq_iff_eq]at h ⊢;apply Array.ext';rw[Array.toList_setIfInBounds];exact h
def sZ(T:Bool × List (List Nat × List Nat))(l l':List Bool)(i:Nat):Bool:=T.1 && qx T.2 l i && ng T.2 l i && (l.set i true == l')
theorem xW(hT:dQ md ops=T)(h:sZ T l.toList l'.toList i=true):sG md ops l l' i=true:=by
  simp only[sZ,Bool.and_eq_true]at h;obtain ⟨⟨⟨h1,h2⟩,h3⟩,h4⟩:=h;have h5:=yE h3 hT;have h6:=qg h4;subst hT;simp only[sG,Bool.and_eq_true];exact ⟨⟨⟨h1,by rw[free_eq];exact h2⟩,h5⟩,h6⟩
def uE(T:Bool × List (List Nat × List Nat))(ds:List Nat)(l l':List Bool)(i:Nat):Bool:=T.1 && qx T.2 l i && ng T.2 l i && sD T.2 l && lastT T.2 l ds i && (l.set i true == l')
theorem Ck(hT:dQ md ops=T)(h:uE T ds l.toList l'.toList i=true):takeB md ops ds l l' i=true:=by
  simp only[uE,Bool.and_eq_true]at h;obtain ⟨⟨⟨⟨⟨h1,h2⟩,h3⟩,h4⟩,h5⟩,h6⟩:=h;have h7:=yE h3 hT;have h8:=qg h6;subst hT;simp only[takeB,Bool.and_eq_true];exact ⟨⟨⟨⟨⟨h1,by rw[free_eq];exact h2⟩,h7⟩,by rw[FE];exact h4⟩,by rw[AC];exact h5⟩,h8⟩
theorem zi(hT:dQ md ops=T)(h:(mZ T.2 l.toList == [i] && l.toList.set i true == l'.toList)=true):oI md ops l l' i=true:=by
  simp only[Bool.and_eq_true]at h;obtain ⟨h1,h2⟩:=h;subst hT;simp only[oI,Bool.and_eq_true];exact ⟨by rw[ready_eq];exact h1,qg h2⟩
theorem ul(hT:dQ md ops=T)(h:(mZ T.2 l.toList == [i,j] && l.toList.set i true == li.toList && l.toList.set j true == lj.toList)=true):(Region.ready md ops l == [i,j] && l.setIfInBounds i true == li && l.setIfInBounds j true == lj)=true:=by
  simp only[Bool.and_eq_true]at h ⊢;obtain ⟨⟨h1,h2⟩,h3⟩:=h;subst hT;exact ⟨⟨by rw[ready_eq];exact h1,qg h2⟩,qg h3⟩
theorem jm(hT:dQ md ops=T)(h:(mZ T.2 l.toList == [])=true):(Region.ready md ops l == [])=true:=by
  subst hT;rw[ready_eq];exact h
def nX(B:List Nat)(d:Nat):List Nat->Nat
  | []=>0
  | n :: r=>(2 ^ n ||| (if n<d then B.getD n 0 else 0)) ||| nX B d r
def jv(T:List (List Nat × List Nat))(B:List Nat):Bool:=(List.range T.length).all λd=>match T[d]? with
  | some r=>(B.getD d 0 ||| nX B d r.1) == nX B d r.1
  | none=>false
theorem xQ{B:List Nat}{d i:Nat}:∀ {ns:List Nat},(nX B d ns).testBit i=true->∃n∈ns,n=i\/(n<d/\(B.getD n 0).testBit i=true)
  | [],h=>by simp[nX]at h
  | n :: r,h=>by
    unfold nX at h;rw[Nat.testBit_or,Nat.testBit_or,Bool.or_eq_true,Bool.or_eq_true]at h
    rcases h with (h|h)|h
    · rw[Nat.testBit_two_pow]at h
      exact ⟨n,List.mem_cons_self,.inl (by simpa using h)⟩
    · by_cases hn:n<d
      · rw[if_pos hn]at h
        exact ⟨n,List.mem_cons_self,.inr ⟨hn,h⟩⟩
      · rw[if_neg hn]at h
        simp at h
    · obtain ⟨m,hm,h2⟩:=xQ h
      exact ⟨m,List.mem_cons_of_mem _ hm,h2⟩
theorem yj{T:List (List Nat × List Nat)}{B:List Nat}(hB:jv T B=true):∀ (fuel d:Nat),d<fuel->d<T.length->(B.getD d 0).testBit i=true->pO T i fuel d=true
  | 0,d,h,_,_=>by omega
  | fuel+1,d,h,hd,hb=>by
    have h1:=List.all_eq_true.1 hB d (List.mem_range.2 hd)
    cases hr:T[d]? with
    | none=>rw[hr]at h1;simp at h1
    | some r =>
      rw[hr]at h1;simp only[beq_iff_eq]at h1
      have h2:(nX B d r.1).testBit i=true:=by rw[<- h1,Nat.testBit_or,hb,Bool.true_or]
      obtain ⟨n,hn,h3⟩:=xQ h2;unfold pO;rw[hr];simp only;rw[List.any_eq_true];refine ⟨n,hn,?_⟩
      rcases h3 with rfl|⟨h4,h5⟩
      · simp
      · rw[yj hB fuel n (by omega) (by omega) h5,Bool.or_true]
def Ag(T:List (List Nat × List Nat))(B:List Nat)(l:List Bool)(ds:List Nat)(i:Nat):Bool:=ds.all λd=>l.getD d true || (decide (d<T.length) && (B.getD d 0).testBit i)
def uX(T:Bool × List (List Nat × List Nat))(B:List Nat)(ds:List Nat)(l l':List Bool)(i:Nat):Bool:=T.1 && qx T.2 l i && ng T.2 l i && sD T.2 l && Ag T.2 B l ds i && (l.set i true == l')
theorem Gf{B:List Nat}(hT:dQ md ops=T)(hB:jv T.2 B=true)(h:uX T B ds l.toList l'.toList i=true):takeB md ops ds l l' i=true:=by
  refine Ck hT ?_
  simp only[uX,uE,Bool.and_eq_true]at h ⊢;obtain ⟨⟨⟨⟨⟨h1,h2⟩,h3⟩,h4⟩,h5⟩,h6⟩:=h;refine ⟨⟨⟨⟨⟨h1,h2⟩,h3⟩,h4⟩,?_⟩,h6⟩;unfold Ag at h5;unfold lastT;rw[List.all_eq_true]at h5 ⊢;intro d hd;have h7:=h5 d hd;rw[Bool.or_eq_true,Bool.and_eq_true,decide_eq_true_eq]at h7
  rcases h7 with h7|⟨h8,h9⟩
  · rw[h7,Bool.true_or]
  · rw[yj hB _ d h8 h8 h9,Bool.or_true]
theorem j5{P:Program}{Q:Exit->Act->World->Prop}{S:World->Prop}{n:Nat}{a:Act}{w:World}{B:List Nat}(hT:dQ md ops=T)(hB:jv T.2 B=true)(h:ae (dQ md ops=T)->ae (jv T.2 B=true)->dh P md ops Q S ds n l a w):dh P md ops Q S ds n l a w:=h ⟨hT⟩ ⟨hB⟩
end
def lD:Code->Nat->Option (Array Oper)
  | .region id ops _,k=>if id == k then some ops else none
  | .seq a b,k=>match lD a k with
    | some o=>some o
    | none=>lD b k
  | .cond _ a b,k=>match lD a k with
    | some o=>some o
    | none=>lD b k
  | .block _ c,k=>lD c k
  | .loop c,k=>lD c k
  | .scope c,k=>lD c k
  | .rangeFunc _ _ a b,k=>match lD a k with
    | some o=>some o
    | none=>lD b k
  | _,_=>none
def opsOf(f:Func)(k:Nat):Array Oper:=((f.body.bind λc=>lD c k)).getD #[]
end Go.Proofs.YtjdlhefjgceabaaGreatDoorW.PrintLast
namespace Go.Proofs.YtjdlhefjgceabaaGreatDoorW.PrintWords
open Go.RowKit
namespace Kd
def tag{α:Type}(f:Nat->Nat)(d:Kd α):Kd (α × Nat) where
  sz:=d.sz
  E:=d.E
  K:=λw x cs=>d.K w x.1 cs
  M:=λw base ok x cs=>d.M w base (λk=>ok k/\f k=x.2) x.1 cs
  K_len:=λh=>d.K_len h
  K_one:=λh=>d.K_one h
  K_below:=λhb h=>d.K_below hb h
  K_of_M:=λh=>d.K_of_M h
  M_mono:=λhok h=>d.M_mono (λk hk=>⟨hok k hk.1,hk.2⟩) h
  M_bound:=λh=>d.M_mono (λ_ hk=>⟨⟨hk.1.1,hk.2⟩,hk.1.2⟩) (d.M_bound h)
  M_move:=λhm h=>d.M_move (λk hk=>hm k hk.1) h
  M_lower:=λhb h=>d.M_lower hb h
def bare{α:Type}(d:Kd α):Kd α where
  sz:=d.sz
  E:=d.E
  K:=d.K
  M:=λw base _ x cs=>d.M w base (λ_=>False) x cs
  K_len:=λh=>d.K_len h
  K_one:=λh=>d.K_one h
  K_below:=λhb h=>d.K_below hb h
  K_of_M:=λh=>d.K_of_M h
  M_mono:=λ_ h=>h
  M_bound:=λh=>h
  M_move:=λ_ h=>d.M_move (λ_ hk=>hk.elim) h
  M_lower:=λhb h=>d.M_lower hb h
def raw(sz:Nat):Kd (List Value) where
  sz:=sz
  E:=[]
  K:=λ_ x cs=>cs=x/\cs.length=sz/\∀u∈cs,u.oneCell'=true
  M:=λ_ _ _ x cs=>cs=x/\cs.length=sz/\∀u∈cs,u.oneCell'=true
  K_len:=λh=>h.2.1
  K_one:=λh=>h.2.2
  K_below:=λ_ h=>h
  K_of_M:=λh=>h
  M_mono:=λ_ h=>h
  M_bound:=λh=>h
  M_move:=λ_ h=>h
  M_lower:=λ_ h=>h
def S{α:Type}(d:Kd α)(e:Nat)(w:World)(base:Nat)(ok:Nat->Prop)(v:Value)(xs:List α):Prop:=∃f,(tag f d).R e w base ok v xs.zipIdx
section
variable {α β:Type} {d:Kd α} {d':Kd β} {e e':Nat} {w w1 W:World} {base b:Nat} {ok ok' okv oku:Nat->Prop} {u v:Value} {xs:List α} {ys:List β}
theorem EQ{xs:List α}{j:Nat}{p:α}(h:xs[j]?=some p):xs.zipIdx[j]?=some (p,j):=by rw[List.getElem?_zipIdx,h,Nat.zero_add];rfl
theorem GQ(h:S d e w base ok v xs):d.R e w base ok v xs:=by
  obtain ⟨f,h0,inner,ho,hr⟩:=h;rw[List.length_zipIdx]at ho;exact ⟨h0,inner,ho,by have:=hr.1;rw[List.length_zipIdx]at this;exact this,λj p hj=>d.M_mono (λ_ hk=>hk.1) (hr.2 j (p,j) (EQ hj))⟩
theorem Bg{ad:Addr}{n cap:Nat}(h:d.R e w base ok (.slice (some ad) n cap) xs):∃g,ad=⟨g,0,none⟩:=by
  obtain ⟨_,inner,ho,hr⟩:=h
  rcases ho.2 with ⟨hv,_⟩|⟨g,cap',cur,hv,_⟩
  · cases hv
  · injection hv with ha _ _
    injection ha with ha
    exact ⟨g,ha⟩
theorem R_tight(hE:d.E=[])(h:d.R e w base ok v xs):d.R e w base (λk=>some k=v.ownBlock) v xs:=by
  obtain ⟨h0,inner,ho,hr⟩:=h;refine ⟨λk hk=>hk.symm,inner,ho,hr.imp_ (λp c hp=>d.M_mono (λk hk=>?_) (d.M_bound hp))⟩;obtain ⟨_,_,_,q,hq,_⟩:=hk;rw[hE]at hq;cases hq
theorem S_nil(d:Kd α)(e:Nat)(w:World)(base:Nat)(ok:Nat->Prop):S d e w base ok (.slice none 0 0) []:=⟨λ_=>0,R_nil _ _ _ _ _⟩
theorem S_base(h:S d e w base ok v xs):∀k,v.ownBlock=some k->base<=k:=R_base (GQ h)
end
section
variable {α β:Type} {d:Kd α} {d':Kd β} {e e' g:Nat} {w w1 W:World} {base b:Nat} {ok ok' okv oku:Nat->Prop} {u v:Value} {xs:List α} {ys:List β}
end
section
variable {P:Program} {ops:Array Oper} {rest:List Oper} {o:Oper} {a:Act} {Q:Exit->Act->World->Prop} {Kc:Act->World->Prop} {α:Type}
end
def gap{α:Type}(f:Nat->Nat)(d:Kd α)(i:Nat)(c:List Value):Kd (α × Nat) where
  sz:=d.sz
  E:=d.E
  K:=λw x cs=>(x.2=i->cs=c/\cs.length=d.sz/\∀u∈cs,u.oneCell'=true)/\(x.2≠i->d.K w x.1 cs)
  M:=λw base ok x cs=>(x.2=i->cs=c/\cs.length=d.sz/\∀u∈cs,u.oneCell'=true)/\(x.2≠i->d.M w base (λk=>ok k/\f k=x.2) x.1 cs)
  K_len:=λ{w x cs} h=>by
    by_cases hx:x.2=i
    · exact (h.1 hx).2.1
    · exact d.K_len (h.2 hx)
  K_one:=λ{w x cs} h=>by
    by_cases hx:x.2=i
    · exact (h.1 hx).2.2
    · exact d.K_one (h.2 hx)
  K_below:=λhb h=>⟨h.1,λhx=>d.K_below hb (h.2 hx)⟩
  K_of_M:=λh=>⟨h.1,λhx=>d.K_of_M (h.2 hx)⟩
  M_mono:=λhok h=>⟨h.1,λhx=>d.M_mono (λk hk=>⟨hok k hk.1,hk.2⟩) (h.2 hx)⟩
  M_bound:=λh=>⟨h.1,λhx=>d.M_mono (λ_ hk=>⟨⟨hk.1.1,hk.2⟩,hk.1.2⟩) (d.M_bound (h.2 hx))⟩
  M_move:=λhm h=>⟨h.1,λhx=>d.M_move (λk hk=>hm k hk.1) (h.2 hx)⟩
  M_lower:=λhb h=>⟨h.1,λhx=>d.M_lower hb (h.2 hx)⟩
def H{α:Type}(d:Kd α)(e:Nat)(w:World)(base:Nat)(ok:Nat->Prop)(v:Value)(xs:List α)(i:Int)(oki:Nat->Prop)(c:List Value):Prop :=
  (∀k,oki k->ok k)/\∃f,(gap f d i.toNat c).R e w base (λk=>ok k/\¬ oki k) v xs.zipIdx
section
variable {α β:Type} {d:Kd α} {e e' g n cap:Nat} {w w1 W:World} {base:Nat} {ok ok' oki okp:Nat->Prop} {u v:Value} {xs:List α} {i:Int} {c:List Value}
end
section
variable {P:Program} {ops:Array Oper} {rest:List Oper} {o:Oper} {a:Act} {Q:Exit->Act->World->Prop} {α:Type}
end
end Kd
end Go.Proofs.YtjdlhefjgceabaaGreatDoorW.PrintWords
namespace Go.Proofs.YtjdlhefjgceabaaGreatDoorW.PrintWords
open Go.RowKit
def Kept(w W:World)(S:Nat->Prop):Prop:=w.heap.size<=W.heap.size/\∀i,i<w.heap.size->¬ S i->W.heap[i]?=w.heap[i]?
section
variable {w W W2:World} {S S2 S':Nat->Prop}
theorem Kept.refl(w:World)(S:Nat->Prop):Kept w w S:=⟨Nat.le_refl _,λ_ _ _=>rfl⟩
theorem Kept.of_below(h:Below w.heap.size w W)(S:Nat->Prop):Kept w W S:=⟨h.size,λi hi _=>h.block i hi⟩
theorem Kept.then_(h:Kept w W S)(k:Kept W W2 S2)(hs:∀k,S2 k->S k\/w.heap.size<=k):Kept w W2 S :=
  ⟨Nat.le_trans h.1 k.1,λi hi hn=>(k.2 i (Nat.lt_of_lt_of_le hi h.1) (λh2=>(hs i h2).elim hn (λh3=>by omega))).trans (h.2 i hi hn)⟩
theorem Kept.of_grown{row:Option Nat}(hg:W.grownBy W2 row)(h:Kept w W S)(hr:∀k,row=some k->S k\/w.heap.size<=k):Kept w W2 S :=
  h.then_ (S2:=λk=>row=some k) ⟨hg.size,λi hi hn=>hg.block i hi (λhe=>hn he.symm)⟩ hr
theorem Kept.below(h:Kept w W S)(hb:Below W.heap.size W W2):Kept w W2 S:=h.then_ (Kept.of_below hb (λ_=>False)) (λ_ hk=>hk.elim)
theorem Kept.alloc(h:Kept w W S)(o:Obj):Kept w (W.alloc o) S:=h.below (aG (Below.refl _ _) o)
theorem Kept.drew(h:Kept w W S):Kept w W.drew S:=h
theorem Kept.drewN(h:Kept w W S)(m:Nat):Kept w (W.drewN m) S:=h
theorem Kept.setCell(h:Kept w W S){p:Addr}(hp:S p.block\/w.heap.size<=p.block)(u:Value):Kept w (W.setCell p u) S :=
  h.then_ (S2:=λk=>k=p.block) ⟨by simp[World.setCell],λi _ hn=>Below.heap_setCell W p u i hn⟩ (λk hk=>by rw[hk];exact hp)
theorem oK{g:Nat}{o:Obj}(hb:W.heap[g]?=some o)(hk:Kept W W2 S)(hne:¬ S g):W2.heap[g]?=some o:=(hk.2 g (dC hb) hne).trans hb
end
namespace Kd
section
variable {α:Type} {d:Kd α} {e base n c:Nat} {ok oki S S2:Nat->Prop} {w w0 W W1 W2:World} {v:Value} {A:Option Addr} {xs:List α} {i:Int} {cs:List Value}
theorem oC(h:d.R e W base ok v xs)(hk:Kept W W2 S)(hne:∀k,ok k->¬ S k):d.R e W2 base ok v xs:=nQ h (λk ho hlt=>hk.2 k hlt (hne k ho))
end
end Kd
end Go.Proofs.YtjdlhefjgceabaaGreatDoorW.PrintWords
namespace Go.Proofs.YtjdlhefjgceabaaGreatDoorW.PrintWords
open Go.RowKit
def Foot(P:World->Prop)(W:World)(ok:Nat->Prop):Prop:=∀W':World,(∀k,ok k->k<W.heap.size->W'.heap[k]?=W.heap[k]?)->P W'
theorem Gm{W W1:World}{k:Nat}(h:W1.heap[k]?=W.heap[k]?)(hlt:k<W.heap.size):k<W1.heap.size:=by
  rw[Array.getElem?_eq_getElem hlt]at h;exact (Array.getElem?_eq_some_iff.1 h).1
namespace Foot
variable {P Q:World->Prop} {W W1:World} {ok ok':Nat->Prop}
theorem now(h:Foot P W ok):P W:=h W (λ_ _ _=>rfl)
theorem mono(h:Foot P W ok)(hok:∀k,ok k->ok' k):Foot P W ok':=λW' hW=>h W' (λk hk hlt=>hW k (hok k hk) hlt)
theorem bound(h:Foot P W ok):Foot P W (λk=>ok k/\k<W.heap.size):=λW' hW=>h W' (λk hk hlt=>hW k ⟨hk,hlt⟩ hlt)
theorem step(h:Foot P W ok)(hm:∀k,ok k->k<W.heap.size->W1.heap[k]?=W.heap[k]?):Foot P W1 ok:=λW' hW=>h W' (λk hk hlt=>(hW k hk (Gm (hm k hk hlt) hlt)).trans (hm k hk hlt))
theorem imp(h:Foot P W ok)(hi:∀W',P W'->Q W'):Foot Q W ok:=λW' hW=>hi W' (h W' hW)
theorem old(h:Foot P W ok)(hb:Below W.heap.size W W1):Foot P W1 (λk=>ok k/\k<W.heap.size):=(h.bound).step (λk _ hlt=>hb.block k hlt)
end Foot
namespace Kd
def F{α:Type}(d:Kd α)(W:World)(ok:Nat->Prop)(A:Option Addr)(n:Nat)(xs:List α):Prop:=Foot (λW=>d.C W A n xs) W ok
def FK{α:Type}(d:Kd α)(W:World)(ok:Nat->Prop)(x:α)(c:List Value):Prop:=Foot (λW=>d.K W x c) W ok
section
variable {α β:Type} {d:Kd α} {e base n n' cc g N:Nat} {ok ok' okp S:Nat->Prop} {w w0 w1 W W1:World} {A A':Option Addr} {u v v1:Value} {xs:List α} {xs':List β} {d':Kd β} {x:α} {c:List Value}
theorem yN(h:F d W ok A n xs):d.C W A n xs:=Foot.now h
theorem Cm(h:F d W ok A n xs)(hok:∀k,ok k->ok' k):F d W ok' A n xs:=Foot.mono h hok
theorem EX(h:F d W ok A n xs)(hm:∀k,ok k->k<W.heap.size->W1.heap[k]?=W.heap[k]?):F d W1 ok A n xs:=Foot.step h hm
theorem vB(h:F d W ok A n xs)(hb:Below W.heap.size W W1):F d W1 ok A n xs:=EX h (λk _ hlt=>hb.block k hlt)
theorem Bp(h:F d W ok A n xs)(o:Obj):F d (W.alloc o) ok A n xs:=vB h (aG (Below.refl _ _) o)
theorem CE(h:F d W ok A n xs):F d W.drew ok A n xs:=vB h (ql (Below.refl _ _))
theorem Bw(h:F d W ok A n xs)(m:Nat):F d (W.drewN m) ok A n xs:=vB h (dD (Below.refl _ _) m)
theorem Ei(d:Kd α)(W:World)(ok:Nat->Prop):F d W ok none ([]:List α).length []:=λW' _=>C_nil d W'
theorem BV(h:F d W ok A n xs)(hbase:∀k,v.ownBlock=some k->W.heap.size<=k)(hb:Below W.heap.size W W1):F d W1 (λk=>ok k/\some k≠v.ownBlock) A n xs :=
  Cm (Foot.old h hb) (λk hk=>⟨hk.1,λhe=>by have:=hbase k he.symm;have:=hk.2;omega⟩)
theorem R_F(h:d.R e W base ok (.slice A n cc) xs):F d W ok A n xs:=λW' hW=>by
  have h2:=R_reads' (nQ h hW);rw[h2.1];exact h2.2.2
theorem oD(h:FK d W ok x c):d.K W x c:=Foot.now h
theorem pM(h:FK d W ok x c)(hok:∀k,ok k->ok' k):FK d W ok' x c:=Foot.mono h hok
theorem vJ(h:FK d W ok x c):FK d W (λk=>ok k/\k<W.heap.size) x c:=Foot.bound h
theorem vC(h:FK d W ok x c)(hm:∀k,ok k->k<W.heap.size->W1.heap[k]?=W.heap[k]?):FK d W1 ok x c:=Foot.step h hm
theorem Gl(h:d.M W base ok x c):FK d W ok x c:=λ_ hW=>d.K_of_M (yf h hW)
theorem FI(W:World)(g:Nat):∃W':World,(∀k,k≠g->W'.heap[k]?=W.heap[k]?)/\∀a:Addr,a.block=g->W'.cell? a=none:=by
  refine ⟨{ W with heap:=W.heap.setIfInBounds g (.cells #[] 0) },λk hk=>by simp[Ne.symm hk],λa ha=>?_⟩;subst ha
  by_cases hlt:a.block<W.heap.size
  · simp[World.cell?,hlt]
  · simp[World.cell?,hlt]
end
end Kd
end Go.Proofs.YtjdlhefjgceabaaGreatDoorW.PrintWords
namespace Go.Proofs.YtjdlhefjgceabaaGreatDoorW.PrintWords
open Go.RowKit
namespace Kd
def chunks(sz:Nat)(n:Nat)(inner:List Value):List (List Value):=(List.range n).map λj=>(inner.drop (j * sz)).take sz
theorem lq(sz n:Nat)(inner:List Value):(chunks sz n inner).length=n:=by simp[chunks]
theorem Jb{sz n:Nat}{inner:List Value}{j:Nat}(hj:j<n):(chunks sz n inner)[j]?=some ((inner.drop (j * sz)).take sz):=by simp[chunks,hj]
theorem qU{sz n:Nat}{inner:List Value}{j:Nat}{c:List Value}(h:(chunks sz n inner)[j]?=some c):c=(inner.drop (j * sz)).take sz:=by
  have hj:j<n:=by have:=(List.getElem?_eq_some_iff.1 h).1;rwa [lq]at this
  rw[Jb hj]at h
  injection h with h
  exact h.symm
theorem wY{α:Type}{Rr:α->List Value->Prop}{sz:Nat}{xs:List α}{inner:List Value}(h:bG Rr sz xs inner)(hR:∀x c,Rr x c->c.length=sz/\∀u∈c,u.oneCell'=true):bG (λx cs=>cs=x/\cs.length=sz/\∀u∈cs,u.oneCell'=true) sz (chunks sz xs.length inner) inner:=by
  refine ⟨by rw[lq];exact h.1,λj p hj=>?_⟩
  have hjl:j<xs.length:=by have:=(List.getElem?_eq_some_iff.1 hj).1;rwa [lq]at this
  have hp:=qU hj;exact ⟨hp.symm,hR _ _ (h.2 j _ (List.getElem?_eq_getElem hjl))⟩
section
variable {α:Type} {d:Kd α} {e base n cc g:Nat} {ok ok' okp S:Nat->Prop} {w w1 W W1:World} {A:Option Addr} {u v v1:Value} {xs:List α} {x:α} {c:List Value}
theorem EZ(h:F d W ok A n xs)(z:α)(i:Int)(h0:0<=i)(h1:i<n) :
    ∃ad c,A=some ad/\c.length=d.sz/\FK d W ok (xs.getD i.toNat z) c/\(∀j u,c[j]?=some u->W.cell? (ad.add (i.toNat * d.sz+j))=some u)/\(0<d.sz->ok ad.block):=by
  obtain ⟨ad,c,rfl,hcl,hK,hcc⟩:=C_get (yN h) z i h0 h1
  have hin:0<d.sz->ok ad.block:=by
    intro hs
    by_cases hk:ok ad.block
    · exact hk
    · obtain ⟨W',h2,h3⟩:=FI W ad.block
      obtain ⟨ad',c',he,hcl',_,hcc'⟩:=C_get (h W' (λk hk' _=>h2 k (λe=>hk (e▸hk')))) z i h0 h1
      injection he with he
      subst he;have h4:=hcc' 0 _ (List.getElem?_eq_getElem (by omega));rw[h3 _ (add_block _ _)]at h4;cases h4
  refine ⟨ad,c,rfl,hcl,λW' hW=>?_,hcc,hin⟩;obtain ⟨ad',c',he,hcl',hK',hcc'⟩:=C_get (h W' hW) z i h0 h1
  injection he with he
  subst he
  have hc:c=c':=by
    apply List.ext_getElem?;intro j
    by_cases hj:j<d.sz
    · have hb:W'.heap[ad.block]?=W.heap[ad.block]?:=by
        have h5:=hcc j _ (List.getElem?_eq_getElem (by omega));have h6:=World.block_lt_of_cell? W _ h5;rw[add_block]at h6;exact hW _ (hin (by omega)) h6
      have h5:=hcc j _ (List.getElem?_eq_getElem (by omega));have h6:=hcc' j _ (List.getElem?_eq_getElem (by omega))
      have h7:W'.cell? (ad.add (i.toNat * d.sz+j))=W.cell? (ad.add (i.toNat * d.sz+j)):=by simp[World.cell?,add_block,hb]
      rw[h7,h5]at h6;rw[List.getElem?_eq_getElem (by omega),List.getElem?_eq_getElem (by omega)];exact h6
    · rw[List.getElem?_eq_none (by omega),List.getElem?_eq_none (by omega)]
  rw[hc];exact hK'
theorem Im(h:F d W ok A n xs):iJ (λx c=>FK d W ok x c) d.sz W A n xs:=by
  obtain ⟨hl,hm,hn⟩:=yN h;refine ⟨hl,hm,λhp=>?_⟩;obtain ⟨ad,rfl,_⟩:=hn hp;refine ⟨ad,rfl,λj p hj=>?_⟩;obtain ⟨hjl,hjp⟩:=List.getElem?_eq_some_iff.1 hj;obtain ⟨ad',c,he,hcl,hK,hcc,_⟩:=EZ h p (j:Int) (by omega) (by omega)
  injection he with he
  subst he;simp only[Int.toNat_natCast]at hK hcc;rw[List.getD_eq_getElem?_getD,hj]at hK;exact ⟨c,hcl,hK,hcc⟩
def N{α:Type}(d:Kd α)(e:Nat)(w:World)(base:Nat)(ok:Nat->Prop)(v:Value)(xs:List α):Prop :=
  (∀k,v.ownBlock=some k->ok k)/\∃rows:List (List Value),rows.length=xs.length/\(raw d.sz).R e w base (λk=>some k=v.ownBlock) v rows/\∀ (j:Nat) (x:α) (c:List Value),xs[j]?=some x->rows[j]?=some c->FK d w (λk=>ok k/\some k≠v.ownBlock) x c
theorem zM{sz:Nat}{rows:List (List Value)}(h:(raw sz).R e w base ok v rows):(raw sz).R e w base (λk=>some k=v.ownBlock) v rows:=R_tight rfl h
theorem Ib{sz:Nat}{rows:List (List Value)}(h:(raw sz).R e w base ok v rows):(raw sz).R e w base (λ_=>True) v rows:=R_mono h (λ_ _=>trivial)
theorem IA(h:d.R e w base ok v xs):N d e w base ok v xs:=by
  obtain ⟨h0,inner,ho,hr⟩:=h;refine ⟨h0,chunks d.sz xs.length inner,lq _ _ _,⟨λk hk=>hk.symm,inner,by rw[lq];exact ho,wY hr (λx c hp=>⟨d.K_len (d.K_of_M hp),d.K_one (d.K_of_M hp)⟩)⟩,λj x c hx hc=>?_⟩;rw[qU hc];exact Gl (hr.2 j x hx)
theorem N_nil(d:Kd α)(e:Nat)(w:World)(base:Nat)(ok:Nat->Prop):N d e w base ok (.slice none 0 0) []:=IA (R_nil _ _ _ _ _)
theorem N_mono(h:N d e w base ok v xs)(hok:∀k,ok k->ok' k):N d e w base ok' v xs:=by
  obtain ⟨h0,rows,hl,hR,hf⟩:=h;exact ⟨λk hk=>hok k (h0 k hk),rows,hl,hR,λj x c hx hc=>pM (hf j x c hx hc) (λk hk=>⟨hok k hk.1,hk.2⟩)⟩
theorem N_lt(h:N d e w base ok v xs):∀k,v.ownBlock=some k->k<w.heap.size:=by
  obtain ⟨_,rows,_,hR,_⟩:=h;exact R_lt hR
theorem N_base(h:N d e w base ok v xs):∀k,v.ownBlock=some k->base<=k:=by
  obtain ⟨_,rows,_,hR,_⟩:=h;exact R_base hR
theorem N_typed(h:N d e w base ok v xs):∀k,v.ownBlock=some k->∃cells,w.heap[k]?=some (.cells cells e (0,0)):=by
  obtain ⟨_,rows,_,hR,_⟩:=h;exact R_typed hR
theorem yT(h:N d e w base ok v xs):N d e w base (λk=>ok k/\k<w.heap.size) v xs:=by
  have hlt:=N_lt h;obtain ⟨h0,rows,hl,hR,hf⟩:=h;exact ⟨λk hk=>⟨h0 k hk,hlt k hk⟩,rows,hl,hR,λj x c hx hc=>pM (vJ (hf j x c hx hc)) (λk hk=>⟨⟨hk.1.1,hk.2⟩,hk.1.2⟩)⟩
theorem N_lower{base':Nat}(h:N d e w base ok v xs)(hb:base'<=base):N d e w base' ok v xs:=by
  obtain ⟨h0,rows,hl,hR,hf⟩:=h;exact ⟨h0,rows,hl,R_lower hR hb,hf⟩
theorem vQ(h:N d e w base ok v xs)(hm:∀k,ok k->k<w.heap.size->w1.heap[k]?=w.heap[k]?):N d e w1 base ok v xs:=by
  obtain ⟨h0,rows,hl,hR,hf⟩:=h;exact ⟨h0,rows,hl,nQ hR (λk hk hlt=>hm k (h0 k hk.symm) hlt),λj x c hx hc=>vC (hf j x c hx hc) (λk hk hlt=>hm k hk.1 hlt)⟩
theorem sU(h:N d e w base ok v xs)(hb:Below w.heap.size w w1):N d e w1 base ok v xs:=vQ h (λk _ hk=>hb.block k hk)
theorem N_alloc(h:N d e w base ok v xs)(o:Obj):N d e (w.alloc o) base ok v xs:=sU h (aG (Below.refl _ _) o)
theorem N_drew(h:N d e w base ok v xs):N d e w.drew base ok v xs:=sU h (ql (Below.refl _ _))
theorem N_drewN(h:N d e w base ok v xs)(m:Nat):N d e (w.drewN m) base ok v xs:=sU h (dD (Below.refl _ _) m)
theorem N_elder'(h:N d e W base ok v xs)(hbase:∀k,u.ownBlock=some k->W.heap.size<=k)(hb:Below W.heap.size W w1):N d e w1 base (λk=>ok k/\some k≠u.ownBlock) v xs :=
  N_mono (sU (yT h) hb) (λk hk=>⟨hk.1,λhe=>by have:=hbase k he.symm;have:=hk.2;omega⟩)
theorem I1(h:N d e W base (λk=>ok k/\some k≠u.ownBlock) v xs){u1:Value}(hg:W.grownBy w1 u.ownBlock)(hat:u1.ownBlock=u.ownBlock\/∃b,u1.ownBlock=some b/\W.heap.size<=b):N d e w1 base (λk=>ok k/\some k≠u1.ownBlock) v xs:=by
  refine N_mono (vQ (yT h) (λk hk hlt=>hg.block k hlt hk.1.2)) (λk hk=>⟨hk.1.1,?_⟩)
  rcases hat with hat|⟨b,hb,hle⟩
  · rw[hat];exact hk.1.2
  · rw[hb]
    intro he
    injection he with he
    have:=hk.2;omega
theorem N_slice(h:N d e w base ok v xs):∃A c,v=.slice A xs.length c:=by
  obtain ⟨_,rows,hl,hR,_⟩:=h;obtain ⟨A,c,he⟩:=R_slice hR;exact ⟨A,c,by rw[he,hl]⟩
theorem N_reads'{n c:Nat}(h:N d e w base ok (.slice A n c) xs):n=xs.length/\n<=c/\d.C w A xs.length xs:=by
  obtain ⟨_,rows,hl,hR,hf⟩:=h;obtain ⟨hn,hc,hC⟩:=R_reads' hR;refine ⟨by omega,hc,?_⟩;rw[hl]at hC;refine ⟨rfl,hC.2.1,λhp=>?_⟩;obtain ⟨ad,he,hcell⟩:=hC.2.2 hp;refine ⟨ad,he,λj p hj=>?_⟩
  have hjl:j<rows.length:=by have:=(List.getElem?_eq_some_iff.1 hj).1;omega
  obtain ⟨c',hcl,hK,hcc⟩:=hcell j _ (List.getElem?_eq_getElem hjl);have hk:=oD (hf j p _ hj (List.getElem?_eq_getElem hjl));refine ⟨c',hcl,?_,hcc⟩;rw[show c'=rows[j] from hK.1];exact hk
theorem N_F{n:Nat}(h:N d e w base ok (.slice A n cc) xs):F d w ok A n xs:=λW' hW=>by
  have h2:=N_reads' (vQ h hW);rw[h2.1];exact h2.2.2
theorem I8{n cap:Nat}(h:N d e W base ok (.slice (some ⟨g,0,none⟩) n cap) xs)(z:α)(i:Int)(h0:0<=i)(h1:i<n) :
    ∃c,c.length=d.sz/\FK d W (λk=>ok k/\k≠g) (xs.getD i.toNat z) c/\(∀j u,c[j]?=some u->W.cell? ⟨g,i.toNat * d.sz+j,none⟩=some u)/\∀j,W.frozen? ⟨g,i.toNat * d.sz+j,none⟩=false:=by
  obtain ⟨_,rows,hl,hR,hf⟩:=h;have hn:=(R_reads' hR).1;obtain ⟨c,hcl,hM,hcc,hfr⟩:=CS hR [] i h0 h1
  have hil:i.toNat<rows.length:=by omega
  have hil':i.toNat<xs.length:=by omega
  have hc:c=rows[i.toNat]:=by
    have h2:=hM.1
    rwa [List.getD_eq_getElem?_getD,List.getElem?_eq_getElem hil]at h2
  refine ⟨c,hcl,?_,hcc,hfr⟩;rw[List.getD_eq_getElem?_getD,List.getElem?_eq_getElem hil'];exact pM (hf _ _ _ (List.getElem?_eq_getElem hil') (by rw[hc];exact List.getElem?_eq_getElem hil)) (λk hk=>⟨hk.1,λhe=>hk.2 (by rw[he];simp[Value.ownBlock])⟩)
theorem N_get{ad:Addr}{n cap:Nat}(h:N d e W base ok (.slice (some ad) n cap) xs)(z:α)(i:Int)(h0:0<=i)(h1:i<n) :
    ∃c,c.length=d.sz/\FK d W (λk=>ok k/\some k≠(Value.slice (some ad) n cap).ownBlock) (xs.getD i.toNat z) c/\∀j u,c[j]?=some u->W.cell? (ad.add (i.toNat * d.sz+j))=some u:=by
  obtain ⟨g,rfl⟩:∃g,ad=⟨g,0,none⟩:=by
    obtain ⟨_,rows,_,hR,_⟩:=h;exact Bg hR
  obtain ⟨c,hcl,hM,hcc,_⟩:=I8 h z i h0 h1;refine ⟨c,hcl,pM hM (λk hk=>⟨hk.1,λhe=>hk.2 (by simpa [Value.ownBlock] using he)⟩),λj u hu=>?_⟩;rw[JH,Nat.zero_add];exact hcc j u hu
end
end Kd
end Go.Proofs.YtjdlhefjgceabaaGreatDoorW.PrintWords
namespace Go.Proofs.YtjdlhefjgceabaaGreatDoorW.PrintWords
open Go.RowKit
namespace Kd
section
variable {α:Type} {d:Kd α} {e base n cap g:Nat} {ok ok' okp:Nat->Prop} {w w1 W:World} {v v1:Value} {xs ys:List α}
theorem Fu{rows news:List (List Value)}(h0:∀k,v.ownBlock=some k->ok k)(hl:rows.length=xs.length)(hf:∀ (j:Nat) (x:α) (c:List Value),xs[j]?=some x->rows[j]?=some c->FK d W (λk=>ok k/\some k≠v.ownBlock) x c)
    (hl2:news.length=ys.length) (hf2:∀ (j:Nat) (x:α) (c:List Value),ys[j]?=some x->news[j]?=some c->FK d W okp x c) (hokp:∀k,okp k->ok k/\some k≠v.ownBlock) (hfresh:∀k,W.heap.size<=k->ok k)
    (hR:(raw d.sz).R e w1 base (λ_=>True) v1 (rows++news)) (hg:W.grownBy w1 v.ownBlock) (hat:v1.ownBlock=v.ownBlock\/∃b,v1.ownBlock=some b/\W.heap.size<=b):N d e w1 base ok v1 (xs++ys):=by
  have hne:∀k,some k≠v.ownBlock->k<W.heap.size->some k≠v1.ownBlock:=by
    intro k hk hlt
    rcases hat with hat|⟨b,hb,hle⟩
    · rw[hat];exact hk
    · rw[hb]
      intro he
      injection he with he
      omega
  have step:∀ {x:α} {c:List Value} {o:Nat->Prop},FK d W o x c->(∀k,o k->ok k/\some k≠v.ownBlock)->FK d w1 (λk=>ok k/\some k≠v1.ownBlock) x c:=by
    intro x c o hq ho;exact pM (vC (vJ hq) (λk hk hlt=>hg.block k hlt (ho k hk.1).2)) (λk hk=>⟨(ho k hk.1).1,hne k (ho k hk.1).2 hk.2⟩)
  refine ⟨λk hk=>?_,rows++news,by rw[List.length_append,List.length_append,hl,hl2],zM hR,λj x c hx hc=>?_⟩
  · rcases hat with hat|⟨b,hb,hle⟩
    · exact h0 k (hat▸hk)
    · rw[hb]at hk
      injection hk with hk
      exact hfresh k (by omega)
  · rcases Nat.lt_or_ge j xs.length with hlt|hge
    · rw[List.getElem?_append_left hlt]at hx
      rw[List.getElem?_append_left (by omega)]at hc;exact step (hf j x c hx hc) (λ_ hk=>hk)
    · rw[List.getElem?_append_right hge]at hx
      rw[List.getElem?_append_right (by omega),hl]at hc;exact step (hf2 _ x c hx hc) hokp
theorem Fh{rows:List (List Value)}(hR:(raw d.sz).R e w1 base (λk=>k=W.heap.size) v1 rows)(hg:W.grownBy w1 none)(hat:∃b,v1.ownBlock=some b/\W.heap.size<=b)(hl:rows.length=xs.length)(hf:∀ (j:Nat) (x:α) (c:List Value),xs[j]?=some x->rows[j]?=some c->FK d W okp x c)
    (hok:∀k,okp k->ok k) (hfresh:ok W.heap.size):N d e w1 base ok v1 xs:=by
  obtain ⟨b,hb,hle⟩:=hat;refine ⟨λk hk=>by rw[hR.1 k hk];exact hfresh,rows,hl,zM hR,λj x c hx hc=>?_⟩;refine pM (vC (vJ (hf j x c hx hc)) (λk hk hlt=>hg.block k hlt (by simp))) (λk hk=>⟨hok k hk.1,λhe=>?_⟩);rw[hb]at he
  injection he with he
  have:=hk.2;omega
theorem Aq{Rr:α->List Value->Prop}{sz m:Nat}{A:Option Addr}(h:iJ Rr sz W A m ys)(hR:∀x c,Rr x c->c.length=sz/\∀u∈c,u.oneCell'=true) :
    ∃news:List (List Value),news.length=ys.length/\iJ (λx cs=>cs=x/\cs.length=sz/\∀u∈cs,u.oneCell'=true) sz W A m news/\∀ (j:Nat) (x:α) (c:List Value),ys[j]?=some x->news[j]?=some c->Rr x c:=by
  rcases Nat.eq_zero_or_pos m with h0|hp
  · have hy:ys=[]:=List.eq_nil_of_length_eq_zero (h.1.trans h0)
    subst hy;exact ⟨[],rfl,⟨h0▸rfl,h.2.1,λhp=>by omega⟩,λj x c hx=>by simp at hx⟩
  · obtain ⟨ad,rfl,_⟩:=h.2.2 hp
    obtain ⟨inner,hr,hc⟩:=iJ.inner_ h;refine ⟨chunks sz ys.length inner,lq _ _ _,⟨by rw[lq];exact h.1,h.2.1,λ_=>⟨ad,rfl,λj p hj=>?_⟩⟩,λj x c hx hcc=>?_⟩
    · have hjl:j<ys.length:=by have:=(List.getElem?_eq_some_iff.1 hj).1;rwa [lq]at this
      have hpe:=qU hj;have hq:=hR _ _ (hr.2 j _ (List.getElem?_eq_getElem hjl));rw[<- hpe]at hq;refine ⟨p,hq.1,⟨rfl,hq⟩,λi u hu=>?_⟩
      have hu2:inner[j * sz+i]?=some u:=by
        rw[hpe,List.getElem?_take]at hu
        split at hu
        · rw[List.getElem?_drop]at hu
          exact hu
        · cases hu
      exact hc _ u hu2
    · rw[qU hcc]
      exact hr.2 j x hx
end
section
variable {P:Program} {ops:Array Oper} {rest:List Oper} {o:Oper} {a:Act} {Q:Exit->Act->World->Prop} {Kc:Act->World->Prop} {α:Type}
theorem N_append_rows(d:Kd α){w0 W:World}(base:Nat)(hgd:o.guard=none)(s x:Operand)(t e:TypeId)(z:Value)(bytes:Nat)
    (ho:o.op=.call { callee:=.builtin .append,args:=#[s,x],argTypes:=#[t,t] })
    (ht:P.underlying t=some (.slice e)) (hinfo:(P.info? e).map (λi=>(i.zero,i.size,i.bytes))=some (some z,d.sz,bytes)) (hz:z.cells.size=d.sz) (hs0:0<d.sz) (hb0:0<bytes)
    (v:Value) (xs ys:List α) (A:Option Addr) (m c:Nat) (ok okp:Nat->Prop) (hs:a.eval s=v) (hx:a.eval x=.slice A m c)
    (HO:N d e W base ok v xs) (HR:F d W okp A m ys) (hokp:∀k,okp k->ok k/\some k≠v.ownBlock) (hfresh:∀k,W.heap.size<=k->ok k)
    (HB:Below base w0 W) (hbase:base<=W.heap.size) (hl:(xs.length+m) * bytes<=140737488355328)
    (h:∀v1 w1,N d e w1 base ok v1 (xs++ys)->Below base w0 w1->W.grownBy w1 v.ownBlock->(v1.ownBlock=v.ownBlock\/∃b,v1.ownBlock=some b/\W.heap.size<=b)->wpList P ops Q rest (a.put o.dst v1) w1) :
    wpList P ops Q (o :: rest) a W:=by
  obtain ⟨h0,rows,hlr,hR,hf⟩:=HO;obtain ⟨news,hnl,hnr,hnf⟩:=Aq (Im HR) (λy c hk=>⟨d.K_len (oD hk),d.K_one (oD hk)⟩)
  refine R_append_rows (raw d.sz) base hgd s x t e z bytes ho ht hinfo hz hs0 hb0 v rows news A m c (λ_=>True) (λ_=>False) hs hx (Ib hR) hnr (λ_ _ hk=>hk) (λ_ hk=>hk.elim) (λ_ _=>trivial) HB hbase (by rw[hlr];exact hl) ?_
  intro v1 w1 hr hb hg hat;exact h v1 w1 (Fu h0 hlr hf hnl hnf hokp hfresh hr hg hat) hb hg hat
theorem N_lit(d:Kd α){w0 W:World}(base e:Nat)(hgd:o.guard=none){N':Tmp}(_hd:o.dst=some N'){xs:List α}{inner:List Value}{ok okp:Nat->Prop}
    (hrun:(execOp a.eval o).run P W=.ok (.value (.slice (some ⟨W.heap.size,0,none⟩) xs.length xs.length)) (W.alloc (.cells inner.toArray e)))
    (hrep:bG (FK d W okp) d.sz xs inner) (hok:∀k,okp k->ok k) (hfresh:ok W.heap.size) (HB:Below base w0 W) (hbase:base<=W.heap.size) (hm:xs.length<=9223372036854775807)
    (h:∀v1 w1,N d e w1 base ok v1 xs->Below base w0 w1->W.grownBy w1 none->(∃b,v1.ownBlock=some b/\W.heap.size<=b)->wpList P ops Q rest (a.put o.dst v1) w1) :
    wpList P ops Q (o :: rest) a W:=by
  refine R_lit (raw d.sz) base e hgd _hd (xs:=chunks d.sz xs.length inner) (inner:=inner) (ok:=λk=>k=W.heap.size) (okp:=λ_=>False) (by rw[lq];exact hrun) (wY hrep (λy c hk=>⟨d.K_len (oD hk),d.K_one (oD hk)⟩)) (λ_ hk=>hk.elim) rfl HB hbase (by rw[lq];exact hm) ?_
  intro v1 w1 hr hb hg hat;exact h v1 w1 (Fh hr hg hat (lq _ _ _) (λj y c hy hc=>by rw[qU hc];exact hrep.2 j y hy) hok hfresh) hb hg hat
end
end Kd
end Go.Proofs.YtjdlhefjgceabaaGreatDoorW.PrintWords
namespace Go.Proofs.YtjdlhefjgceabaaGreatDoorW.PrintMore
open Go.RowKit PrintWords
namespace Kd
open Go.Proofs.YtjdlhefjgceabaaGreatDoorW.PrintWords.Kd
end Kd
namespace Kd
open Go.Proofs.YtjdlhefjgceabaaGreatDoorW.PrintWords.Kd
section
variable {α:Type} {d:Kd α} {e base g N:Nat} {ok:Nat->Prop} {W w1:World} {u v:Value} {xs:List α}
end
end Kd
theorem l8(k k':IntKind)(x y:Int):Builtin.max2 (.int k x) (.int k' y)=pure (.int k (if x<y then y else x)):=by simp only[Builtin.max2,gt_iff_lt]
theorem mF(k k':IntKind)(x y:Int):Builtin.min2 (.int k x) (.int k' y)=pure (.int k (if y<x then y else x)):=by simp only[Builtin.min2]
theorem lZ(ats:Array TypeId)(ty:TypeId)(a b:Value):Builtin.max_ ats ty #[a,b]=(Builtin.max2 a b >>= λs=>pure s):=by simp only[Builtin.max_,List.foldlM_cons,List.foldlM_nil]
theorem mo(ats:Array TypeId)(ty:TypeId)(a b:Value):Builtin.min_ ats ty #[a,b]=(Builtin.min2 a b >>= λs=>pure s):=by simp only[Builtin.min_,List.foldlM_cons,List.foldlM_nil]
theorem mr(ats:Array TypeId)(ty:TypeId)(a b c:Value):Builtin.max_ ats ty #[a,b,c]=(Builtin.max2 a b >>= λs=>Builtin.max2 s c >>= λs=>pure s):=by simp only[Builtin.max_,List.foldlM_cons,List.foldlM_nil]
theorem mK(ats:Array TypeId)(ty:TypeId)(a b c:Value):Builtin.min_ ats ty #[a,b,c]=(Builtin.min2 a b >>= λs=>Builtin.min2 s c >>= λs=>pure s):=by simp only[Builtin.min_,List.foldlM_cons,List.foldlM_nil]
theorem nI(ats:Array TypeId)(ty:TypeId)(a b c d:Value):Builtin.max_ ats ty #[a,b,c,d]=(Builtin.max2 a b >>= λs=>Builtin.max2 s c >>= λs=>Builtin.max2 s d >>= λs=>pure s):=by simp only[Builtin.max_,List.foldlM_cons,List.foldlM_nil]
theorem mQ(ats:Array TypeId)(ty:TypeId)(a b c d:Value):Builtin.min_ ats ty #[a,b,c,d]=(Builtin.min2 a b >>= λs=>Builtin.min2 s c >>= λs=>Builtin.min2 s d >>= λs=>pure s):=by simp only[Builtin.min_,List.foldlM_cons,List.foldlM_nil]
end Go.Proofs.YtjdlhefjgceabaaGreatDoorW.PrintMore
namespace Go.Proofs.YtjdlhefjgceabaaGreatDoorW.PrintWords
open Go.RowKit
section
variable {P:Program} {ops:Array Oper} {rest:List Oper} {o:Oper} {a:Act} {Q:Exit->Act->World->Prop} {W:World}
theorem dE{b:Builtin}{xs:Array Operand}{ts:Array TypeId}(_ho:o.op=.call { callee:=.builtin b,args:=xs,argTypes:=ts })(h:wpList P ops Q (o :: rest) a W):wpList P ops Q (o :: rest) a W:=h
end
def mx(a b:Int):Int:=if a<b then b else a
theorem xO(w:World)(n:Nat):w.drewN n=w.drewN n:=rfl
namespace Kd
section
variable {α:Type} {d:Kd α} {e base:Nat} {ok:Nat->Prop} {W w1:World} {v:Value} {xs:List α}
end
section
variable {α:Type} {d:Kd α} {e base g n cap:Nat} {ok oki okp:Nat->Prop} {W:World} {xs:List α} {i:Int} {c:List Value}
end
section
variable {α:Type} {d:Kd α} {e base b b' g N:Nat} {ok ok1:Nat->Prop} {W W2 w1:World} {u v:Value} {xs ys:List α} {S:Nat->Prop}
theorem R_reok(hE:d.E=[])(h:d.R e W base ok1 v xs)(hok:∀k,v.ownBlock=some k->ok k):d.R e W base ok v xs:=R_mono (R_tight hE h) (λk hk=>hok k hk.symm)
end
end Kd
end Go.Proofs.YtjdlhefjgceabaaGreatDoorW.PrintWords
namespace Go.Proofs.YtjdlhefjgceabaaGreatDoorW.PrintWords
open Go.RowKit
namespace Kd
def V{α:Type}(d:Kd α)(_e:Nat)(W:World)(_base:Nat)(ok:Nat->Prop)(v:Value)(xs:List α):Prop:=∃A c,v=.slice A xs.length c/\xs.length<=c/\F d W ok A xs.length xs
section
variable {α β:Type} {d:Kd α} {e base base' n m c g N' lo hi:Nat} {ok ok' S:Nat->Prop} {w W w1:World} {A:Option Addr} {ad:Addr} {u v v1:Value} {xs:List α}
theorem rR(h:V d e W base ok v xs)(hF:∀A,F d W ok A xs.length xs->F d w1 ok' A xs.length xs):V d e w1 base' ok' v xs:=by
  obtain ⟨A,c,hv,hl,hf⟩:=h;exact ⟨A,c,hv,hl,hF A hf⟩
theorem V_mk(hl:xs.length<=c)(hf:F d W ok A xs.length xs):V d e W base ok (.slice A xs.length c) xs:=⟨A,c,rfl,hl,hf⟩
theorem V_nil(d:Kd α)(e:Nat)(W:World)(base:Nat)(ok:Nat->Prop):V d e W base ok (.slice none 0 0) []:=⟨none,0,rfl,Nat.le_refl _,Ei d W ok⟩
theorem V_alloc(h:V d e W base ok v xs)(o:Obj):V d e (W.alloc o) base ok v xs:=rR h (λ_ hf=>Bp hf o)
theorem V_drew(h:V d e W base ok v xs):V d e W.drew base ok v xs:=rR h (λ_ hf=>CE hf)
theorem V_drewN(h:V d e W base ok v xs)(m:Nat):V d e (W.drewN m) base ok v xs:=rR h (λ_ hf=>Bw hf m)
theorem N_afterv(h:N d e W base (λk=>ok k/\some k≠v.ownBlock) u xs)(hg:W.grownBy w1 v.ownBlock)(hat:v1.ownBlock=v.ownBlock\/∃b,v1.ownBlock=some b/\W.heap.size<=b):N d e w1 base (λk=>ok k/\some k≠v1.ownBlock) u xs:=I1 h hg hat
theorem V_elder'(h:V d e W base ok v xs)(hbase:∀k,u.ownBlock=some k->W.heap.size<=k)(hb:Below W.heap.size W w1):V d e w1 base (λk=>ok k/\some k≠u.ownBlock) v xs:=rR h (λ_ hf=>BV hf hbase hb)
theorem FK_slice_open{l:List α}{cs:List Value}(h:FK (Kd.slice e d) W ok l cs):∃A c,cs=[.slice A l.length c]/\l.length<=c/\F d W ok A l.length l:=by
  obtain ⟨A,c,rfl,hl,_⟩:=oD h;refine ⟨A,c,rfl,hl,λW' hW=>?_⟩;obtain ⟨A',c',he,_,g'⟩:=h W' hW
  injection he with he _
  injection he with ha _ _
  rw[ha];exact g'
theorem FK_slice_mk{l:List α}(hl:l.length<=c)(hf:F d W ok A l.length l):FK (Kd.slice e d) W ok l [.slice A l.length c]:=λW' hW=>⟨A,c,rfl,hl,hf W' hW⟩
theorem R_newM{M:Nat->Prop}(h:d.R e w1 W.heap.size ok v xs)(hle:w.heap.size<=W.heap.size)(hM:∀k,w.heap.size<=k->M k):d.R e w1 W.heap.size (λk=>M k/\ok k) v xs:=R_mono (lI h) (λk hk=>⟨hM k (Nat.le_trans hle hk.2.1),hk.1⟩)
end
end Kd
end Go.Proofs.YtjdlhefjgceabaaGreatDoorW.PrintWords
namespace Go.Proofs.YtjdlhefjgceabaaGreatDoorW.PrintWords
open Go.RowKit
section
variable {w w' u:World} {m B g:Nat} {o:Obj} {row:Option Nat} {S:Nat->Prop} {a:Addr} {v:Value}
theorem wF(hq:w.drewN m=w')(h:u.heap.size<=w.heap.size):u.heap.size<=w'.heap.size:=by subst hq;exact h
end
namespace Kd
section
variable {α:Type} {d:Kd α} {e base n m:Nat} {ok:Nat->Prop} {w w':World} {v:Value} {A:Option Addr} {xs:List α}
end
end Kd
end Go.Proofs.YtjdlhefjgceabaaGreatDoorW.PrintWords
namespace Go.Proofs.YtjdlhefjgceabaaGreatDoorW.PrintWords
theorem bG.one{α:Type}{R:α->List Value->Prop}{ps:List α}{cs:List Value}{p:α}{v:Value}(hp:R p [v])(h:bG R 1 ps cs):bG R 1 (p :: ps) (v :: cs):=by
  refine ⟨by simp[h.1],λj q hq=>?_⟩
  cases j with
  | zero =>
    simp only[List.getElem?_cons_zero,Option.some.injEq]at hq;subst hq;simpa using hp
  | succ j =>
    simp only[List.getElem?_cons_succ]at hq;have h1:=h.2 j q hq;simpa [Nat.mul_one] using h1
end Go.Proofs.YtjdlhefjgceabaaGreatDoorW.PrintWords
namespace Go.Proofs.YtjdlhefjgceabaaGreatDoorW.PrintLast
def up(b:Nat->Bool)(i:Nat):Nat->Bool:=λj=>if j=i then true else b j
section
variable {P:Program} {ops:Array Oper} {Q:Exit->Act->World->Prop} {md:Region.Mode} {T:Bool × List (List Nat × List Nat)} {B:List Nat} {O:List Nat} {b:Nat->Bool} {i j n:Nat}
end
end Go.Proofs.YtjdlhefjgceabaaGreatDoorW.PrintLast
namespace Go.Proofs.YtjdlhefjgceabaaGreatDoorW.PrintWords
open Go.RowKit
section
variable {P:Program} {ops:Array Oper} {rest:List Oper} {o:Oper} {a:Act} {Q:Exit->Act->World->Prop} {W:World}
theorem kZ(hw:Region.wanted o (yielded ops a.tmps)=true)(h:wpList P ops Q ({ o with guard:=none } :: rest) a W):wpList P ops Q (o :: rest) a W:=by
  have h1:Region.wanted { o with guard:=none } (yielded ops a.tmps)=true:=rfl;unfold wpList at h ⊢;rw[if_pos h1]at h;rw[if_pos hw];exact h
end
end Go.Proofs.YtjdlhefjgceabaaGreatDoorW.PrintWords

/- The steps of a drawn region in short: PrintLast's pure_, take_, one_, last_, norm_ with their side conditions as automatic arguments. No conditions of its own. -/
import Derived.Test.YtjdlhefjgceabaaGreatDoorProg
import Derived.Test.YtjdlhefjgceabaaGreatDoorWd4
import Derived.Lib.SliceRun
import Derived.WalkSpells
import Derived.Shelf.Abstract
import Derived.RangeFuncBox
import Derived.RangeFuncLeaves
import Derived.OwnWalkIn
import Derived.TacticsInMore
import Derived.LoopNIn
import Derived.LoopIn
import Derived.Shelf.Sort.Plain
import Derived.Shelf.Slices.In.SortNone
import Derived.Lib.SlKeysI
import Derived.Laws.StructEq
import Derived.Ground.SlgfProg
import Derived.Shelf.SlicesE.DeleteFunc
import Derived.Lib.OwnBridge
import Derived.Shelf.Strings.OnBuilder
import Derived.Shelf.LaysM
import Derived.Shelf.Strconv.Itoa3
import Derived.Shelf.LaysC
import Derived.Shelf.Strconv.AtoiAll
import Derived.Shelf.Strconv.ErrVarAll
import Derived.Shelf.Strings.Search3
import Derived.Shelf.Strings.Count
import Derived.Shelf.Strings.Prefix
import Derived.Shelf.Strings.Split
import Derived.Laws.CopyOwn
import Derived.Laws.CopyRow
import Derived.WalkSmall
import Derived.Lib.AppendIntMem
set_option linter.unusedVariables false
set_option linter.unusedSimpArgs false
namespace Go.Proofs.YtjdlhefjgceabaaGreatDoor.Hand
open Go.RowKit YtjdlhefjgceabaaGreatDoorW.PrintWords YtjdlhefjgceabaaGreatDoorW.PrintLast
def fe(n b:Nat):Array Bool:=((List.range n).map b.testBit).toArray
section
variable {P:Program} {ops:Array Oper} {Q:Exit->Act->World->Prop} {md:Region.Mode} {S:World->Prop} {ds:List Nat} {T:Bool × List (List Nat × List Nat)} {B:List Nat} {fuel:Nat} {l:Array Bool} {a:Act} {w:World} {oi:Oper} {v:Value} {a':Act}
theorem aK(i d n b:Nat)(h:dh P md ops Q S ds fuel (fe n b) a' w)(hi:ops[i]?=some oi:=by exact rfl)(hN:oi.dst=some d:=by exact rfl)
  (hT:ae (dQ md ops=T):=by exact HT_) (hc:sZ T l.toList (fe n b).toList i=true:=by kernel_rfl) (hQ:∀c a w,Q (.panic c) (a.put oi.dst v) w->Q (.panic c) a w:=by exact λ_ _ _ h=>h)
  (hw:Region.wanted oi (yielded ops a.tmps)=true:=by exact (by rfl)) (hy:∀w',(execOp a.eval oi).run P w'=.ok (.value v) w':=by (intro w';go_simp;with_reducible rfl))
  (ha:a.put (some d) v=a':=by (simp only[Act.put,List.setIfInBounds_toArray,List.set_cons_zero,List.set_cons_succ,cO,eB];rfl)):dh P md ops Q S ds (fuel+1) l a w :=
 l9 (fe n b) hi hN (xW hT.out hc) hQ (Or.inl ⟨hw,hy⟩) ha h
theorem bF(i d n b:Nat)(h:dh P md ops Q S ds fuel (fe n b) a' w)(hi:ops[i]?=some oi:=by exact rfl)(hN:oi.dst=some d:=by exact rfl)
  (hT:ae (dQ md ops=T):=by exact HT_) (hc:sZ T l.toList (fe n b).toList i=true:=by kernel_rfl) (hQ:∀c a w,Q (.panic c) (a.put oi.dst undef) w->Q (.panic c) a w:=by exact λ_ _ _ h=>h)
  (hw:Region.wanted oi (yielded ops a.tmps)=false:=by exact (by rfl))
  (ha:a.put (some d) undef=a':=by (simp only[Act.put,List.setIfInBounds_toArray,List.set_cons_zero,List.set_cons_succ,cO,eB];rfl)):dh P md ops Q S ds (fuel+1) l a w :=
 l9 (fe n b) hi hN (xW hT.out hc) hQ (Or.inr ⟨hw,rfl⟩) ha h
theorem il(i d n b:Nat)(h:dh P md ops Q S ds fuel (fe n b) a' w)(hi:ops[i]?=some oi:=by exact rfl)(hN:oi.dst=some d:=by exact rfl)
  (hT:ae (dQ md ops=T):=by exact HT_) (hB:ae (jv T.2 B=true):=by exact HW_) (hc:uX T B ds l.toList (fe n b).toList i=true:=by kernel_rfl) (hQ:∀c a w,Q (.panic c) (a.put oi.dst v) w->Q (.panic c) a w:=by exact λ_ _ _ h=>h)
  (hw:Region.wanted oi (yielded ops a.tmps)=true:=by exact (by rfl)) (hy:∀w',S w'->(execOp a.eval oi).run P w'=.ok (.value v) w':=by (first|(intro w' s0;go_simp;with_reducible rfl)|(rintro w' ⟨s0,s1⟩;go_simp;with_reducible rfl)))
  (hS:S w:=by exact hHeld)
  (ha:a.put (some d) v=a':=by (simp only[Act.put,List.setIfInBounds_toArray,List.set_cons_zero,List.set_cons_succ,cO,eB];rfl)):dh P md ops Q S ds (fuel+1) l a w :=
 take_ (fe n b) hi hN (Gf hT.out hB.out hc) hQ (Or.inl ⟨hw,hy⟩) hS ha h
theorem fV(i:Nat)(N:Option Tmp)(n b:Nat)
  (h:∀K:Act->World->Prop,Shut (∀a' w',S w'->(S w'->dh P md ops Q S ds fuel (fe n b) a' w')->K a' w')->if Region.wanted oi (yielded ops a.tmps)=true then Oper.wp P oi a w K Q else K (a.put N undef) w)
  (hi:ops[i]?=some oi:=by exact rfl) (hN:oi.dst=N:=by exact rfl) (hT:ae (dQ md ops=T):=by exact HT_) (hc:(mZ T.2 l.toList == [i] && l.toList.set i true == (fe n b).toList)=true:=by kernel_rfl) (hd:i ∉ ds:=by decide):dh P md ops Q S ds (fuel+1) l a w :=
 sP (fe n b) hi hN (zi hT.out hc) hd h
theorem rH(i:Nat)(N:Option Tmp)(n b:Nat)
  (h:∀K:Act->World->Prop,Shut (∀a' w',dh P md ops Q S ds fuel (fe n b) a' w'->K a' w')->if Region.wanted oi (yielded ops a.tmps)=true then Oper.wp P oi a w K Q else K (a.put N undef) w)
  (hi:ops[i]?=some oi:=by exact rfl) (hN:oi.dst=N:=by exact rfl) (hT:ae (dQ md ops=T):=by exact HT_) (hc:(mZ T.2 l.toList == [i] && l.toList.set i true == (fe n b).toList)=true:=by kernel_rfl) (hd:i∈ds:=by decide):dh P md ops Q S ds (fuel+1) l a w :=
 yO (fe n b) hi hN (zi hT.out hc) hd h
theorem eG{a0:Act}{d:Nat}(h:dh P md ops Q S ds fuel l a' w)(h0:a=a0.put (some d) v:=by exact rfl)(ha:a0.put (some d) v=a':=by (simp only[Act.put,List.setIfInBounds_toArray,List.set_cons_zero,List.set_cons_succ,cO,eB];rfl)):dh P md ops Q S ds fuel l a w :=
 ll (h0.trans ha) h
end
section
variable {α:Type} {c:Prop} [Decidable c] {x y:Option α} {r:α} {G:Prop}
theorem bZ(k:c->x=some r->G)(h:(if c then x else none)=some r):G:=by
 by_cases hc:c
 · rw[if_pos hc]at h;exact k hc h
 · rw[if_neg hc]at h;cases h
theorem jb(k:¬ c->x=some r->G)(h:(if c then none else x)=some r):G:=by
 by_cases hc:c
 · rw[if_pos hc]at h;cases h
 · rw[if_neg hc]at h;exact k hc h
theorem aX(k:decide c=true->x=some r->G)(h:(if c then x else none)=some r):G:=bZ (λhc h=>k (decide_eq_true hc) h) h
theorem dI(k:c=True->decide c=true->x=some r->G)(h:(if c then x else none)=some r):G:=bZ (λhc h=>k (eq_true hc) (decide_eq_true hc) h) h
theorem bi(k:decide c=true->x=some r->G)(k2:decide c=false->y=some r->G)(h:(if c then x else y)=some r):G:=by
 by_cases hc:c
 · rw[if_pos hc]at h;exact k (decide_eq_true hc) h
 · rw[if_neg hc]at h;exact k2 (decide_eq_false hc) h
theorem bA{b:Bool}(k:b=true->x=some r->G)(k2:b=false->y=some r->G)(h:(if b=true then x else y)=some r):G:=by
 cases b
 · exact k2 rfl h
 · exact k rfl h
theorem dH{β:Type}[BEq β][LawfulBEq β]{a b:β}[Decidable (a=b)](k:(a == b)=true->(a != b)=false->x=some r->G)(k2:¬ a=b->(a == b)=false->(a != b)=true->y=some r->G)(h:(if a=b then x else y)=some r):G:=by
 by_cases hc:a=b
 · rw[if_pos hc]at h;exact k (beq_iff_eq.mpr hc) (bne_eq_false_iff_eq.mpr hc) h
 · rw[if_neg hc]at h;exact k2 hc (beq_eq_false_iff_ne.mpr hc) (bne_iff_ne.mpr hc) h
end
theorem bu{β:Type}{y e:β}{R T:Prop}(hy:y=e)(H:R)(h:y=e->R->T:=by (intro e_ H_;first|(rw[e_];with_reducible exact H_)|(have H2_:=(Option.bind_some _ _).symm.trans H_;rw[e_];with_reducible exact H2_)|(have H2_:=(Option.bind_some _ _).symm.trans H_;with_reducible exact H2_)|with_reducible exact H_|(rw[e_];exact H_)|exact H_)):T:=h hy H
theorem bv{β:Type}(e:β):∃y,y=e:=⟨e,rfl⟩
theorem dB{β γ:Type}{a c:β}{b d:γ}(h:some (a,b)=some (c,d)):a=c/\b=d:=by
 cases h;exact ⟨rfl,rfl⟩
theorem eD{β γ δ:Type}{a c:β}{b d:γ}{x y:δ}(h:some (a,b,x)=some (c,d,y)):a=c/\b=d/\x=y:=by
 cases h;exact ⟨rfl,rfl,rfl⟩
theorem ak{β:Type}{r:β}{G:Prop}(h:none=some r):G:=by cases h
theorem aa{p:Prop}(h:p):ae p:=⟨h⟩
section
variable {w:World} {A:Option Addr} {n:Nat}
theorem f_{α:Type}{d:Kd α}{e:Nat}{base:Nat}{ok:Nat->Prop}{c:Nat}{xs:List α}(h:d.R e w base ok (.slice A n c) xs):d.C w A xs.length xs:=(Kd.R_reads' h).2.2
theorem bW{k:IntKind}{xs:List Int}(h:(Kd.int k).C w A n xs)(i:Int)(h0:0<=i:=by (refine of_decide_eq_true ?_;first|(with_reducible assumption)|assumption))(h1:i<n:=by (refine of_decide_eq_true ?_;first|(with_reducible assumption)|assumption)):∃ad,A=some ad/\w.cell? (ad.add i.toNat)=some (.int k (rd xs i))/\(0<=i)=True/\(i<n)=True:=by
 obtain ⟨ad,e,hx⟩:=Kd.at_int h i h0 h1;exact ⟨ad,e,hx,eq_true h0,eq_true h1⟩
theorem lJ{xs:List Bool}(h:Kd.bool.C w A n xs)(i:Int)(h0:0<=i:=by (refine of_decide_eq_true ?_;first|(with_reducible assumption)|assumption))(h1:i<n:=by (refine of_decide_eq_true ?_;first|(with_reducible assumption)|assumption)):∃ad,A=some ad/\w.cell? (ad.add i.toNat)=some (.bool (dS false xs i))/\(0<=i)=True/\(i<n)=True:=by
 obtain ⟨ad,e,hx⟩:=Kd.at_bool h i h0 h1;exact ⟨ad,e,hx,eq_true h0,eq_true h1⟩
theorem oU{xs:List ByteArray}(h:Kd.string.C w A n xs)(i:Int)(h0:0<=i:=by (refine of_decide_eq_true ?_;first|(with_reducible assumption)|assumption))(h1:i<n:=by (refine of_decide_eq_true ?_;first|(with_reducible assumption)|assumption)):∃ad,A=some ad/\w.cell? (ad.add i.toNat)=some (.string (dS ByteArray.empty xs i))/\(0<=i)=True/\(i<n)=True:=by
 obtain ⟨ad,e,hx⟩:=Kd.at_string h i h0 h1;exact ⟨ad,e,hx,eq_true h0,eq_true h1⟩
end
section
variable {P:Program} {ops:Array Oper} {rest:List Oper} {o:Oper} {a:Act} {Q:Exit->Act->World->Prop} {W:World}
theorem dm(N:Tmp)(h:wpList P ops Q (o :: rest) a W)(hN:o.dst=some N:=by exact rfl):wpList P ops Q (o :: rest) a W:=h
theorem av(f:FuncId){az:Array Operand}{ts:Array TypeId}(h:wpList P ops Q (o :: rest) a W)(ho:o.op=.call { callee:=.value (.func f),args:=az,argTypes:=ts }:=by exact rfl):wpList P ops Q (o :: rest) a W:=h
theorem fJ(cs:Array Value)(t:TypeId)(h:∀g,g=W.heap.size->∀w1,w1.heap[g]?=some (.cells cs t (0,0))->Below W.heap.size W w1->wpList P ops Q rest (a.put o.dst (.pointer (some ⟨g,0,none⟩))) w1){N:Tmp}
  (hgd:o.guard=none:=by exact rfl) (hd:o.dst=some N:=by exact rfl) (hrun:(execOp a.eval o).run P W=.ok (.value (.pointer (some ⟨W.heap.size,0,none⟩))) (W.alloc (.cells cs t (0,0))):=by first|(go_simp;done)|(go_simp;rfl)):wpList P ops Q (o :: rest) a W :=
 tu hgd hd hrun h
theorem DW:(Tryz.prog.info? 3).map (λi=>(i.zero,i.size,i.bytes))=some (some (.int .i64 0),1,8):=by kernel_rfl
theorem eQ{w0:World}{R:Exit->Act->World->Prop}(s x:Operand)(v:Value)(xs:List Int)(p:Int)(ok:Nat->Prop)(hf:∀k,W.heap.size<=k->ok k)(HO:Kd.R (Kd.int .i64) 3 W w0.heap.size ok v xs)(HB:Below w0.heap.size w0 W)(hl:(xs.length+1) * 8<=140737488355328)
  (h:∀v1 w1,Kd.R (Kd.int .i64) 3 w1 w0.heap.size ok v1 (xs++[p])->Below w0.heap.size w0 w1->W.grownBy w1 v.ownBlock->(v1.ownBlock=v.ownBlock\/∃b,v1.ownBlock=some b/\W.heap.size<=b)->wpList Tryz.prog ops R rest (a.put o.dst v1) w1)
  (hgd:o.guard=none:=by exact rfl) (ho:o.op=.call { callee:=.builtin .append,args:=#[s,x],argTypes:=#[22,22] }:=by exact rfl) (hs:a.eval s=v:=by exact rfl) (hx:a.eval x=.slice (some ⟨W.heap.size,0,none⟩) 1 1:=by exact rfl):wpList Tryz.prog ops R (o :: rest) a (W.alloc (.cells #[.int .i64 p] 3)) :=
 Kd.R_append (Kd.int .i64) (w0:=w0) w0.heap.size hgd s x 22 3 (.int .i64 0) 8 ho Tryz.underlying22 DW rfl (by decide) (by omega) v xs p [.int .i64 p] ok (λ_=>False) hs hx rfl (λ_ hk=>hk.elim) hf HO HB HB.size hl h
end
open YtjdlhefjgceabaaGreatDoorW.PrintMore
def cnt(p:Int->Bool)(l:List Int):Int:=((l.filter p).length:Int)
theorem lY(p:Int->Bool)(l:List Int):0<=cnt p l:=by unfold cnt;omega
theorem nM(p:Int->Bool)(l:List Int):cnt p l<=l.length:=by
 unfold cnt;have:=List.length_filter_le p l;omega
theorem yA(p:Int->Bool)(l:List Int)(i:Int)(h0:0<=i)(h1:i<(l.length:Int)) :
  cnt p (l.take (i+1).toNat)=cnt p (l.take i.toNat)+(if p (rd l i)=true then 1 else 0):=by
 have hi:i.toNat<l.length:=by omega
 have e:(i+1).toNat=i.toNat+1:=by omega
 have eg:l[i.toNat]=rd l i:=by unfold rd;rw[List.getD_eq_getElem?_getD,List.getElem?_eq_getElem hi];rfl
 rw[e,List.take_succ_eq_append_getElem hi,eg];unfold cnt;rw[List.filter_append,List.length_append]
 cases hp:p (rd l i) <;> simp[List.filter_cons,hp]
theorem wrap64_in(x:Int)(h0:-9223372036854775808<=x)(h1:x<=9223372036854775807):wrap64 x=x:=by
 unfold wrap64;omega
theorem DT(p:Int->Bool)(l:List Int)(i:Int)(h0:0<=i)(h1:i<(l.length:Int)) :
  (l.take (i+1).toNat).any p=((l.take i.toNat).any p || p (rd l i)):=by
 have hi:i.toNat<l.length:=by omega
 have e:(i+1).toNat=i.toNat+1:=by omega
 have eg:l[i.toNat]=rd l i:=by unfold rd;rw[List.getD_eq_getElem?_getD,List.getElem?_eq_getElem hi];rfl
 rw[e,List.take_succ_eq_append_getElem hi,eg,List.any_append];simp
theorem Dm(p:Int->Bool)(l:List Int)(n:Nat)(h:(l.take n).any p=true):l.any p=true:=by
 rw[List.any_eq_true]at h ⊢;obtain ⟨x,hx,hp⟩:=h;exact ⟨x,List.mem_of_mem_take hx,hp⟩
def pE(g:Nat)(lb:Array Value)(p:Int->Bool)(w:World):Prop :=
 ∀ (x:Int) (m:Nat),Calls Tryz.prog g (#[.int .i64 x]++lb) (w.drewN m) λe w'=>e=.returned (.bool (p x))/\bg (w.drewN m) w'
set_option maxHeartbeats 2000000 in
theorem zF(p:Int->Bool)(g:Nat)(lb:Array Value)(eg:∀args w,(callFunc g args).run Tryz.prog w=.ok (.enter g args) w)
  (A0:Option Addr) (c0:Nat) (l0:List Int) (w:World) (hr0:Kd.C (Kd.int .i64) w A0 l0.length l0) (hp:pE g lb p w) :
  Calls Tryz.prog 172 #[.slice A0 l0.length c0,.func (.func g) #[] lb] w λe w'=>e=.returned (.int .i64 (cnt p l0))/\bg w w':=by
 have HM:ae (l0.length<=9223372036854775807):=⟨hr0.2.1⟩
 have HR0:=ae.mk hr0;clear hr0;have HP:=ae.mk hp;clear hp;go_enter Tryz.func172,Tryz.ntmps172;go_wp2
 go_loopg [5,10] l0.length (λgg v5 v10 wr=>∃ (x5 x10:Int),v5=.int .i64 x5/\v10=.int .i64 x10/\ae (0<=x10/\x10<=l0.length/\(l0.length:Int) - x10<=gg/\x5=cnt p (l0.take x10.toNat))/\bg w wr)
 case atStart=>exact ⟨0,0,rfl,rfl,⟨by omega,by omega,by omega,by simp[cnt]⟩,bg.refl _⟩
 case round =>
  obtain ⟨x5,x10,rfl,rfl,HA,⟨q,rfl⟩⟩:=hrel;have hcr:=lY p (l0.take x10.toNat);have hcl:=nM p (l0.take x10.toNat);have HC:=ae.mk (And.intro hcr hcl);clear hcr hcl
  by_cases c3:x10<(l0.length:Int)
  ·
   have p3:0<=x10:=HA.out.1;obtain ⟨ad,e,hx⟩:=Kd.at_int HR0.out x10 p3 c3;have HS:=ae.mk (yA p l0 x10 p3 c3);cases e;have c3b0:decide (x10<(l0.length:Int))=true:=decide_eq_true c3;have q3:(x10<(l0.length:Int))=True:=eq_true c3;clear c3;replace p3:=eq_true p3;have hcall:=HP.out (rd l0 x10)
   cases hq:p (rd l0 x10) with
   | true =>
    rw[hq]at hcall;have HQ:=ae.mk hq;clear hq
    go_wp2_with (go_at_fn g;refine (hcall _).mono ?_;rintro e w' ⟨rfl,⟨nd,rfl⟩⟩)
    go_roundg (gk - 1)
    case measure=>have h1:=HA.out;have h2:=of_decide_eq_true c3b0;omega
    case rel =>
     have h1:=HA.out;have h2:=HM.out;have h3:=of_decide_eq_true c3b0;have h4:=HC.out;have h5:(l0.take x10.toNat).length<=x10.toNat:=List.length_take_le _ _;refine ⟨_,_,rfl,rfl,⟨?_⟩,by repeat (first|exact bg.refl _|apply bg.step)⟩;rw[wrap64_in (x10+1) (by omega) (by omega),wrap64_in (x5+1) (by omega) (by omega)];refine ⟨by omega,by omega,by omega,?_⟩;rw[HS.out,HQ.out,if_pos rfl];omega
   | false =>
    rw[hq]at hcall;have HQ:=ae.mk hq;clear hq
    go_wp2_with (go_at_fn g;refine (hcall _).mono ?_;rintro e w' ⟨rfl,⟨nd,rfl⟩⟩)
    go_roundg (gk - 1)
    case measure=>have h1:=HA.out;have h2:=of_decide_eq_true c3b0;omega
    case rel =>
     have h1:=HA.out;have h2:=HM.out;have h3:=of_decide_eq_true c3b0;refine ⟨_,_,rfl,rfl,⟨?_⟩,by repeat (first|exact bg.refl _|apply bg.step)⟩;rw[wrap64_in (x10+1) (by omega) (by omega)];refine ⟨by omega,by omega,by omega,?_⟩;rw[HS.out,HQ.out,if_neg (by decide)];omega
  ·
   have c3b0:decide (x10<(l0.length:Int))=false:=decide_eq_false c3
   have HE:ae (x5=cnt p l0):=⟨by
    have h1:=HA.out
    rw[h1.2.2.2,List.take_of_length_le (by omega)]⟩
   clear c3;go_wp2;go_ret;exact ⟨by rw[HE.out];rfl,by repeat (first|exact bg.refl _|apply bg.step)⟩
set_option maxHeartbeats 2000000 in
theorem JL(p:Int->Bool)(g:Nat)(lb:Array Value)(eg:∀args w,(callFunc g args).run Tryz.prog w=.ok (.enter g args) w)
  (A0:Option Addr) (c0:Nat) (l0:List Int) (w:World) (hr0:Kd.C (Kd.int .i64) w A0 l0.length l0) (hp:pE g lb p w) :
  Calls Tryz.prog 219 #[.slice A0 l0.length c0,.func (.func g) #[] lb] w λe w'=>(∃i:Int,e=.returned (.int .i64 i)/\decide (0<=i)=l0.any p)/\bg w w':=by
 have HM:ae (l0.length<=9223372036854775807):=⟨hr0.2.1⟩
 have HR0:=ae.mk hr0;clear hr0;have HP:=ae.mk hp;clear hp;go_enter Tryz.func219,Tryz.ntmps219;go_wp2
 go_loopg [5,8] l0.length (λgg v5 v8 wr=>∃ (x8:Int),v8=.int .i64 x8/\ae (0<=x8/\x8<=l0.length/\(l0.length:Int) - x8<=gg/\(l0.take x8.toNat).any p=false)/\bg w wr)
 case atStart=>exact ⟨0,rfl,⟨by omega,by omega,by omega,by simp⟩,bg.refl _⟩
 case round =>
  obtain ⟨x8,rfl,HA,⟨q,rfl⟩⟩:=hrel
  by_cases c3:x8<(l0.length:Int)
  ·
   have p3:0<=x8:=HA.out.1;obtain ⟨ad,e,hx⟩:=Kd.at_int HR0.out x8 p3 c3;have HS:=ae.mk (DT p l0 x8 p3 c3);cases e;have c3b0:decide (x8<(l0.length:Int))=true:=decide_eq_true c3;have q3:(x8<(l0.length:Int))=True:=eq_true c3;clear c3;replace p3:=eq_true p3;have hcall:=HP.out (rd l0 x8)
   cases hq:p (rd l0 x8) with
   | true =>
    rw[hq]at hcall;have HQ:=ae.mk hq;clear hq
    go_wp2_with (go_at_fn g;refine (hcall _).mono ?_;rintro e w' ⟨rfl,⟨nd,rfl⟩⟩)
    go_ret;refine ⟨⟨x8,rfl,?_⟩,by repeat (first|exact bg.refl _|apply bg.step)⟩;have h1:=HA.out;have h3:=of_decide_eq_true c3b0;rw[decide_eq_true h1.1]
    symm
    have h4:=HS.out;rw[HQ.out,h1.2.2.2]at h4;exact Dm p l0 _ h4
   | false =>
    rw[hq]at hcall;have HQ:=ae.mk hq;clear hq
    go_wp2_with (go_at_fn g;refine (hcall _).mono ?_;rintro e w' ⟨rfl,⟨nd,rfl⟩⟩)
    go_roundg (gk - 1)
    case measure=>have h1:=HA.out;have h2:=of_decide_eq_true c3b0;omega
    case rel =>
     have h1:=HA.out;have h2:=HM.out;have h3:=of_decide_eq_true c3b0;refine ⟨_,rfl,⟨?_⟩,by repeat (first|exact bg.refl _|apply bg.step)⟩;rw[wrap64_in (x8+1) (by omega) (by omega)];refine ⟨by omega,by omega,by omega,?_⟩;rw[HS.out,HQ.out,h1.2.2.2];rfl
  ·
   have c3b0:decide (x8<(l0.length:Int))=false:=decide_eq_false c3
   have HE:ae (l0.any p=false):=⟨by
    have h1:=HA.out.2.2.2
    rwa [List.take_of_length_le (by omega)]at h1⟩
   clear c3;go_wp2;go_ret;exact ⟨⟨-1,rfl,by rw[HE.out];rfl⟩,by repeat (first|exact bg.refl _|apply bg.step)⟩
set_option maxHeartbeats 2000000 in
theorem Hd(p:Int->Bool)(g:Nat)(lb:Array Value)(eg:∀args w,(callFunc g args).run Tryz.prog w=.ok (.enter g args) w)
  (A0:Option Addr) (c0:Nat) (l0:List Int) (w:World) (hr0:Kd.C (Kd.int .i64) w A0 l0.length l0) (hp:pE g lb p w) :
  Calls Tryz.prog 164 #[.slice A0 l0.length c0,.func (.func g) #[] lb] w λe w'=>e=.returned (.bool (l0.any p))/\bg w w':=by
 have HR0:=ae.mk hr0;clear hr0;have HP:=ae.mk hp;clear hp;go_enter Tryz.func164,Tryz.ntmps164
 go_wp2_with (go_at_call 219;refine (JL p g lb eg A0 c0 l0 _ HR0.out HP.out).mono ?_;rintro e w' ⟨⟨i,rfl,hi⟩,⟨nd,rfl⟩⟩;have HI:=ae.mk hi;clear hi)
 go_ret;exact ⟨by rw[<- HI.out];rfl,by repeat (first|exact bg.refl _|apply bg.step)⟩
theorem mq:(Tryz.prog.info? 3).map (λi=>(i.zero,i.size,i.bytes))=some (some (.int .i64 0),1,8):=by kernel_rfl
theorem Jm(g1:Nat)(a1:Int)(w:World)(hb1:w.heap[g1]?=some (.cells #[.int .i64 a1] 3 (0,0))) :
  pE 233 #[.pointer (some ⟨g1,0,none⟩)] (λx=>decide (x<a1)) w:=λx m=>by
 have hc:(w.drewN m).cell? ⟨g1,0,none⟩=some (.int .i64 a1):=(ah (di hb1 m) 0).trans rfl;show Calls Tryz.prog 233 #[.int .i64 x,.pointer (some ⟨g1,0,none⟩)] _ _;go_enter Tryz.func233,Tryz.ntmps233;go_wp2;go_ret;exact ⟨rfl,by repeat (first|exact bg.refl _|apply bg.step)⟩
def ol.f(l0:List Int)(a1:Int):Option Int:=some (cnt (λx=>decide (x<a1)) l0)
theorem ol.calls(A0:Option Addr)(c0:Nat)(l0:List Int)(g1:Nat)(a1:Int)(r:Int)(w:World)(hr0:Kd.C (Kd.int .i64) w A0 l0.length l0)(hc0:l0.length<=c0)
  (hb1:w.heap[g1]?=some (.cells #[.int .i64 a1] 3 (0,0))) (h:ol.f l0 a1=some r) :
  Calls Tryz.prog 172 #[.slice A0 l0.length c0,.func (.func 233) #[] #[.pointer (some ⟨g1,0,none⟩)]] w λe w'=>e=.returned (.int .i64 r)/\bg w w':=by
 obtain rfl:=Option.some.inj h;exact zF _ _ _ (enters_of Tryz.func233 (by kernel_rfl) rfl) A0 c0 l0 w hr0 (Jm g1 a1 w hb1)
theorem BX(g1:Nat)(a1:Int)(w:World)(hb1:w.heap[g1]?=some (.cells #[.int .i64 a1] 3 (0,0))) :
  pE 173 #[.pointer (some ⟨g1,0,none⟩)] (λx=>decide (x<=a1)) w:=λx m=>by
 have hc:(w.drewN m).cell? ⟨g1,0,none⟩=some (.int .i64 a1):=(ah (di hb1 m) 0).trans rfl;show Calls Tryz.prog 173 #[.int .i64 x,.pointer (some ⟨g1,0,none⟩)] _ _;go_enter Tryz.func173,Tryz.ntmps173;go_wp2;go_ret;exact ⟨rfl,by repeat (first|exact bg.refl _|apply bg.step)⟩
def pK.f(l0:List Int)(a1:Int):Option Int:=some (cnt (λx=>decide (x<=a1)) l0)
theorem pK.calls(A0:Option Addr)(c0:Nat)(l0:List Int)(g1:Nat)(a1:Int)(r:Int)(w:World)(hr0:Kd.C (Kd.int .i64) w A0 l0.length l0)(hc0:l0.length<=c0)
  (hb1:w.heap[g1]?=some (.cells #[.int .i64 a1] 3 (0,0))) (h:pK.f l0 a1=some r) :
  Calls Tryz.prog 172 #[.slice A0 l0.length c0,.func (.func 173) #[] #[.pointer (some ⟨g1,0,none⟩)]] w λe w'=>e=.returned (.int .i64 r)/\bg w w':=by
 obtain rfl:=Option.some.inj h;exact zF _ _ _ (enters_of Tryz.func173 (by kernel_rfl) rfl) A0 c0 l0 w hr0 (BX g1 a1 w hb1)
theorem Fb(n lo hi:Int)(w:World) :
  Calls Tryz.prog 101 #[.int .i64 n,.int .i64 lo,.int .i64 hi] w λe w'=>e=.returned (.bool (decide (lo<=n/\n<=hi)))/\bg w w':=by
 by_cases c:lo<=n
 ·
  have c4b0:decide (lo<=n)=true:=decide_eq_true c
  have E:ae (decide (lo<=n/\n<=hi)=decide (n<=hi)):=⟨by simp[c]⟩
  clear c;rw[E.out];go_enter Tryz.func101,Tryz.ntmps101;go_wp2;go_ret;exact ⟨rfl,by repeat (first|exact bg.refl _|apply bg.step)⟩
 ·
  have c4b0:decide (lo<=n)=false:=decide_eq_false c
  have E:ae (decide (lo<=n/\n<=hi)=false):=⟨by simp[c]⟩
  clear c;rw[E.out];go_enter Tryz.func101,Tryz.ntmps101;go_wp2;go_ret;exact ⟨rfl,by repeat (first|exact bg.refl _|apply bg.step)⟩
theorem Ew(g1:Nat)(a1:Int)(g2:Nat)(a2:Int)(w:World)(hb1:w.heap[g1]?=some (.cells #[.int .i64 a1] 3 (0,0)))(hb2:w.heap[g2]?=some (.cells #[.int .i64 a2] 3 (0,0))) :
  pE 165 #[.pointer (some ⟨g1,0,none⟩),.pointer (some ⟨g2,0,none⟩)] (λx=>!decide (a1<=x/\x<=a2)) w:=λx m=>by
 have hc1:(w.drewN m).cell? ⟨g1,0,none⟩=some (.int .i64 a1):=(ah (di hb1 m) 0).trans rfl;have hc2:(w.drewN m).cell? ⟨g2,0,none⟩=some (.int .i64 a2):=(ah (di hb2 m) 0).trans rfl;show Calls Tryz.prog 165 #[.int .i64 x,.pointer (some ⟨g1,0,none⟩),.pointer (some ⟨g2,0,none⟩)] _ λe w'=>e=.returned (.bool (!decide (a1<=x/\x<=a2)))/\bg (w.drewN m) w';have hB:=Fb x a1 a2
 generalize decide (a1<=x/\x<=a2)=b at hB ⊢
 have HB:=ae.mk hB;clear hB;go_enter Tryz.func165,Tryz.ntmps165
 go_wp2_with (go_at_call 101;refine (HB.out _).mono ?_;rintro e w' ⟨rfl,⟨nd,rfl⟩⟩)
 go_ret;exact ⟨rfl,⟨⟨nd,(World.drewN_drewN _ _ _).symm⟩⟩⟩
def iE.f(l0:List Int)(a1 a2:Int):Option Bool:=some (l0.all (λx=>decide (a1<=x/\x<=a2)))
set_option maxHeartbeats 1000000 in
theorem iE.calls(A0:Option Addr)(c0:Nat)(l0:List Int)(a1 a2:Int)(r:Bool)(w:World)(hr0:Kd.C (Kd.int .i64) w A0 l0.length l0)(hc0:l0.length<=c0)(h:iE.f l0 a1 a2=some r) :
  Calls Tryz.prog 95 #[.slice A0 l0.length c0,.int .i64 a1,.int .i64 a2] w λe w'=>e=.returned (.bool r)/\Below w.heap.size w w':=by
 have er:r=!(l0.any (λx=>!decide (a1<=x/\x<=a2))):=by
  rw[<- Option.some.inj h,List.not_any_eq_all_not]
  congr 1
  funext x
  rw[Bool.not_not]
 subst er;clear h;have W0:((w.alloc (.cells #[.int .i64 a1] 3)).alloc (.cells #[.int .i64 a2] 3)).heap[w.heap.size]?=some (.cells #[.int .i64 a1] 3 (0,0)):=bq (bC w _) _
 have W1:((w.alloc (.cells #[.int .i64 a1] 3)).alloc (.cells #[.int .i64 a2] 3)).heap[w.heap.size+1]?=some (.cells #[.int .i64 a2] 3 (0,0)):=by
  have h1:=bC (w.alloc (.cells #[.int .i64 a1] 3)) (.cells #[.int .i64 a2] 3);rw[World.size_alloc]at h1;exact h1
 have HC:=ae.mk (Hd _ _ _ (enters_of Tryz.func165 (by kernel_rfl) rfl) A0 c0 l0 _ (Kd.C_alloc (Kd.C_alloc hr0 _) _) (Ew w.heap.size a1 (w.heap.size+1) a2 _ W0 W1));clear hr0 W0 W1
 generalize l0.any (λx=>!decide (a1<=x/\x<=a2))=b at HC ⊢
 go_enter Tryz.func95,Tryz.ntmps95
 go_wp2_with (go_at_call 164;refine HC.out.mono ?_;rintro e w' ⟨rfl,⟨nd,rfl⟩⟩)
 go_ret;exact ⟨rfl,dD (aG (aG (Below.refl _ _) _) _) _⟩
def iw.f(l0:List Int):Option (List Int):=if l0.length<17592186044416 then some l0 else none
set_option maxHeartbeats 8000000 in
set_option maxRecDepth 100000 in
theorem iw.calls(A0:Option Addr)(c0:Nat)(l0:List Int)(r:List Int)(w:World)(hr0:Kd.C (Kd.int .i64) w A0 l0.length l0)(hc0:l0.length<=c0)(h:iw.f l0=some r) :
  Calls Tryz.prog 53 #[.slice A0 l0.length c0] w λe w'=>∃v0_:Value,e=.returned (v0_)/\Kd.R (Kd.int .i64) 3 w' w.heap.size (λ_=>True) v0_ r/\Below w.heap.size w w':=by
 have q22:∀ (w:World) (a:Option Addr) (n c n' c':Nat),(binOp .eql 22 (.slice a n c) (.slice none n' c')).run Tryz.prog w=.ok (.bool a.isNone) w:=λw a n c n' c'=>Lib.run_eql_slice_nil w _ _ a n c n' c' Tryz.underlying22;have HQ:=ae.mk q22;unfold iw.f at h
 by_cases c2:l0.length<17592186044416
 ·
  rw[if_pos c2]at h;obtain rfl:=Option.some.inj h;clear h;have LM:=ae.mk c2;clear c2;have HR0:=ae.mk hr0;have HC0:=ae.mk hc0;clear hc0
  cases A0 with
  | none =>
   have h0:l0=[]:=by
    rcases Nat.eq_zero_or_pos l0.length with h0|h0
    · exact List.eq_nil_of_length_eq_zero h0
    ·
     obtain ⟨ad,e,_⟩:=hr0.2.2 h0;cases e
   clear hr0 HR0;subst h0;have q2:=HQ.out;go_enter Tryz.func53,Tryz.ntmps53;go_wp2;go_ret;exact ⟨_,rfl,Kd.R_nil _ _ _ _ _,Below.refl _ _⟩
  | some ad =>
   clear hr0
   have q2:=λw n c n' c'=>(HQ.out w (some ad) n c n' c')
   simp only[Option.isNone]at q2;clear q22;have HB:=ae.mk (Below.refl w.heap.size w);go_enter Tryz.func53,Tryz.ntmps53
   go_wp2_with (first|((with_reducible refine qE (N:=5) rfl ?_);refine Kd.R_lit (Kd.int .i64) _ 3 ?hg (N:=5) ?hd (xs:=([]:List Int)) (inner:=[]) (ok:=λ_=>True) (okp:=λ_=>True) ?hr ?hp (λ_ hk=>hk) trivial (Below.refl _ _) (Nat.le_refl _) (by simp) ?_;(case hd=>rfl);(case hg=>rfl);(case hr=>first|(go_simp;done)|(go_simp;rfl));(case hp=>exact (bG.none _ _));intro v135 w3 ho4 hb hg_ hnew_;clear hg_ hnew_;have ak:=ae.mk (Kd.R_lower ho4 (ay HB.out));have n1_:=ae.mk (aj HB.out hb);clear HB;have HO136:=ak;have HB:=n1_;clear ak n1_;clear hb ho4)|((with_reducible refine dE (b:=.append) (xs:=#[.tmp 5,.tmp 6]) rfl ?_);at_builtin;refine Kd.R_append_rows (Kd.int .i64) (w0:=w) w.heap.size rfl (.tmp 5) (.tmp 6) 22 3 (.int .i64 0) 8 rfl Tryz.underlying22 mq rfl (by decide) (by omega) v135 [] l0 _ _ _ (λ_=>True) (λ_=>False) rfl rfl ?aO ?aR (λ_ _ h=>h) (λ_ h=>h.elim) ?aF ?aB ?aS ?aL ?_;(case aR=>exact (Kd.C_below HR0.out HB.out));(case aB=>exact HB.out);(case aF=>exact (λ_ _=>trivial));(case aO=>exact HO136.out);(case aS=>exact (ay HB.out));(case aL=>have:=LM.out;simp only[List.length_nil];omega);intro v138 w5 ho hb hg hat;rw[List.nil_append]at ho;have ak:=ae.mk (hb);have n1_:=ae.mk (ho);clear HB;clear HO136;have HB:=ak;have HO139:=n1_;clear ak n1_;clear ho hb hg hat))
   go_ret;exact ⟨_,rfl,HO139.out,HB.out⟩
 ·
  rw[if_neg c2]at h;cases h
end Go.Proofs.YtjdlhefjgceabaaGreatDoor.Hand
namespace Go.Proofs.YtjdlhefjgceabaaGreatDoor.Hand
open Go.RowKit Go.Shelf YtjdlhefjgceabaaGreatDoorW.PrintWords YtjdlhefjgceabaaGreatDoorW.PrintLast
attribute [local go_sem] Oper.semAt_some
def upto(f:Nat->Int)(k:Nat):List Int:=(List.range k).map f
theorem zt(f:Nat->Int)(k:Nat):upto f (k+1)=upto f k++[f k]:=by simp[upto,List.range_succ]
theorem Hq(f:Nat->Int)(k:Nat):(upto f k).length=k:=by simp[upto]
theorem Gu(zs:List Int):upto (λj=>zs[j]?.getD 0) zs.length=zs:=by
 apply List.ext_getElem
 · simp[upto]
 ·
  intro i h1 h2;simp[upto,h2]
theorem EL(zs:List Int){k:Nat}(hk:k<=zs.length):upto (λj=>zs[j]?.getD 0) k=zs.take k:=by
 apply List.ext_getElem
 · simp[upto,hk]
 ·
  intro i h1 h2
  have:i<zs.length:=by simp[upto]at h1;omega
  simp[upto,this]
def Ints(n₀:Nat)(W:World)(sv:Value)(zs:List Int):Prop :=
 ∃a cap,sv=.slice a zs.length cap/\(0<zs.length->∃ad,a=some ad)/\∀ad,a=some ad->∀j,j<zs.length->(ad.add j).block<n₀/\W.cell? (ad.add j)=some (.int .i64 (zs[j]?.getD 0))
theorem Ints.below{n₀:Nat}{A B:World}(h:Below n₀ A B){sv:Value}{zs:List Int}:Ints n₀ A sv zs->Ints n₀ B sv zs
 | ⟨a,cap,e,hs,hc⟩=>⟨a,cap,e,hs,λad he j hj=>⟨(hc ad he j hj).1,(h.cell (hc ad he j hj).1).trans (hc ad he j hj).2⟩⟩
set_option maxRecDepth 100000 in
set_option maxHeartbeats 2000000 in
theorem Gg(F:Fence)(n:Nat)(h7:F.fn 270)(hro:F.round=none)(hn:1<=n)(l Bs n₀ len cap:Nat)(ad:Addr)(zs:List Int)(hreach:len<=1099511627776)(J Jx:List Int->World->Prop)
  (hY:∀pre x W,J pre W->pre.length<len->YieldAt F (n - 1) Tryz.prog l #[.int .i64 x] W λe W' =>
   (e=.returned (.bool true)/\J (pre++[x]) W'/\Below n₀ W W')\/(e=.returned (.bool false)/\Jx (pre++[x]) W'))
  (W:World) (hBs:W.cell? ⟨Bs,0,none⟩=some (.slice (some ad) len cap)) (hc:∀j,j<len->(ad.add j).block<n₀/\W.cell? (ad.add j)=some (.int .i64 (zs[j]?.getD 0))) (h0:J [] W) :
  CallsIn F n Tryz.prog 270 #[.func (.yield l) #[] #[],.pointer (some ⟨Bs,0,none⟩)] W λe W'=>(∃v,e=.returned v) /\
   ((∃ys,ys=upto (λj=>zs[j]?.getD 0) len/\J ys W')\/(∃pre,(∃k,k<=len/\pre=upto (λj=>zs[j]?.getD 0) k)/\Jx pre W')):=by
 refine callsIn_of_wp Tryz.func270 rfl h7 ?_ hro;simp only[Tryz.ntmps270,List.size_toArray,List.length_cons,List.length_nil,Nat.reduceAdd,Nat.reduceSub,Array.replicate_succ,Array.replicate_zero,List.push_toArray,List.append_toArray,List.nil_append,List.cons_append]
 gi_wp2
 gi_loopw [7] (λi wr=>∃k:Nat,k<=len/\i=.int .i64 k/\J (upto (λj=>zs[j]?.getD 0) k) wr/\Below n₀ W wr)
  (λi _=>len - (intOf i).toNat)
 case atStart=>exact ⟨0,Nat.zero_le _,rfl,h0,Below.refl _ _⟩
 case round =>
  obtain ⟨k,hk,rfl,hJs,hnx⟩:=hrel;have hcx:k<len->wr.cell? (ad.add k)=some (.int .i64 (zs[k]?.getD 0)):=λh=>(hnx.cell (hc k h).1).trans (hc k h).2
  by_cases hlt:k<len
  ·
   obtain ⟨fn,tmps,assign,body,hy,hR⟩:=hY _ (zs[k]?.getD 0) wr hJs (by rw[Hq];exact hlt);have hcx':=hcx hlt
   gi_wp2
   refine hR.mono ?_
   rintro e W3 (⟨rfl,hJ3,hk3⟩|⟨rfl,hJx3⟩)
   ·
    gi_wp2
    go_roundw
    case rel=>exact ⟨k+1,by omega,by simp,by rw[zt];exact hJ3,hnx.trans hk3⟩
    case measure=>simp[intOf];omega
   ·
    gi_wp2
    refine bodyPost_ret (results_none rfl _ _ _) rfl ?_
    exact ⟨⟨_,rfl⟩,.inr ⟨_,⟨k+1,by omega,(zt _ _).symm⟩,hJx3⟩⟩
  ·
   obtain rfl:k=len:=by omega
   gi_wp2
   go_end0
   exact ⟨⟨_,rfl⟩,.inl ⟨_,rfl,hJs⟩⟩
set_option maxRecDepth 100000 in
set_option maxHeartbeats 1000000 in
theorem Gz(F:Fence)(n:Nat)(h7:F.fn 270)(hro:F.round=none)(l Bs cap:Nat)(J:List Int->World->Prop)(W:World)(hBs:W.cell? ⟨Bs,0,none⟩=some (.slice none 0 cap))(h0:J [] W) :
  CallsIn F n Tryz.prog 270 #[.func (.yield l) #[] #[],.pointer (some ⟨Bs,0,none⟩)] W λe W'=>(∃v,e=.returned v)/\J [] W':=by
 refine callsIn_of_wp Tryz.func270 rfl h7 ?_ hro;simp only[Tryz.ntmps270,List.size_toArray,List.length_cons,List.length_nil,Nat.reduceAdd,Nat.reduceSub,Array.replicate_succ,Array.replicate_zero,List.push_toArray,List.append_toArray,List.nil_append,List.cons_append]
 gi_wp2
 gi_loopw [7] (λi wr=>i=.int .i64 0/\J [] wr) (λ_ _=>0)
 case atStart=>exact ⟨rfl,h0⟩
 case round =>
  obtain ⟨rfl,hJs⟩:=hrel
  gi_wp2
  go_end0
  exact ⟨⟨_,rfl⟩,hJs⟩
set_option maxHeartbeats 1000000 in
theorem values_in(F:Fence)(n:Nat)(h5:F.fn 259)(hro:F.round=none)(a:Option Addr)(len cap:Nat)(w:World) :
  CallsIn F n Tryz.prog 259 #[.slice a len cap] w λe w'=>e=.returned (.func (.func 270) #[] #[.pointer (some ⟨w.heap.size,0,none⟩)])/\w'=w.alloc (.cells #[.slice a len cap] 22):=by
 refine callsIn_of_wp Tryz.func259 rfl h5 ?_ hro;simp only[Tryz.ntmps259,List.size_toArray,List.length_cons,List.length_nil,Nat.reduceAdd,Nat.reduceSub,Array.replicate_succ,Array.replicate_zero,List.push_toArray,List.append_toArray,List.nil_append,List.cons_append]
 gi_wp2
 go_ret;exact ⟨rfl,rfl⟩
theorem values_stops(F:Fence)(n:Nat)(h7:F.fn 270)(hro:F.round=none)(hn:1<=n)(Bs n₀:Nat)(sv:Value)(zs:List Int)(hreach:zs.length<=1099511627776)(w:World)(hBs:Bs<w.heap.size)(hn₀:n₀<=w.heap.size)
  (hc:w.cell? ⟨Bs,0,none⟩=some sv) (hI:Ints n₀ w sv zs) :
  SeqStopsK F n Tryz.prog 270 #[.pointer (some ⟨Bs,0,none⟩)] (λx:Int=>#[Value.int .i64 x]) (Below n₀) (λys=>ys=zs) (λpre=>pre <+: zs) zs.length w:=λl J Jx W hW _ _ hY h0=>by
 have hc':=(hW.cell (p:=⟨Bs,0,none⟩) hBs).trans hc;obtain ⟨a,cap,rfl,hs,hcs⟩:=hI.below (hW.mono hn₀)
 cases a with
 | none =>
  have hz:zs=[]:=by
   rcases Nat.eq_zero_or_pos zs.length with h|h
   · exact List.eq_nil_of_length_eq_zero h
   ·
    obtain ⟨ad,e⟩:=hs h;cases e
  subst hz
  exact (Gz F n h7 hro l Bs cap J W hc' h0).mono λe W' ⟨he,hj⟩=>⟨he,.inl ⟨_,rfl,hj⟩⟩
 | some ad =>
  refine (Gg F n h7 hro hn l Bs n₀ zs.length cap ad zs hreach J Jx hY W hc' (hcs ad rfl) h0).mono ?_
  rintro e W' ⟨he,⟨ys,rfl,hj⟩|⟨pre,⟨k,hk,rfl⟩,hj⟩⟩
  · exact ⟨he,.inl ⟨_,Gu zs,hj⟩⟩
  · exact ⟨he,.inr ⟨_,by rw[EL zs hk];exact List.take_prefix _ _,hj⟩⟩
set_option maxRecDepth 100000 in
set_option maxHeartbeats 2000000 in
theorem appendSeq_in(F:Fence)(n:Nat)(h8:F.fn 275)(h7:F.fn 270)(hro:F.round=none)(hn:3<=n)(Bs:Nat)(sv:Value)(zs:List Int)(hreach:zs.length<=1099511627776)(w:World)(hBs:Bs<w.heap.size)
  (hc:w.cell? ⟨Bs,0,none⟩=some sv) (hI:Ints w.heap.size w sv zs) :
  CallsIn F n Tryz.prog 275 #[.slice none 0 0,.func (.func 270) #[] #[.pointer (some ⟨Bs,0,none⟩)]] w λe W'=>∃v,e=.returned v/\W'.ownsRow w.heap.size 3 1 v zs.length (zs.map (Value.int .i64))/\Below w.heap.size w W':=by
 have h1:1<=n:=by omega
 obtain ⟨i0,hi,hz0,hz1,hz2⟩:=info_parts mq;refine callsIn_of_wp_marks Tryz.func275 rfl h8 ?_ hro;simp only[Tryz.ntmps275,List.size_toArray,List.length_cons,List.length_nil,Nat.reduceAdd,Nat.reduceSub,Array.replicate_succ,Array.replicate_zero,List.push_toArray,List.append_toArray,List.nil_append,List.cons_append]
 gi_wp2
 have bO:=Boxed.new w 22 (.slice none 0 0);have hB0:Below w.heap.size w (w.alloc (.cells #[.slice none 0 0] 22)):=(Below.refl _ w).alloc (Nat.le_refl _) _
 refine wpIn_rangeFunc_ownG hro h1 (gf:=270) (lb:=#[.pointer (some ⟨Bs,0,none⟩)]) rfl h7 (enters_of Tryz.func270 (by kernel_rfl) rfl)
  (values_stops F (n - 1) h7 hro (by omega) Bs w.heap.size sv zs hreach _ (by simp;omega) (by simp) ((hB0.cell (p:=⟨Bs,0,none⟩) hBs).trans hc) (hI.below hB0)) belowK_t (belowK_b (by simp)) (Below.refl _ _) (λ_=>rfl)
  (λpre W=>(∃v,Boxed W w.heap.size 22 v/\W.ownsRow w.heap.size 3 1 v pre.length (pre.map (Value.int .i64))/\True)/\Below w.heap.size w W)
  (λ_ _ _=>False)
  (OwnFrom.and (Own.from (holdsRow_own w.heap.size w.heap.size 22 3 1 (λpre:List Int=>pre.length) (λpre:List Int=>pre.map (Value.int .i64)) (λ(pre:List Int) v=>True)) _) (ownFrom_below (Nat.le_refl _) (by simp)))
  (λ_ _ _ _ _ hs _ _=>hs)
  ⟨⟨_,bO,World.ownsRow_nil _ _ _ _,trivial⟩,hB0⟩
  (λx=>{ tmps:=#[.slice none 0 0,.func (.func 270) #[] #[.pointer (some ⟨Bs,0,none⟩)],.pointer (some ⟨w.heap.size,0,none⟩),undef,.slice none 0 0,.int .i64 x,.func (.func 270) #[] #[.pointer (some ⟨Bs,0,none⟩)],.int .i64 x,undef,undef,undef,undef,undef],defers:=[] }) ?assign ?body ?done ?stop
 case assign =>
  intro l x W K hK
  gi_wp2
  exact hK
 case body =>
  rintro l pre x W ⟨⟨v,hv,hrow,_⟩,hB⟩ hlt;have hc:=hv.cell
  gi_wp2_with (gi_at_builtin;refine wpListIn_append_own _ rfl _ _ 22 rfl w.heap.size 3 i0 (.int .i64 0) 1 8 Tryz.underlying22 hi hz0 hz1 hz2 rfl (by decide) _ _ _ rfl (hrow.alloc _) ⟨W.heap.size,0,none⟩ 1 1 [.int .i64 x] rfl rfl (cell_one_new _ _ _) (by simp[Value.oneCell']) (by simp only[maxLen];omega) (by omega) (by have:=hB.size;simp;omega) ?_;intro v' w1 hown' hgrow _;obtain ⟨g',cap',rfl⟩:=ownsRow_succ hown';obtain ⟨hv1,hv2,hr2,hk2,hb2⟩:=hv.appended (by decide) hrow hB.size (Nat.le_refl _) hown' hgrow;have hc1:=hv1.cell;have hf1:=hv1.frozen)
  exact ⟨hk2.from _,hb2,⟨_,hv2,by simpa using hr2,trivial⟩,hB.trans hb2⟩
 case done =>
  rintro D ys W hD rfl ⟨⟨v,hv,hrow,_⟩,hB⟩ hK;have hc:=hv.cell
  gi_wp2
  refine ⟨by simp,.inl ⟨_,_,rfl,run_takeDeferred hK,?_⟩⟩;exact ⟨_,results_tmp rfl _ _ _,v,rfl,ownsRow_putObj hrow _ hK rfl,hB.trans (belowK_b (w:=w) (Nat.le_refl _) W D _ _ (by simp at hD;omega) hK rfl rfl)⟩
 case stop =>
  rintro D c pre W _ _ h _;exact h.elim
set_option maxHeartbeats 1000000 in
theorem collect_in(F:Fence)(n:Nat)(h9:F.fn 268)(h8:F.fn 275)(h7:F.fn 270)(hro:F.round=none)(hn:4<=n)(Bs:Nat)(sv:Value)(zs:List Int)(hreach:zs.length<=1099511627776)(w:World)(hBs:Bs<w.heap.size)
  (hc:w.cell? ⟨Bs,0,none⟩=some sv) (hI:Ints w.heap.size w sv zs) :
  CallsIn F n Tryz.prog 268 #[.func (.func 270) #[] #[.pointer (some ⟨Bs,0,none⟩)]] w λe W'=>∃v,e=.returned v/\W'.ownsRow w.heap.size 3 1 v zs.length (zs.map (Value.int .i64))/\Below w.heap.size w W':=by
 have h1:1<=n:=by omega
 refine callsIn_of_wp Tryz.func268 rfl h9 ?_ hro;simp only[Tryz.ntmps268,List.size_toArray,List.length_cons,List.length_nil,Nat.reduceAdd,Nat.reduceSub,Array.replicate_succ,Array.replicate_zero,List.push_toArray,List.append_toArray,List.nil_append,List.cons_append]
 gi_wp2_with (gi_at_call 275;refine (appendSeq_in F (n - 1) h8 h7 hro (by omega) Bs sv zs hreach _ hBs hc hI).mono ?_;rintro e w' ⟨v,rfl,hr,hb⟩)
 go_ret;exact ⟨v,rfl,hr,hb⟩
#print axioms collect_in
end Go.Proofs.YtjdlhefjgceabaaGreatDoor.Hand
namespace Go.Proofs
open Go.Shelf
def Tryz.lays189_ren:Go.Shelf.Ren:=⟨fun|189=>269|125=>277|257=>276|128=>287|129=>261|294=>278|295=>279|296=>280|297=>281|298=>282|299=>283|216=>284|300=>285|301=>286|328=>288|329=>289|330=>290|331=>291|332=>292|215=>293|343=>294|n=>n,fun|28=>22|3=>3|46=>148|0=>0|51=>164|53=>74|4=>4|183=>217|182=>216|131=>92|5=>5|9=>9|218=>222|222=>226|228=>228|229=>229|n=>n,fun|n=>n⟩
theorem Tryz.lays189:Go.Proofs.Lays.n189 Tryz.prog Tryz.lays189_ren:={
  mixed:=by kernel_rfl
  f125:=Tryz.func277.trans (congrArg some (by kernel_rfl))
  f128:=Tryz.func287.trans (congrArg some (by kernel_rfl))
  f129:=Tryz.func261.trans (congrArg some (by kernel_rfl))
  f189:=Tryz.func269.trans (congrArg some (by kernel_rfl))
  f215:=Tryz.func293.trans (congrArg some (by kernel_rfl))
  f216:=Tryz.func284.trans (congrArg some (by kernel_rfl))
  f257:=Tryz.func276.trans (congrArg some (by kernel_rfl))
  f294:=Tryz.func278.trans (congrArg some (by kernel_rfl))
  f295:=Tryz.func279.trans (congrArg some (by kernel_rfl))
  f296:=Tryz.func280.trans (congrArg some (by kernel_rfl))
  f297:=Tryz.func281.trans (congrArg some (by kernel_rfl))
  f298:=Tryz.func282.trans (congrArg some (by kernel_rfl))
  f299:=Tryz.func283.trans (congrArg some (by kernel_rfl))
  f300:=Tryz.func285.trans (congrArg some (by kernel_rfl))
  f301:=Tryz.func286.trans (congrArg some (by kernel_rfl))
  f328:=Tryz.func288.trans (congrArg some (by kernel_rfl))
  f329:=Tryz.func289.trans (congrArg some (by kernel_rfl))
  f330:=Tryz.func290.trans (congrArg some (by kernel_rfl))
  f331:=Tryz.func291.trans (congrArg some (by kernel_rfl))
  f332:=Tryz.func292.trans (congrArg some (by kernel_rfl))
  f343:=Tryz.func294.trans (congrArg some (by kernel_rfl))
  t0:=Tryz.underlying0
  a0:=Tryz.isAgg0
  z0:=Tryz.sizeOf0
  v0:=Tryz.zeroValue0
  t3:=Tryz.underlying3
  a3:=Tryz.isAgg3
  z3:=Tryz.sizeOf3
  v3:=Tryz.zeroValue3
  t4:=Tryz.underlying4
  a4:=Tryz.isAgg4
  z4:=Tryz.sizeOf4
  v4:=Tryz.zeroValue4
  t5:=Tryz.underlying5
  a5:=Tryz.isAgg5
  z5:=Tryz.sizeOf5
  v5:=Tryz.zeroValue5
  t9:=Tryz.underlying9
  a9:=Tryz.isAgg9
  z9:=Tryz.sizeOf9
  v9:=Tryz.zeroValue9
  t28:=Tryz.underlying22
  a28:=Tryz.isAgg22
  z28:=Tryz.sizeOf22
  v28:=Tryz.zeroValue22
  t46:=Tryz.underlying148
  a46:=Tryz.isAgg148
  z46:=Tryz.sizeOf148
  v46:=Tryz.zeroValue148
  t51:=Tryz.underlying164
  a51:=Tryz.isAgg164
  z51:=Tryz.sizeOf164
  v51:=Tryz.zeroValue164
  t53:=Tryz.underlying74
  a53:=Tryz.isAgg74
  z53:=Tryz.sizeOf74
  v53:=Tryz.zeroValue74
  t131:=Tryz.underlying92
  a131:=Tryz.isAgg92
  z131:=Tryz.sizeOf92
  v131:=Tryz.zeroValue92
  t182:=Tryz.underlying216
  a182:=Tryz.isAgg216
  z182:=Tryz.sizeOf216
  v182:=Tryz.zeroValue216
  t183:=Tryz.underlying217
  a183:=Tryz.isAgg217
  z183:=Tryz.sizeOf217
  v183:=Tryz.zeroValue217
  t218:=Tryz.underlying222
  a218:=Tryz.isAgg222
  z218:=Tryz.sizeOf222
  v218:=Tryz.zeroValue222
  t222:=Tryz.underlying226
  a222:=Tryz.isAgg226
  z222:=Tryz.sizeOf226
  v222:=Tryz.zeroValue226
  t228:=Tryz.underlying228
  a228:=Tryz.isAgg228
  z228:=Tryz.sizeOf228
  v228:=Tryz.zeroValue228
  t229:=Tryz.underlying229
  a229:=Tryz.isAgg229
  z229:=Tryz.sizeOf229
  v229:=Tryz.zeroValue229 }
open Go.Sort Go.RowKit in
theorem Tryz.slices_Sort_int(blk off cap:Nat)(zs:List Int)(w:World)(hH:Holds (Value.int .i64) w blk off zs.toArray)(hblk:blk<w.heap.size)(hsz:zs.length<4611686018427387904) :
    Calls Tryz.prog 269 #[.slice (some ⟨blk,off,none⟩) zs.length cap] w λe w' =>
      e=.returned (.tuple #[])/\∃n os,w'=grow (putRow (Value.int .i64) (Sort.ahead w n) blk off (zs.mergeSort λx y=>decide (x<=y)).toArray) os:=Any.slices_Sort_int Tryz.lays189 blk off cap zs w hH hblk hsz
open Go.RowKit Go.Sort in
theorem Tryz.slices_Sort_int_none(p:Option Addr)(cap:Nat)(w:World) :
    Calls Tryz.prog 269 #[.slice p 0 cap] w λe w'=>e=.returned (.tuple #[])/\w'=w:=Any.slices_Sort_int_none Tryz.lays189 p cap w
end Go.Proofs
namespace Go.Proofs.YtjdlhefjgceabaaGreatDoor.Hand
open Go.RowKit Go.Shelf Go.Maps Go.Sort YtjdlhefjgceabaaGreatDoorW.PrintWords YtjdlhefjgceabaaGreatDoorW.PrintLast
theorem EJ{w:World}{p:Addr}{v:Value}(h:w.cell? p=some v):p.block<w.heap.size:=by
 rcases Nat.lt_or_ge p.block w.heap.size with h1|h1
 · exact h1
 · simp[World.cell?,Array.getElem?_eq_none h1]at h
set_option maxRecDepth 100000 in
set_option maxHeartbeats 2000000 in
theorem F8(Bs:Nat)(sv:Value)(zs:List Int)(hreach:zs.length<=1099511627776)(w:World)(hBs:Bs<w.heap.size)
  (hc:w.cell? ⟨Bs,0,none⟩=some sv) (hI:Ints w.heap.size w sv zs) :
  Calls Tryz.prog 258 #[.func (.func 270) #[] #[.pointer (some ⟨Bs,0,none⟩)]] w λe W'=>∃v,e=.returned v/\W'.ownsRow w.heap.size 3 1 v (zs.mergeSort λx y=>decide (x<=y)).length ((zs.mergeSort λx y=>decide (x<=y)).map (Value.int .i64))/\Below w.heap.size w W':=by
 have HC:=ae.mk (callsIn_wide.1 (collect_in Fence.wide 10 trivial trivial trivial rfl (by omega) Bs sv zs hreach w hBs hc hI));go_enter Tryz.func258,Tryz.ntmps258
 go_wp2_with (go_at_call 268;refine HC.out.mono ?_;rintro e W ⟨v,rfl,hrow,hb⟩)
 rcases hrow.2 with ⟨rfl,hz⟩|⟨gb,cap,cur,rfl,hbase,hgb,r1,r2,r3,r4⟩
 ·
  have hss:zs=[]:=List.eq_nil_of_length_eq_zero hz;subst hss
  go_wp2_with (go_at_call 269;refine (Tryz.slices_Sort_int_none none 0 W).mono ?_;rintro e w' ⟨rfl,rfl⟩)
  go_ret;exact ⟨_,rfl,by simpa using hrow,hb⟩
 ·
  have hH:Holds (Value.int .i64) W gb 0 zs.toArray:=holds_of_block_i hgb (by simpa using r4);have hgl:gb<W.heap.size:=(Array.getElem?_eq_some_iff.1 hgb).1;have cS:=Tryz.slices_Sort_int gb 0 cap zs W hH hgl (by omega)
  go_wp2_with (go_at_call 269;refine cS.mono ?_;rintro e w' ⟨rfl,nn,os,rfl⟩)
  go_ret;refine ⟨_,rfl,?_,hb.grown (grownBy_sorted_i _) hb.size (λj hj=>by cases hj;exact hbase)⟩;have hl:(zs.mergeSort λx y=>decide (x<=y)).length=zs.length:=List.length_mergeSort _;have:=ownsRow_sorted_i (n:=nn) (os:=os) (ts:=zs.mergeSort λx y=>decide (x<=y)) hl hbase hgb r1 r2 r3;rw[<- hl]at this;rw[hl]at this ⊢;exact this
def pG.f(l0:List Int):Option (List Int):=if l0.length<=1099511627776 then some (l0.mergeSort λx y=>decide (x<=y))else none
set_option maxRecDepth 100000 in
set_option maxHeartbeats 2000000 in
theorem pG.calls(A0:Option Addr)(c0:Nat)(l0:List Int)(r:List Int)(w:World)(hr0:Kd.C (Kd.int .i64) w A0 l0.length l0)(hc0:l0.length<=c0)(h:pG.f l0=some r) :
  Calls Tryz.prog 242 #[.slice A0 l0.length c0] w λe w'=>∃v0_:Value,e=.returned (v0_)/\Kd.R (Kd.int .i64) 3 w' w.heap.size (λ_=>True) v0_ r/\Below w.heap.size w w':=by
 unfold pG.f at h
 split at h
 case isFalse=>cases h
 case isTrue hreach =>
 obtain rfl:=Option.some.inj h
 have hI:Ints w.heap.size w (.slice A0 l0.length c0) l0:=by
  refine ⟨A0,c0,rfl,λh0=>?_,λad he j hj=>?_⟩
  ·
   obtain ⟨ad,e,_⟩:=hr0.2.2 h0;exact ⟨ad,e⟩
  ·
   obtain ⟨ad',e,hcs⟩:=hr0.2.2 (by omega)
   obtain rfl:ad=ad':=by rw[he]at e;exact Option.some.inj e
   obtain ⟨c,hcl,hR,hcc⟩:=hcs j l0[j] (by simp[hj]);have hcc':c=[.int .i64 l0[j]]:=hR;subst hcc';have h1:=hcc 0 _ rfl;have h2:(Kd.int .i64).sz=1:=rfl;rw[h2,Nat.mul_one,Nat.add_zero]at h1;refine ⟨EJ h1,?_⟩;rw[h1];simp[hj]
 have hb0:Below w.heap.size w (w.alloc (.cells #[.slice A0 l0.length c0] 22)):=aG (Below.refl _ _) _;have HV:=ae.mk (callsIn_wide.1 (values_in Fence.wide 10 trivial rfl A0 l0.length c0 w))
 have HS:=ae.mk (F8 w.heap.size (.slice A0 l0.length c0) l0 hreach (w.alloc (.cells #[.slice A0 l0.length c0] 22)) (by simp) (cell_one_new _ _ _ 0 _ rfl) (by
  obtain ⟨a,cap,e,hs,hcs⟩:=hI.below hb0
  exact ⟨a,cap,e,hs,λad he j hj=>⟨Nat.lt_of_lt_of_le (hcs ad he j hj).1 (by simp),(hcs ad he j hj).2⟩⟩))
 clear hr0 hI;go_enter Tryz.func242,Tryz.ntmps242
 go_wp2_with (first|(go_at_call 259;refine HV.out.mono ?_;rintro e w' ⟨rfl,rfl⟩)|(go_at_call 258;refine HS.out.mono ?_;rintro e w' ⟨v,rfl,hr,hb⟩))
 go_ret;refine ⟨v,rfl,Kd.R_of_own (xG hr (by simp)) (λ_ _=>trivial),?_⟩;exact hb0.trans (hb.mono (by simp))
#print axioms pG.calls
end Go.Proofs.YtjdlhefjgceabaaGreatDoor.Hand
namespace Go.Proofs.YtjdlhefjgceabaaGreatDoor.Hand
open Go.RowKit YtjdlhefjgceabaaGreatDoorW.PrintWords YtjdlhefjgceabaaGreatDoorW.PrintLast YtjdlhefjgceabaaGreatDoorW.PrintMore
attribute [local go_sem] l8 mF lZ mo mr mK nI mQ
def gJ.l0:Nat->List Int->List Int->Int->Option (List Int)
 | 0,_,_,_=>none
 | k+1,x0,x3,x4=>if x4<(x0.length:Int)then ((ol.f x0 x4).bind λt357=>(if t357=x4 then (if x3.length<17592186044416 then (gJ.l0 k x0 (x3++[x4]) (wrap64 (x4+1)))else (none))else (gJ.l0 k x0 x3 (wrap64 (x4+1)))))else (some x3)
def gJ.f(k:Nat)(l0:List Int):Option (List Int):=gJ.l0 k l0 (([]:List Int)) 1
set_option maxHeartbeats 8000000 in
set_option maxRecDepth 100000 in
theorem gJ.calls(k:Nat)(A0:Option Addr)(c0:Nat)(l0:List Int)(r:List Int)(w:World)(hr0:Kd.C (Kd.int .i64) w A0 l0.length l0)(hc0:l0.length<=c0)(h:gJ.f k l0=some r) :
  Calls Tryz.prog 201 #[.slice A0 l0.length c0] w λe w'=>∃v0_:Value,e=.returned (v0_)/\Kd.R (Kd.int .i64) 3 w' w.heap.size (λ_=>True) v0_ r/\Below w.heap.size w w':=by
 have HR0:=ae.mk hr0;have HC0:=ae.mk hc0;clear hr0 hc0;have HB:=ae.mk (Below.refl w.heap.size w);have H:(gJ.l0 k l0 (([]:List Int)) 1)=some r:=h;clear h
 obtain ⟨y353,hy353⟩:∃y_:List Int,y_=(([]:List Int)):=⟨_,rfl⟩
 replace H:(gJ.l0 k l0 y353 1)=some r:=by first|(rw[hy353];with_reducible exact H)|(have H2_:=(Option.bind_some _ _).symm.trans H;rw[hy353];with_reducible exact H2_)|(have H2_:=(Option.bind_some _ _).symm.trans H;with_reducible exact H2_)|with_reducible exact H|(rw[hy353];exact H)|exact H
 have Ny353:=ae.mk hy353;clear hy353;have H':=ae.mk H;clear H;go_enter Tryz.func201,Tryz.ntmps201
 go_wp2_with (first|((with_reducible refine qE (N:=5) rfl ?_);refine Kd.R_lit (Kd.int .i64) _ 3 ?hg (N:=5) ?hd (xs:=([]:List Int)) (inner:=[]) (ok:=λ_=>True) (okp:=λ_=>True) ?hr ?hp (λ_ hk=>hk) trivial (Below.refl _ _) (Nat.le_refl _) (by simp) ?_;(case hd=>rfl);(case hg=>rfl);(case hr=>first|(go_simp;done)|(go_simp;rfl));(case hp=>exact (bG.none _ _));intro v354 w2 ho3 hb hg_ hnew_;clear hg_ hnew_;(first|rw[<- Ny353.out]at ho3|(simp only[Int.reduceToNat]at ho3;rw[<- Ny353.out]at ho3));have ak:=ae.mk (Kd.R_lower ho3 (ay (by repeat (first|(with_reducible first|exact HB.out|apply aG|apply dD|apply dw)|exact HB.out))));have n1_:=ae.mk (aj (by repeat (first|(with_reducible first|exact HB.out|apply aG|apply dD|apply dw)|exact HB.out)) hb);clear HB;have HO355:=ak;have HB:=n1_;clear ak n1_;clear hb ho3)|((with_reducible refine qE (N:=4) rfl ?_);refine tu ?hg (N:=4) ?hd (cs:=#[.int .i64 0]) (t:=3) ?hr ?_;(case hd=>rfl);(case hg=>rfl);(case hr=>first|(go_simp;done)|(go_simp;rfl));intro gb356 hg w4 hbox hb;have ak:=ae.mk (Kd.R_below (Kd.R_elderB (by (with_reducible repeat (first|apply Kd.R_alloc|apply Kd.R_drewN|apply Kd.R_drew));exact HO355.out) gb356 (Nat.le_of_eq hg.symm)) hb);have n1_:=ae.mk (aj (by repeat (first|(with_reducible first|exact HB.out|apply aG|apply dD|apply dw)|exact HB.out)) hb);have n2_:=ae.mk (hbox);have n3_:=ae.mk ((by rw[hg];exact (ay (by repeat (first|(with_reducible first|exact HB.out|apply aG|apply dD|apply dw)|exact HB.out))):w.heap.size<=gb356));have n4_:=ae.mk ((by rw[hg];exact (ay (by repeat (first|(with_reducible first|exact HB.out|apply aG|apply dD|apply dw)|exact HB.out))):w.heap.size<=gb356));clear HO355;clear HB;have HO355:=ak;have HB:=n1_;have BK356:=n2_;have GW356:=n3_;have GE356:=n4_;clear ak n1_ n2_ n3_ n4_;clear hb hbox hg;have hcz5_0:w4.cell? ⟨gb356,0,none⟩=some (.int .i64 0):=(ah BK356.out 0).trans rfl;have hfz5_0:=au BK356.out 0))
 go_loopg [3,4] k (λkq v3 v4 w'=>∃ (x3_1:List Int) (gb356:Nat) (x4_1:Int),v4=.pointer (some ⟨gb356,0,none⟩)/\ae (gJ.l0 kq l0 x3_1 x4_1=some r)/\ae (kq<=k)/\ae (Kd.R (Kd.int .i64) 3 w' w.heap.size (λk_=>k_≠gb356) v3 x3_1)/\ae (w'.heap[gb356]?=some (.cells #[.int .i64 x4_1] 3 (0,0)))/\ae (w.heap.size<=gb356)/\ae (Below w.heap.size w w'))
 case atStart=>exact ⟨(y353),gb356,1,rfl,H',⟨Nat.le_refl _⟩,⟨by (with_reducible repeat (first|apply Kd.R_alloc|apply Kd.R_drewN|apply Kd.R_drew));exact Kd.R_mono (Kd.R_far (p:=⟨gb356,0,none⟩) (Kd.R_mono HO355.out (λk_ hk=>(⟨hk,hk.2⟩:_/\k_≠gb356))) (λ_ hk=>hk.2) (.int .i64 1)) (λ_ hk=>hk.1.2)⟩,⟨by (with_reducible repeat (first|refine di ?_ _|refine bS ?_|refine bq ?_ _));refine dV (cs:=#[.int .i64 0]) ?_ 0 _ rfl;(with_reducible repeat (first|refine di ?_ _|refine bS ?_|refine bq ?_ _));exact BK356.out⟩,⟨GE356.out⟩,⟨by repeat (first|(with_reducible first|exact HB.out|apply aG|apply dD|apply dw|refine bf ?_ GE356.out)|exact HB.out)⟩⟩
 case round =>
  clear H';try clear p2;try clear hcz5_0;try clear hfz5_0
  obtain ⟨x3_1,gb356,x4_1,rfl,HA,HK1,HO_3,BK356,GE356,HB⟩:=hrel
  cases gk with
  | zero=>exact absurd HA.out (by simp[gJ.l0])
  | succ k1 =>
   have H:=HA.out;clear HA;simp only[gJ.l0]at H
   by_cases c6:x4_1<(l0.length:Int)
   ·
    rw[if_pos c6]at H;have c6b0:decide (x4_1<(l0.length:Int))=true:=decide_eq_true c6;clear c6;replace H:=Option.bind_eq_some_iff.mp H;obtain ⟨t357,A70,H⟩:=H;replace H:(if t357=x4_1 then (if x3_1.length<17592186044416 then (gJ.l0 k1 l0 (x3_1++[x4_1]) (wrap64 (x4_1+1)))else (none))else (gJ.l0 k1 l0 x3_1 (wrap64 (x4_1+1))))=some r:=H;have A7:=ae.mk A70;clear A70
    by_cases c8:t357=x4_1
    ·
     rw[if_pos c8]at H;have c8b0:(t357 == x4_1)=true:=beq_iff_eq.mpr c8;have c8b1:(t357 != x4_1)=false:=bne_eq_false_iff_eq.mpr c8;clear c8
     by_cases c9:x3_1.length<17592186044416
     ·
      rw[if_pos c9]at H;have LMc9:=ae.mk c9;clear c9
      obtain ⟨y358,hy358⟩:∃y_:List Int,y_=(x3_1++[x4_1]):=⟨_,rfl⟩
      replace H:(gJ.l0 k1 l0 y358 (wrap64 (x4_1+1)))=some r:=by first|(rw[hy358];with_reducible exact H)|(have H2_:=(Option.bind_some _ _).symm.trans H;rw[hy358];with_reducible exact H2_)|(have H2_:=(Option.bind_some _ _).symm.trans H;with_reducible exact H2_)|with_reducible exact H|(rw[hy358];exact H)|exact H
      have Ny358:=ae.mk hy358;clear hy358;have H':=ae.mk H;clear H;have hcz10_0:wr.cell? ⟨gb356,0,none⟩=some (.int .i64 x4_1):=(ah BK356.out 0).trans rfl;have hfz10_0:=au BK356.out 0
      try go_wp2
      have ak:=ae.mk (Kd.R_drew HO_3.out);have n1_:=ae.mk (bS BK356.out);have n2_:=ae.mk (dw HB.out);clear HO_3 BK356 HB;have HO_3:=ak;have BK356:=n1_;have HB:=n2_;clear ak n1_ n2_;refine jf (n:=5) (S:=λw'=>w'.cell? ⟨gb356,0,none⟩=some (.int .i64 x4_1)) (ds:=[]) #[false,false,false,false,false] (by kernel_rfl) rfl rfl ((ah BK356.out 0).trans rfl) (λhHeld=>?_)
      generalize wr.drew=w11 at HO_3 BK356 HB hHeld ⊢
      refine l9 (i:=0) (N:=some 12) (v:=?_) (a':=?_) #[true,false,false,false,false] rfl rfl (by kernel_rfl) (λ_ _ _ h=>h) (Or.inl ⟨by rfl,?_⟩) ?_ ?_
      rotate_left
      ·
       intro w'
       go_simp
       with_reducible rfl
      rotate_left
      ·
       simp only[Act.put,List.setIfInBounds_toArray,List.set_cons_zero,List.set_cons_succ,cO,eB];rfl
      refine l9 (i:=1) (N:=some 13) (v:=?_) (a':=?_) #[true,true,false,false,false] rfl rfl (by kernel_rfl) (λ_ _ _ h=>h) (Or.inl ⟨by rfl,?_⟩) ?_ ?_
      rotate_left
      ·
       intro w'
       go_simp
       with_reducible rfl
      rotate_left
      ·
       simp only[Act.put,List.setIfInBounds_toArray,List.set_cons_zero,List.set_cons_succ,cO,eB];rfl
      refine take_ (i:=3) (N:=some 15) (v:=?_) (a':=?_) #[true,true,false,true,false] rfl rfl (by kernel_rfl) (λ_ _ _ h=>h) (Or.inl ⟨by rfl,?_⟩) hHeld ?_ ?_
      rotate_left
      ·
       intro w' s0
       go_simp
       with_reducible rfl
      rotate_left
      ·
       simp only[Act.put,List.setIfInBounds_toArray,List.set_cons_zero,List.set_cons_succ,cO,eB];rfl
      refine sP (i:=2) (N:=some 14) #[true,true,true,true,false] rfl rfl (by kernel_rfl) (by decide) (λK hK=>?_)
      refine gq Tryz.func172 (by kernel_rfl) rfl #[.slice A0 l0.length c0,.func (.func 233) #[] #[.pointer (some ⟨gb356,0,none⟩)]] (by rfl) rfl rfl (by (try simp only[List.map_toArray,List.map_cons,List.map_nil]);first|done|rfl|(simp only[List.length_drop,List.length_take];rfl)) ?_
      with_reducible refine (ol.calls _ _ l0 gb356 x4_1 t357 _ ?side1 ?side2 ?side3 A7.out).mono ?_
      (case side1=>repeat (first|exact (Kd.C_below HR0.out HB.out)|(with_reducible refine Kd.C_alloc ?_ _)|(with_reducible refine Kd.C_drewN ?_ _)|(with_reducible refine Kd.C_drew ?_)))
      (case side2=>exact HC0.out)
      (case side3=>(with_reducible repeat (first|refine di ?_ _|refine bS ?_|refine bq ?_ _));exact BK356.out)
      rintro e w' ⟨rfl,⟨nd,rfl⟩⟩;refine ⟨_,rfl,?_⟩;refine hK.out _ _ ((ah BK356.out 0).trans rfl) (λhHeld=>?_);clear hK K
      refine ll (a':=?_) ?_ ?_
      rotate_left
      ·
       show Act.put _ (some 14) _=_;simp only[Act.put,List.setIfInBounds_toArray,List.set_cons_zero,List.set_cons_succ,cO,eB];rfl
      refine l9 (i:=4) (N:=some 16) (v:=?_) (a':=?_) #[true,true,true,true,true] rfl rfl (by kernel_rfl) (λ_ _ _ h=>h) (Or.inl ⟨by rfl,?_⟩) ?_ ?_
      rotate_left
      ·
       intro w'
       go_simp
       with_reducible rfl
      rotate_left
      ·
       simp only[Act.put,List.setIfInBounds_toArray,List.set_cons_zero,List.set_cons_succ,cO,eB];rfl
      refine iQ (by kernel_rfl) ?_
      have hcz12_0:w11.cell? ⟨gb356,0,none⟩=some (.int .i64 x4_1):=(ah BK356.out 0).trans rfl;have hfz12_0:=au BK356.out 0
      try go_wp2_with (first|((with_reducible refine dE (b:=.append) (xs:=#[.tmp 17,.tmp 19]) rfl ?_);at_builtin;refine Kd.R_append (Kd.int .i64) (w0:=w) w.heap.size rfl (.tmp 17) (.tmp 19) 22 3 (.int .i64 0) 8 rfl Tryz.underlying22 mq rfl (by decide) (by omega) u3 x3_1 x4_1 [.int .i64 x4_1] (λk_=>k_≠gb356) (λ_=>False) rfl rfl ?aP (λ_ hk=>hk.elim) ?aF ?aO ?aB ?aS ?aL ?_;(case aP=>exact rfl);(case aB=>exact (by repeat (first|(with_reducible first|exact HB.out|apply aG|apply dD|apply dw|refine bf ?_ GE356.out)|exact HB.out)));(case aF=>exact (λk_ hk=>Kd.freshB (g:=gb356) (o:=.cells #[.int .i64 x4_1] 3 (0,0)) (by (with_reducible repeat (first|refine di ?_ _|refine bS ?_|refine bq ?_ _));exact BK356.out) k_ hk));(case aO=>exact (by (with_reducible repeat (first|apply Kd.R_alloc|apply Kd.R_drewN|apply Kd.R_drew));exact HO_3.out));(case aS=>exact (ay (by repeat (first|(with_reducible first|exact HB.out|apply aG|apply dD|apply dw|refine bf ?_ GE356.out)|exact HB.out))));(case aL=>have:=LMc9.out;omega);intro v359 w13 ho hb hg hat;rw[<- Ny358.out]at ho;have ak:=ae.mk (iM (g:=gb356) (o:=.cells #[.int .i64 x4_1] 3 (0,0)) (by (with_reducible repeat (first|refine di ?_ _|refine bS ?_|refine bq ?_ _));exact BK356.out) hg (Kd.R_away HO_3.out (λ_ hk=>hk)));have n1_:=ae.mk (hb);have n2_:=ae.mk (ho);clear BK356;clear HB;clear HO_3;have BK356:=ak;have HB:=n1_;have HO360:=n2_;clear ak n1_ n2_;clear ho hb hg hat;have hcz14_0:w13.cell? ⟨gb356,0,none⟩=some (.int .i64 x4_1):=(ah BK356.out 0).trans rfl;have hfz14_0:=au BK356.out 0)|((with_reducible refine qE (N:=4) rfl ?_);refine tu ?hg (N:=4) ?hd (cs:=#[.int .i64 0]) (t:=3) ?hr ?_;(case hd=>rfl);(case hg=>rfl);(case hr=>first|(go_simp;done)|(go_simp;rfl));intro gb361 hg w15 hbox hb;have ak:=ae.mk (Kd.R_below (Kd.R_elderB (by (with_reducible repeat (first|apply Kd.R_alloc|apply Kd.R_drewN|apply Kd.R_drew));exact HO360.out) gb361 (Nat.le_of_eq hg.symm)) hb);have n1_:=ae.mk (aI (g:=gb356) (o:=.cells #[.int .i64 x4_1] 3 (0,0)) (by (with_reducible repeat (first|refine di ?_ _|refine bS ?_|refine bq ?_ _));exact BK356.out) hb);have n2_:=ae.mk (aj (by repeat (first|(with_reducible first|exact HB.out|apply aG|apply dD|apply dw|refine bf ?_ GE356.out)|exact HB.out)) hb);have n3_:=ae.mk (hbox);have n4_:=ae.mk ((by rw[hg];exact (ay (by repeat (first|(with_reducible first|exact HB.out|apply aG|apply dD|apply dw|refine bf ?_ GE356.out)|exact HB.out))):w.heap.size<=gb361));have n5_:=ae.mk ((by rw[hg];exact (ay (by repeat (first|(with_reducible first|exact HB.out|apply aG|apply dD|apply dw|refine bf ?_ GE356.out)|exact HB.out))):w.heap.size<=gb361));have n6_:=ae.mk ((by rw[hg];exact Nat.ne_of_lt (dC (g:=gb356) (o:=.cells #[.int .i64 x4_1] 3 (0,0)) (by (with_reducible repeat (first|refine di ?_ _|refine bS ?_|refine bq ?_ _));exact BK356.out)):gb356≠gb361));have n7_:=ae.mk ((by rw[hg];exact Nat.ne_of_gt (dC (g:=gb356) (o:=.cells #[.int .i64 x4_1] 3 (0,0)) (by (with_reducible repeat (first|refine di ?_ _|refine bS ?_|refine bq ?_ _));exact BK356.out)):gb361≠gb356));clear HO360;clear BK356;clear HB;have HO360:=ak;have BK356:=n1_;have HB:=n2_;have BK361:=n3_;have GW361:=n4_;have GE361:=n5_;have NB356_361:=n6_;have NB361_356:=n7_;clear ak n1_ n2_ n3_ n4_ n5_ n6_ n7_;clear hb hbox hg;have hnb16:=NB361_356.out;have hnc16:=NB356_361.out;have hcz17_0:w15.cell? ⟨gb361,0,none⟩=some (.int .i64 0):=(ah BK361.out 0).trans rfl;have hfz17_0:=au BK361.out 0))
      go_roundg k1
      case measure=>have:=HK1.out;omega
      case rel=>exact ⟨(y358),gb361,(wrap64 (x4_1+1)),rfl,H',⟨by have:=HK1.out;omega⟩,⟨by (with_reducible repeat (first|apply Kd.R_alloc|apply Kd.R_drewN|apply Kd.R_drew));exact Kd.R_mono (Kd.R_far (p:=⟨gb361,0,none⟩) (Kd.R_far (p:=⟨gb361,0,none⟩) (Kd.R_mono HO360.out (λk_ hk=>(⟨hk,hk.2⟩:_/\k_≠gb361))) (λ_ hk=>hk.2) (.int .i64 x4_1)) (λ_ hk=>hk.2) (.int .i64 (wrap64 (x4_1+1)))) (λ_ hk=>hk.2)⟩,⟨by (with_reducible repeat (first|refine di ?_ _|refine bS ?_|refine bq ?_ _));refine dV (cs:=#[.int .i64 x4_1]) ?_ 0 _ rfl;(with_reducible repeat (first|refine di ?_ _|refine bS ?_|refine bq ?_ _));refine dV (cs:=#[.int .i64 0]) ?_ 0 _ rfl;(with_reducible repeat (first|refine di ?_ _|refine bS ?_|refine bq ?_ _));exact BK361.out⟩,⟨GE361.out⟩,⟨by repeat (first|(with_reducible first|exact HB.out|apply aG|apply dD|apply dw|refine bf ?_ GE356.out|refine bf ?_ GE361.out)|exact HB.out)⟩⟩
     ·
      rw[if_neg c9]at H;exact absurd H (by simp)
    ·
     rw[if_neg c8]at H;have c8b0:(t357 == x4_1)=false:=beq_eq_false_iff_ne.mpr c8;have c8b1:(t357 != x4_1)=true:=bne_iff_ne.mpr c8;have H':=ae.mk H;clear H;have hcz18_0:wr.cell? ⟨gb356,0,none⟩=some (.int .i64 x4_1):=(ah BK356.out 0).trans rfl;have hfz18_0:=au BK356.out 0
     try go_wp2
     have ak:=ae.mk (Kd.R_drew HO_3.out);have n1_:=ae.mk (bS BK356.out);have n2_:=ae.mk (dw HB.out);clear HO_3 BK356 HB;have HO_3:=ak;have BK356:=n1_;have HB:=n2_;clear ak n1_ n2_;refine jf (n:=5) (S:=λw'=>w'.cell? ⟨gb356,0,none⟩=some (.int .i64 x4_1)) (ds:=[]) #[false,false,false,false,false] (by kernel_rfl) rfl rfl ((ah BK356.out 0).trans rfl) (λhHeld=>?_)
     generalize wr.drew=w19 at HO_3 BK356 HB hHeld ⊢
     refine l9 (i:=0) (N:=some 12) (v:=?_) (a':=?_) #[true,false,false,false,false] rfl rfl (by kernel_rfl) (λ_ _ _ h=>h) (Or.inl ⟨by rfl,?_⟩) ?_ ?_
     rotate_left
     ·
      intro w'
      go_simp
      with_reducible rfl
     rotate_left
     ·
      simp only[Act.put,List.setIfInBounds_toArray,List.set_cons_zero,List.set_cons_succ,cO,eB];rfl
     refine l9 (i:=1) (N:=some 13) (v:=?_) (a':=?_) #[true,true,false,false,false] rfl rfl (by kernel_rfl) (λ_ _ _ h=>h) (Or.inl ⟨by rfl,?_⟩) ?_ ?_
     rotate_left
     ·
      intro w'
      go_simp
      with_reducible rfl
     rotate_left
     ·
      simp only[Act.put,List.setIfInBounds_toArray,List.set_cons_zero,List.set_cons_succ,cO,eB];rfl
     refine take_ (i:=3) (N:=some 15) (v:=?_) (a':=?_) #[true,true,false,true,false] rfl rfl (by kernel_rfl) (λ_ _ _ h=>h) (Or.inl ⟨by rfl,?_⟩) hHeld ?_ ?_
     rotate_left
     ·
      intro w' s0
      go_simp
      with_reducible rfl
     rotate_left
     ·
      simp only[Act.put,List.setIfInBounds_toArray,List.set_cons_zero,List.set_cons_succ,cO,eB];rfl
     refine sP (i:=2) (N:=some 14) #[true,true,true,true,false] rfl rfl (by kernel_rfl) (by decide) (λK hK=>?_)
     refine gq Tryz.func172 (by kernel_rfl) rfl #[.slice A0 l0.length c0,.func (.func 233) #[] #[.pointer (some ⟨gb356,0,none⟩)]] (by rfl) rfl rfl (by (try simp only[List.map_toArray,List.map_cons,List.map_nil]);first|done|rfl|(simp only[List.length_drop,List.length_take];rfl)) ?_
     with_reducible refine (ol.calls _ _ l0 gb356 x4_1 t357 _ ?side1 ?side2 ?side3 A7.out).mono ?_
     (case side1=>repeat (first|exact (Kd.C_below HR0.out HB.out)|(with_reducible refine Kd.C_alloc ?_ _)|(with_reducible refine Kd.C_drewN ?_ _)|(with_reducible refine Kd.C_drew ?_)))
     (case side2=>exact HC0.out)
     (case side3=>(with_reducible repeat (first|refine di ?_ _|refine bS ?_|refine bq ?_ _));exact BK356.out)
     rintro e w' ⟨rfl,⟨nd,rfl⟩⟩;refine ⟨_,rfl,?_⟩;refine hK.out _ _ ((ah BK356.out 0).trans rfl) (λhHeld=>?_);clear hK K
     refine ll (a':=?_) ?_ ?_
     rotate_left
     ·
      show Act.put _ (some 14) _=_;simp only[Act.put,List.setIfInBounds_toArray,List.set_cons_zero,List.set_cons_succ,cO,eB];rfl
     refine l9 (i:=4) (N:=some 16) (v:=?_) (a':=?_) #[true,true,true,true,true] rfl rfl (by kernel_rfl) (λ_ _ _ h=>h) (Or.inl ⟨by rfl,?_⟩) ?_ ?_
     rotate_left
     ·
      intro w'
      go_simp
      with_reducible rfl
     rotate_left
     ·
      simp only[Act.put,List.setIfInBounds_toArray,List.set_cons_zero,List.set_cons_succ,cO,eB];rfl
     refine iQ (by kernel_rfl) ?_
     have hcz20_0:w19.cell? ⟨gb356,0,none⟩=some (.int .i64 x4_1):=(ah BK356.out 0).trans rfl;have hfz20_0:=au BK356.out 0
     try go_wp2_with (first|((with_reducible refine qE (N:=4) rfl ?_);refine tu ?hg (N:=4) ?hd (cs:=#[.int .i64 0]) (t:=3) ?hr ?_;(case hd=>rfl);(case hg=>rfl);(case hr=>first|(go_simp;done)|(go_simp;rfl));intro gb362 hg w21 hbox hb;have ak:=ae.mk (Kd.R_below (Kd.R_elderB (by (with_reducible repeat (first|apply Kd.R_alloc|apply Kd.R_drewN|apply Kd.R_drew));exact HO_3.out) gb362 (Nat.le_of_eq hg.symm)) hb);have n1_:=ae.mk (aI (g:=gb356) (o:=.cells #[.int .i64 x4_1] 3 (0,0)) (by (with_reducible repeat (first|refine di ?_ _|refine bS ?_|refine bq ?_ _));exact BK356.out) hb);have n2_:=ae.mk (aj (by repeat (first|(with_reducible first|exact HB.out|apply aG|apply dD|apply dw|refine bf ?_ GE356.out)|exact HB.out)) hb);have n3_:=ae.mk (hbox);have n4_:=ae.mk ((by rw[hg];exact (ay (by repeat (first|(with_reducible first|exact HB.out|apply aG|apply dD|apply dw|refine bf ?_ GE356.out)|exact HB.out))):w.heap.size<=gb362));have n5_:=ae.mk ((by rw[hg];exact (ay (by repeat (first|(with_reducible first|exact HB.out|apply aG|apply dD|apply dw|refine bf ?_ GE356.out)|exact HB.out))):w.heap.size<=gb362));have n6_:=ae.mk ((by rw[hg];exact Nat.ne_of_lt (dC (g:=gb356) (o:=.cells #[.int .i64 x4_1] 3 (0,0)) (by (with_reducible repeat (first|refine di ?_ _|refine bS ?_|refine bq ?_ _));exact BK356.out)):gb356≠gb362));have n7_:=ae.mk ((by rw[hg];exact Nat.ne_of_gt (dC (g:=gb356) (o:=.cells #[.int .i64 x4_1] 3 (0,0)) (by (with_reducible repeat (first|refine di ?_ _|refine bS ?_|refine bq ?_ _));exact BK356.out)):gb362≠gb356));clear HO_3;clear BK356;clear HB;have HO_3:=ak;have BK356:=n1_;have HB:=n2_;have BK362:=n3_;have GW362:=n4_;have GE362:=n5_;have NB356_362:=n6_;have NB362_356:=n7_;clear ak n1_ n2_ n3_ n4_ n5_ n6_ n7_;clear hb hbox hg;have hnb22:=NB362_356.out;have hnc22:=NB356_362.out;have hcz23_0:w21.cell? ⟨gb362,0,none⟩=some (.int .i64 0):=(ah BK362.out 0).trans rfl;have hfz23_0:=au BK362.out 0))
     go_roundg k1
     case measure=>have:=HK1.out;omega
     case rel=>exact ⟨(x3_1),gb362,(wrap64 (x4_1+1)),rfl,H',⟨by have:=HK1.out;omega⟩,⟨by (with_reducible repeat (first|apply Kd.R_alloc|apply Kd.R_drewN|apply Kd.R_drew));exact Kd.R_mono (Kd.R_far (p:=⟨gb362,0,none⟩) (Kd.R_far (p:=⟨gb362,0,none⟩) (Kd.R_mono HO_3.out (λk_ hk=>(⟨hk,hk.2⟩:_/\k_≠gb362))) (λ_ hk=>hk.2) (.int .i64 x4_1)) (λ_ hk=>hk.2) (.int .i64 (wrap64 (x4_1+1)))) (λ_ hk=>hk.2)⟩,⟨by (with_reducible repeat (first|refine di ?_ _|refine bS ?_|refine bq ?_ _));refine dV (cs:=#[.int .i64 x4_1]) ?_ 0 _ rfl;(with_reducible repeat (first|refine di ?_ _|refine bS ?_|refine bq ?_ _));refine dV (cs:=#[.int .i64 0]) ?_ 0 _ rfl;(with_reducible repeat (first|refine di ?_ _|refine bS ?_|refine bq ?_ _));exact BK362.out⟩,⟨GE362.out⟩,⟨by repeat (first|(with_reducible first|exact HB.out|apply aG|apply dD|apply dw|refine bf ?_ GE356.out|refine bf ?_ GE362.out)|exact HB.out)⟩⟩
   ·
    rw[if_neg c6]at H;have c6b0:decide (x4_1<(l0.length:Int))=false:=decide_eq_false c6;clear c6;obtain rfl:=Option.some.inj H;have hcz24_0:wr.cell? ⟨gb356,0,none⟩=some (.int .i64 x4_1):=(ah BK356.out 0).trans rfl;have hfz24_0:=au BK356.out 0;go_wp2;go_ret;exact ⟨_,by first|rfl|(simp[ig,ic] <;> rfl)|(simp[*,ig,ic] <;> rfl),by (with_reducible repeat (first|apply Kd.R_alloc|apply Kd.R_drewN|apply Kd.R_drew));exact Kd.R_mono HO_3.out (λ_ hk=>trivial),by repeat (first|(with_reducible first|exact HB.out|apply aG|apply dD|apply dw|refine bf ?_ GE356.out)|exact HB.out)⟩
end Go.Proofs.YtjdlhefjgceabaaGreatDoor.Hand
namespace Go.Proofs
open Go.Shelf
def Tryz.laysSlH10_f241_ren:Go.Shelf.Ren:=⟨fun|10=>241|6=>219|n=>n,fun|22=>22|23=>3|25=>77|3=>3|4=>4|0=>0|n=>n,fun|n=>n⟩
theorem Tryz.laysSlH10_f241:Go.Proofs.SlLaysH.n10 Tryz.prog Tryz.laysSlH10_f241_ren:={
  mixed:=by kernel_rfl
  f6:=⟨Tryz.f219.name,by decide,Tryz.func219.trans (congrArg some (by kernel_rfl))⟩
  f10:=⟨Tryz.f241.name,by decide,Tryz.func241.trans (congrArg some (by kernel_rfl))⟩
  t0:=Tryz.underlying0
  a0:=Tryz.isAgg0
  z0:=Tryz.sizeOf0
  v0:=Tryz.zeroValue0
  t3:=Tryz.underlying3
  a3:=Tryz.isAgg3
  z3:=Tryz.sizeOf3
  v3:=Tryz.zeroValue3
  t4:=Tryz.underlying4
  a4:=Tryz.isAgg4
  z4:=Tryz.sizeOf4
  v4:=Tryz.zeroValue4
  t22:=Tryz.underlying22
  a22:=Tryz.isAgg22
  z22:=Tryz.sizeOf22
  v22:=Tryz.zeroValue22
  a23:=Tryz.isAgg3
  z23:=Tryz.sizeOf3
  t25:=Tryz.underlying77
  a25:=Tryz.isAgg77
  z25:=Tryz.sizeOf77
  v25:=Tryz.zeroValue77 }
open Go.RowKit Go.Lib Go.Sort in
theorem Tryz.slices_DeleteFunc{α:Type}[Inhabited α](enc:α->Value)(hO:OneCell enc)(p:α->Bool)(g:Nat)(lb:Array Value)(eg:∀args w,(callFunc g args).run Tryz.prog w=.ok (.enter g args) w)(zr:α)(v23:∀w,(zeroValue 3).run Tryz.prog w=.ok (enc zr) w)(blk off cap:Nat)(d:Array α)(w:World)(hp:PredAt Tryz.prog g lb enc p w)(hpo:PredOver Tryz.prog g lb enc p blk off d.size w)(hH:Holds enc w blk off d)(hsz:d.size<=9223372036854775807)(hcap:d.size<=cap) :
    Calls Tryz.prog 241 #[.slice (some ⟨blk,off,none⟩) d.size cap,.func (.func g) #[] lb] w λe w'=>e=.returned (.slice (some ⟨blk,off,none⟩) (d.toList.filter λx=>!p x).length cap)/\∃q,w'=putRow enc (Sort.ahead w q) blk off ((d.toList.filter λx=>!p x)++List.replicate (d.size - (d.toList.filter λx=>!p x).length) zr).toArray:=AnyE.slices_DeleteFunc Tryz.laysSlH10_f241 enc hO p g lb eg zr v23 blk off cap d w hp hpo hH hsz hcap
end Go.Proofs
namespace Go.Proofs.YtjdlhefjgceabaaGreatDoor.Hand
open Go.RowKit Go.Shelf Go.Maps Go.Sort YtjdlhefjgceabaaGreatDoorW.PrintWords YtjdlhefjgceabaaGreatDoorW.PrintLast YtjdlhefjgceabaaGreatDoorW.PrintMore
set_option maxRecDepth 100000
set_option maxHeartbeats 2000000
theorem Af(W:World)(x:Int):FnGives Tryz.prog 243 #[] #[.int .i64 x] (.bool (decide (x<0))) W:=by
 show Calls Tryz.prog 243 #[.int .i64 x] W _;go_enter Tryz.func243,Tryz.ntmps243;go_wp2;go_ret;exact ⟨rfl,0,rfl⟩
def qB(l:List Int):List Int:=(l.mergeSort λx y=>decide (x<=y)).filter λx=>!decide (x<0)
theorem Aw(l:List Int):(qB l).length=(l.filter λx=>decide (0<=x)).length:=by
 have h:=((List.mergeSort_perm l λx y=>decide (x<=y)).filter λx=>!decide (x<0)).length_eq;unfold qB;rw[h]
 congr 1
 refine List.filter_congr λx _=>?_
 by_cases h:x<0
 · rw[decide_eq_true h,decide_eq_false (by omega)];rfl
 · rw[decide_eq_false h,decide_eq_true (by omega)];rfl
theorem Al{w0 w:World}{v:Value}{s:List Int}(hb:Below w0.heap.size w0 w)(h:Kd.R (Kd.int .i64) 3 w w0.heap.size (λ_=>True) v s)(h0:0<s.length) :
  Calls Tryz.prog 241 #[v,.func (.func 243) #[] #[]] w λe w'=>∃v1,e=.returned v1/\Kd.R (Kd.int .i64) 3 w' w0.heap.size (λ_=>True) v1 (s.filter λx=>!decide (x<0))/\Below w0.heap.size w0 w':=by
 have hw:=Kd.own_of_R h;obtain ⟨g,cap,rfl,hg0,hg1,cells,hg2⟩:=Kd.R_form h h0;obtain ⟨g',cap',e,hbs,hlt,hn,hm,hl,hH⟩:=Lib.holds_of_ownsRow (enc:=Value.int .i64) hw (by intro e;cases e)
 injection e with e1 _ e3
 injection e1 with e1
 injection e1 with e1
 subst e1 e3
 have hs:s.toArray.size=s.length:=by simp
 have hc:=Tryz.slices_DeleteFunc (Value.int .i64) (λ_=>rfl) (λx=>decide (x<0)) 243 #[] (enters_of Tryz.func243 (by kernel_rfl) rfl) 0 Tryz.zeroValue3 g 0 cap s.toArray w (λW x _=>Af W x) (λn os dk x _=>Af _ x) hH (by rw[hs];unfold maxLen at hm;omega) (by rw[hs];exact hn);rw[hs]at hc
 refine hc.mono ?_
 rintro e w' ⟨rfl,q,rfl⟩;have hle:=List.length_filter_le (λx=>!decide (x<0)) s;have ho:=Lib.ownsRow_putRow (enc:=Value.int .i64) (q:=q) (ys:=(s.filter λx=>!decide (x<0))++List.replicate (s.length - (s.filter λx=>!decide (x<0)).length) 0) hw (by rw[List.length_append,List.length_replicate];omega) hle;rw[List.take_left']at ho
 · exact ⟨_,rfl,Kd.R_of_own ho (λ_ _=>trivial),Lib.below_putRow hb hbs⟩
 · rfl
def nJ.f(l0_0:List Int):Option (List Int):=if 0<l0_0.length/\l0_0.length<=1000 then some (qB l0_0)else none
theorem nJ.calls(A0_0:Option Addr)(c0_0:Nat)(l0_0:List Int)(r:List Int)(w:World)(hr0_0:Kd.C (Kd.int .i64) w A0_0 l0_0.length l0_0)(hc0_0:l0_0.length<=c0_0)(h:nJ.f l0_0=some r) :
  Calls Tryz.prog 217 #[.agg #[.slice A0_0 l0_0.length c0_0]] w λe w'=>∃v0_:Value,e=.returned (v0_)/\Kd.R (Kd.int .i64) 3 w' w.heap.size (λ_=>True) v0_ r/\Below w.heap.size w w':=by
 unfold nJ.f at h
 split at h
 case isFalse=>cases h
 case isTrue hl =>
 obtain rfl:=Option.some.inj h;have hu:=Tryz.underlying34;have b1:=aG (Below.refl w.heap.size w) (.cells #[.slice A0_0 l0_0.length c0_0] 34);have HS:=ae.mk (pG.calls A0_0 c0_0 l0_0 _ (w.alloc (.cells #[.slice A0_0 l0_0.length c0_0] 34)) (Kd.C_below hr0_0 b1) hc0_0 (by unfold pG.f;rw[if_pos (by omega)]));have HD:=ae.mk λ(w0 w:World) (v:Value)=>@Al w0 w v (l0_0.mergeSort λx y=>decide (x<=y));have HB:=ae.mk b1;have HZ:=ae.mk (show 0<(l0_0.mergeSort λx y=>decide (x<=y)).length by rw[List.length_mergeSort];exact hl.1);clear hr0_0 hc0_0 hl h b1;go_enter Tryz.func217,Tryz.ntmps217
 go_wp2_with (first
  | (go_at_call 242;go_loud (refine HS.out.mono ?_;rintro e w1 ⟨v,rfl,hv,hb⟩;have HV:=ae.mk (Kd.R_lower hv (ay HB.out));have HB1:=ae.mk (aj HB.out hb);clear hv hb))
  | (go_at_call 241;go_loud (refine (HD.out w _ _ HB1.out HV.out HZ.out).mono ?_;rintro e w2 ⟨v1,rfl,hv,hb⟩;have HV1:=ae.mk hv;have HB2:=ae.mk hb;clear hv hb)))
 go_ret;exact ⟨v1,rfl,HV1.out,HB2.out⟩
end Go.Proofs.YtjdlhefjgceabaaGreatDoor.Hand
namespace Go.Proofs
open Go.Shelf
def Tryz.lays156_ren:Go.Shelf.Ren:=⟨fun|156=>99|165=>168|166=>169|169=>170|240=>221|241=>222|276=>248|277=>249|n=>n,fun|31=>28|9=>9|3=>3|4=>4|0=>0|20=>20|72=>140|76=>144|70=>138|37=>49|75=>143|127=>163|164=>180|5=>5|80=>78|n=>n,fun|n=>n⟩
theorem Tryz.lays156:Go.Proofs.Lays.n156 Tryz.prog Tryz.lays156_ren:={
  mixed:=by kernel_rfl
  f156:=Tryz.func99.trans (congrArg some (by kernel_rfl))
  f165:=Tryz.func168.trans (congrArg some (by kernel_rfl))
  f166:=Tryz.func169.trans (congrArg some (by kernel_rfl))
  f169:=Tryz.func170.trans (congrArg some (by kernel_rfl))
  f240:=Tryz.func221.trans (congrArg some (by kernel_rfl))
  f241:=Tryz.func222.trans (congrArg some (by kernel_rfl))
  f276:=Tryz.func248.trans (congrArg some (by kernel_rfl))
  f277:=Tryz.func249.trans (congrArg some (by kernel_rfl))
  t0:=Tryz.underlying0
  a0:=Tryz.isAgg0
  z0:=Tryz.sizeOf0
  v0:=Tryz.zeroValue0
  t3:=Tryz.underlying3
  a3:=Tryz.isAgg3
  z3:=Tryz.sizeOf3
  v3:=Tryz.zeroValue3
  t4:=Tryz.underlying4
  a4:=Tryz.isAgg4
  z4:=Tryz.sizeOf4
  v4:=Tryz.zeroValue4
  t9:=Tryz.underlying9
  a9:=Tryz.isAgg9
  z9:=Tryz.sizeOf9
  v9:=Tryz.zeroValue9
  t20:=Tryz.underlying20
  a20:=Tryz.isAgg20
  z20:=Tryz.sizeOf20
  v20:=Tryz.zeroValue20
  t31:=Tryz.underlying28
  a31:=Tryz.isAgg28
  z31:=Tryz.sizeOf28
  v31:=Tryz.zeroValue28
  t37:=Tryz.underlying49
  a37:=Tryz.isAgg49
  z37:=Tryz.sizeOf49
  v37:=Tryz.zeroValue49
  t70:=Tryz.underlying138
  a70:=Tryz.isAgg138
  z70:=Tryz.sizeOf138
  v70:=Tryz.zeroValue138
  t72:=Tryz.underlying140
  a72:=Tryz.isAgg140
  z72:=Tryz.sizeOf140
  v72:=Tryz.zeroValue140
  t75:=Tryz.underlying143
  a75:=Tryz.isAgg143
  z75:=Tryz.sizeOf143
  v75:=Tryz.zeroValue143
  t76:=Tryz.underlying144
  a76:=Tryz.isAgg144
  z76:=Tryz.sizeOf144
  v76:=Tryz.zeroValue144
  t127:=Tryz.underlying163
  a127:=Tryz.isAgg163
  z127:=Tryz.sizeOf163
  v127:=Tryz.zeroValue163
  t164:=Tryz.underlying180
  a164:=Tryz.isAgg180
  z164:=Tryz.sizeOf180
  v164:=Tryz.zeroValue180 }
theorem Tryz.Builder_Extra_156:Builder.Extra Tryz.prog Tryz.lays156_ren:={
  sizeBuilder:=by kernel_rfl
  liesBuilder:=by kernel_rfl
  t5:=Tryz.underlying5
  a5:=Tryz.isAgg5
  z5:=Tryz.sizeOf5
  v5:=Tryz.zeroValue5
  infoByte:=by kernel_rfl
  cellsByte:=by kernel_rfl
  sizeByte:=by kernel_rfl
  neB5:=by decide }
open Go.RowKit in
theorem Tryz.strings_Join_none(a:Option Addr)(c:Nat)(sep:ByteArray)(w:World) :
    Calls Tryz.prog 99 #[.slice a 0 c,.string sep] w λe w'=>e=.returned (.string ⟨#[]⟩)/\w'=w:=Any.strings_Join_none Tryz.lays156 Tryz.Builder_Extra_156 a c sep w
open Go.RowKit in
theorem Tryz.strings_Join(bk o c:Nat)(xs:List ByteArray)(sep:ByteArray)(w:World)(hcells:∀ (j:Nat) x,xs[j]?=some x->w.cell? ⟨bk,o+j,none⟩=some (.string x))(hbk:bk<w.heap.size)(hN:xs.length<=140737488355328)(hcap:xs.length<=c)(hlen:(Lib.join (xs.map (·.data.toList)) sep.data.toList).length<=140737488355328) :
    Calls Tryz.prog 99 #[.slice (some ⟨bk,o,none⟩) xs.length c,.string sep] w λe w'=>e=.returned (.string ⟨(Lib.join (xs.map (·.data.toList)) sep.data.toList).toArray⟩)/\Below w.heap.size w w':=Any.strings_Join Tryz.lays156 Tryz.Builder_Extra_156 bk o c xs sep w hcells hbk hN hcap hlen
def Tryz.laysM171_ren:Go.Shelf.Ren:=⟨fun|171=>98|243=>167|246=>220|283=>244|284=>245|285=>246|286=>247|129=>261|317=>260|318=>262|319=>263|320=>264|337=>271|338=>272|n=>n,fun|3=>3|9=>9|2=>2|4=>4|171=>175|0=>0|53=>74|37=>49|5=>5|173=>178|212=>194|51=>164|20=>20|213=>195|46=>148|232=>213|233=>214|n=>n,fun|17=>1|18=>6|19=>7|n=>n⟩
theorem Tryz.laysM171:Go.Proofs.LaysM.n171 Tryz.prog Tryz.laysM171_ren:={
  mixed:=by kernel_rfl
  f129:=Tryz.func261.trans (congrArg some (by kernel_rfl))
  f171:=Tryz.func98.trans (congrArg some (by kernel_rfl))
  f243:=Tryz.func167.trans (congrArg some (by kernel_rfl))
  f246:=Tryz.func220.trans (congrArg some (by kernel_rfl))
  f283:=Tryz.func244.trans (congrArg some (by kernel_rfl))
  f284:=Tryz.func245.trans (congrArg some (by kernel_rfl))
  f285:=Tryz.func246.trans (congrArg some (by kernel_rfl))
  f286:=Tryz.func247.trans (congrArg some (by kernel_rfl))
  f317:=Tryz.func260.trans (congrArg some (by kernel_rfl))
  f318:=Tryz.func262.trans (congrArg some (by kernel_rfl))
  f319:=Tryz.func263.trans (congrArg some (by kernel_rfl))
  f320:=Tryz.func264.trans (congrArg some (by kernel_rfl))
  f337:=Tryz.func271.trans (congrArg some (by kernel_rfl))
  f338:=Tryz.func272.trans (congrArg some (by kernel_rfl))
  t0:=Tryz.underlying0
  a0:=Tryz.isAgg0
  z0:=Tryz.sizeOf0
  v0:=Tryz.zeroValue0
  t2:=Tryz.underlying2
  a2:=Tryz.isAgg2
  z2:=Tryz.sizeOf2
  v2:=Tryz.zeroValue2
  t3:=Tryz.underlying3
  a3:=Tryz.isAgg3
  z3:=Tryz.sizeOf3
  v3:=Tryz.zeroValue3
  t4:=Tryz.underlying4
  a4:=Tryz.isAgg4
  z4:=Tryz.sizeOf4
  v4:=Tryz.zeroValue4
  t5:=Tryz.underlying5
  a5:=Tryz.isAgg5
  z5:=Tryz.sizeOf5
  v5:=Tryz.zeroValue5
  t9:=Tryz.underlying9
  a9:=Tryz.isAgg9
  z9:=Tryz.sizeOf9
  v9:=Tryz.zeroValue9
  t20:=Tryz.underlying20
  a20:=Tryz.isAgg20
  z20:=Tryz.sizeOf20
  v20:=Tryz.zeroValue20
  t37:=Tryz.underlying49
  a37:=Tryz.isAgg49
  z37:=Tryz.sizeOf49
  v37:=Tryz.zeroValue49
  t46:=Tryz.underlying148
  a46:=Tryz.isAgg148
  z46:=Tryz.sizeOf148
  v46:=Tryz.zeroValue148
  t51:=Tryz.underlying164
  a51:=Tryz.isAgg164
  z51:=Tryz.sizeOf164
  v51:=Tryz.zeroValue164
  t53:=Tryz.underlying74
  a53:=Tryz.isAgg74
  z53:=Tryz.sizeOf74
  v53:=Tryz.zeroValue74
  t171:=Tryz.underlying175
  a171:=Tryz.isAgg175
  z171:=Tryz.sizeOf175
  v171:=Tryz.zeroValue175
  t173:=Tryz.underlying178
  a173:=Tryz.isAgg178
  z173:=Tryz.sizeOf178
  v173:=Tryz.zeroValue178
  t212:=Tryz.underlying194
  a212:=Tryz.isAgg194
  z212:=Tryz.sizeOf194
  v212:=Tryz.zeroValue194
  t213:=Tryz.underlying195
  a213:=Tryz.isAgg195
  z213:=Tryz.sizeOf195
  t232:=Tryz.underlying213
  a232:=Tryz.isAgg213
  z232:=Tryz.sizeOf213
  v232:=Tryz.zeroValue213
  t233:=Tryz.underlying214
  a233:=Tryz.isAgg214
  z233:=Tryz.sizeOf214
  v233:=Tryz.zeroValue214
  g17:=by kernel_rfl
  g18:=by kernel_rfl
  g19:=by kernel_rfl
  i0:=by kernel_rfl
  i2:=by kernel_rfl
  i3:=by kernel_rfl
  i4:=by kernel_rfl
  i5:=by kernel_rfl
  i9:=by kernel_rfl
  i20:=by kernel_rfl
  i37:=by kernel_rfl
  i46:=by kernel_rfl
  i51:=by kernel_rfl
  i53:=by kernel_rfl
  i171:=by kernel_rfl
  i173:=by kernel_rfl
  i212:=by kernel_rfl
  i232:=by kernel_rfl
  i233:=by kernel_rfl
  m17:=by kernel_rfl
  m18:=by kernel_rfl
  m19:=by kernel_rfl }
open Go.RowKit Go.Sort Go.Lib in
theorem Tryz.strconv_Itoa (n:Int) (h0:-9223372036854775808<=n) (h1:n<=9223372036854775807) (w:World) (htab:Lib.TabIs Tryz.prog w "internal/strconv.uint64pow10" .u64 Lib.pow10Tab) :
    Calls Tryz.prog 98 #[.int .i64 n] w λe w'=>e=.returned (.string ⟨(Lib.itoa n).toArray⟩)/\∃k os,w'=grow (w.drewN k) os:=Any.strconv_Itoa Tryz.laysM171 n h0 h1 w htab
def Tryz.laysC172_ren:Go.Shelf.Ren:=⟨fun|172=>210|244=>238|245=>239|247=>253|279=>254|280=>255|281=>256|282=>257|287=>265|316=>266|171=>98|205=>267|321=>273|322=>274|243=>167|246=>220|283=>244|284=>245|285=>246|286=>247|129=>261|317=>260|318=>262|319=>263|320=>264|337=>271|338=>272|n=>n,fun|9=>9|3=>3|75=>143|76=>144|4=>4|5=>5|167=>183|37=>49|0=>0|85=>184|2=>2|168=>186|53=>74|175=>201|46=>148|210=>204|127=>163|145=>210|143=>208|21=>21|171=>175|173=>178|212=>194|51=>164|20=>20|213=>195|232=>213|233=>214|80=>78|n=>n,fun|15=>4|16=>5|17=>1|18=>6|19=>7|n=>n⟩
theorem Tryz.laysC172:Go.Proofs.LaysC.n172 Tryz.prog Tryz.laysC172_ren:={
  mixed:=by kernel_rfl
  f129:=Tryz.func261.trans (congrArg some (by kernel_rfl))
  f171:=Tryz.func98.trans (congrArg some (by kernel_rfl))
  f172:=Tryz.func210.trans (congrArg some (by kernel_rfl))
  f205:=Tryz.func267.trans (congrArg some (by kernel_rfl))
  f243:=Tryz.func167.trans (congrArg some (by kernel_rfl))
  f244:=Tryz.func238.trans (congrArg some (by kernel_rfl))
  f245:=Tryz.func239.trans (congrArg some (by kernel_rfl))
  f246:=Tryz.func220.trans (congrArg some (by kernel_rfl))
  f247:=Tryz.func253.trans (congrArg some (by kernel_rfl))
  f279:=Tryz.func254.trans (congrArg some (by kernel_rfl))
  f280:=Tryz.func255.trans (congrArg some (by kernel_rfl))
  f281:=Tryz.func256.trans (congrArg some (by kernel_rfl))
  f282:=Tryz.func257.trans (congrArg some (by kernel_rfl))
  f283:=Tryz.func244.trans (congrArg some (by kernel_rfl))
  f284:=Tryz.func245.trans (congrArg some (by kernel_rfl))
  f285:=Tryz.func246.trans (congrArg some (by kernel_rfl))
  f286:=Tryz.func247.trans (congrArg some (by kernel_rfl))
  f287:=Tryz.func265.trans (congrArg some (by kernel_rfl))
  f316:=Tryz.func266.trans (congrArg some (by kernel_rfl))
  f317:=Tryz.func260.trans (congrArg some (by kernel_rfl))
  f318:=Tryz.func262.trans (congrArg some (by kernel_rfl))
  f319:=Tryz.func263.trans (congrArg some (by kernel_rfl))
  f320:=Tryz.func264.trans (congrArg some (by kernel_rfl))
  f321:=Tryz.func273.trans (congrArg some (by kernel_rfl))
  f322:=Tryz.func274.trans (congrArg some (by kernel_rfl))
  f337:=Tryz.func271.trans (congrArg some (by kernel_rfl))
  f338:=Tryz.func272.trans (congrArg some (by kernel_rfl))
  t0:=Tryz.underlying0
  a0:=Tryz.isAgg0
  z0:=Tryz.sizeOf0
  v0:=Tryz.zeroValue0
  t2:=Tryz.underlying2
  a2:=Tryz.isAgg2
  z2:=Tryz.sizeOf2
  v2:=Tryz.zeroValue2
  t3:=Tryz.underlying3
  a3:=Tryz.isAgg3
  z3:=Tryz.sizeOf3
  v3:=Tryz.zeroValue3
  t4:=Tryz.underlying4
  a4:=Tryz.isAgg4
  z4:=Tryz.sizeOf4
  v4:=Tryz.zeroValue4
  t5:=Tryz.underlying5
  a5:=Tryz.isAgg5
  z5:=Tryz.sizeOf5
  v5:=Tryz.zeroValue5
  t9:=Tryz.underlying9
  a9:=Tryz.isAgg9
  z9:=Tryz.sizeOf9
  v9:=Tryz.zeroValue9
  t20:=Tryz.underlying20
  a20:=Tryz.isAgg20
  z20:=Tryz.sizeOf20
  v20:=Tryz.zeroValue20
  t21:=Tryz.underlying21
  a21:=Tryz.isAgg21
  z21:=Tryz.sizeOf21
  v21:=Tryz.zeroValue21
  t37:=Tryz.underlying49
  a37:=Tryz.isAgg49
  z37:=Tryz.sizeOf49
  v37:=Tryz.zeroValue49
  t46:=Tryz.underlying148
  a46:=Tryz.isAgg148
  z46:=Tryz.sizeOf148
  v46:=Tryz.zeroValue148
  t51:=Tryz.underlying164
  a51:=Tryz.isAgg164
  z51:=Tryz.sizeOf164
  v51:=Tryz.zeroValue164
  t53:=Tryz.underlying74
  a53:=Tryz.isAgg74
  z53:=Tryz.sizeOf74
  v53:=Tryz.zeroValue74
  t75:=Tryz.underlying143
  a75:=Tryz.isAgg143
  z75:=Tryz.sizeOf143
  v75:=Tryz.zeroValue143
  t76:=Tryz.underlying144
  a76:=Tryz.isAgg144
  z76:=Tryz.sizeOf144
  v76:=Tryz.zeroValue144
  t85:=Tryz.underlying184
  a85:=Tryz.isAgg184
  z85:=Tryz.sizeOf184
  v85:=Tryz.zeroValue184
  t127:=Tryz.underlying163
  a127:=Tryz.isAgg163
  z127:=Tryz.sizeOf163
  v127:=Tryz.zeroValue163
  t143:=Tryz.underlying208
  a143:=Tryz.isAgg208
  z143:=Tryz.sizeOf208
  v143:=Tryz.zeroValue208
  t145:=Tryz.underlying210
  a145:=Tryz.isAgg210
  z145:=Tryz.sizeOf210
  v145:=Tryz.zeroValue210
  t167:=Tryz.underlying183
  a167:=Tryz.isAgg183
  z167:=Tryz.sizeOf183
  v167:=Tryz.zeroValue183
  t168:=Tryz.underlying186
  a168:=Tryz.isAgg186
  z168:=Tryz.sizeOf186
  v168:=Tryz.zeroValue186
  t171:=Tryz.underlying175
  a171:=Tryz.isAgg175
  z171:=Tryz.sizeOf175
  v171:=Tryz.zeroValue175
  t173:=Tryz.underlying178
  a173:=Tryz.isAgg178
  z173:=Tryz.sizeOf178
  v173:=Tryz.zeroValue178
  t175:=Tryz.underlying201
  a175:=Tryz.isAgg201
  z175:=Tryz.sizeOf201
  v175:=Tryz.zeroValue201
  t210:=Tryz.underlying204
  a210:=Tryz.isAgg204
  z210:=Tryz.sizeOf204
  v210:=Tryz.zeroValue204
  t212:=Tryz.underlying194
  a212:=Tryz.isAgg194
  z212:=Tryz.sizeOf194
  v212:=Tryz.zeroValue194
  t213:=Tryz.underlying195
  a213:=Tryz.isAgg195
  z213:=Tryz.sizeOf195
  t232:=Tryz.underlying213
  a232:=Tryz.isAgg213
  z232:=Tryz.sizeOf213
  v232:=Tryz.zeroValue213
  t233:=Tryz.underlying214
  a233:=Tryz.isAgg214
  z233:=Tryz.sizeOf214
  v233:=Tryz.zeroValue214
  g15:=by kernel_rfl
  g16:=by kernel_rfl
  g17:=by kernel_rfl
  g18:=by kernel_rfl
  g19:=by kernel_rfl
  t80:=Tryz.underlying78
  a80:=Tryz.isAgg78
  z80:=Tryz.sizeOf78
  v80:=Tryz.zeroValue78
  i0:=by kernel_rfl
  i2:=by kernel_rfl
  i3:=by kernel_rfl
  i4:=by kernel_rfl
  i5:=by kernel_rfl
  i9:=by kernel_rfl
  i20:=by kernel_rfl
  i21:=by kernel_rfl
  i37:=by kernel_rfl
  i46:=by kernel_rfl
  i51:=by kernel_rfl
  i53:=by kernel_rfl
  i75:=by kernel_rfl
  i76:=by kernel_rfl
  i80:=by kernel_rfl
  i85:=by kernel_rfl
  i127:=by kernel_rfl
  i143:=by kernel_rfl
  i145:=by kernel_rfl
  i167:=by kernel_rfl
  i168:=by kernel_rfl
  i171:=by kernel_rfl
  i173:=by kernel_rfl
  i175:=by kernel_rfl
  i210:=by kernel_rfl
  i212:=by kernel_rfl
  i232:=by kernel_rfl
  i233:=by kernel_rfl
  m15:=by kernel_rfl
  m16:=by kernel_rfl
  m17:=by kernel_rfl
  m18:=by kernel_rfl
  m19:=by kernel_rfl
  c0:=by kernel_rfl
  c2:=by kernel_rfl
  c3:=by kernel_rfl
  c4:=by kernel_rfl
  c5:=by kernel_rfl
  c9:=by kernel_rfl
  c20:=by kernel_rfl
  c21:=by kernel_rfl
  c37:=by kernel_rfl
  c46:=by kernel_rfl
  c51:=by kernel_rfl
  c53:=by kernel_rfl
  c75:=by kernel_rfl
  c76:=by kernel_rfl
  c80:=by kernel_rfl
  c85:=by kernel_rfl
  c127:=by kernel_rfl
  c143:=by kernel_rfl
  c145:=by kernel_rfl
  c167:=by kernel_rfl
  c168:=by kernel_rfl
  c171:=by kernel_rfl
  c173:=by kernel_rfl
  c175:=by kernel_rfl
  c210:=by kernel_rfl
  c212:=by kernel_rfl
  c213:=by kernel_rfl
  c232:=by kernel_rfl
  c233:=by kernel_rfl }
open Go.RowKit in
theorem Tryz.strconv_Atoi_ok(s:ByteArray)(hmax:s.size<=9223372036854775806)(v:Int)(h:Lib.atoiAll s.data.toList=.ok v)(w:World) :
    Calls Tryz.prog 210 #[.string s] w λe w'=>e=.returned (.tuple #[.int .i64 v,.nilIface])/\(w'=w\/∃t,w'=Lib.bytesWorld w 5 t):=Any.strconv_Atoi_ok Tryz.laysC172 s hmax v h w
open Go.RowKit in
theorem Tryz.strconv_Atoi_syntax_var (s:ByteArray) (hlim:s.size<=281474976710656) (h:Lib.atoiAll s.data.toList=Lib.NumEnd.syntax) (tp:TypeId) (p:Value) (w:World) (hvar:w.var? Tryz.prog "strconv.ErrSyntax"=some #[.iface tp p]) :
    Calls Tryz.prog 210 #[.string s] w λe w'=>∃N,e=.returned (.tuple #[.int .i64 0,.iface 186 (.pointer (some ⟨N,0,none⟩))])/\w.heap.size<=N/\w'.heap[N]?=some (.cells #[.string ⟨#[65,116,111,105]⟩,.string s,.iface tp p] 204 (0,0))/\Below w.heap.size w w':=Any.strconv_Atoi_syntax_var Tryz.laysC172 s hlim h tp p w hvar
open Go.RowKit in
theorem Tryz.strconv_Atoi_range_var (s:ByteArray) (hlim:s.size<=281474976710656) (h:Lib.atoiAll s.data.toList=.range) (tp:TypeId) (p:Value) (w:World) (hvar:w.var? Tryz.prog "strconv.ErrRange"=some #[.iface tp p]) :
    Calls Tryz.prog 210 #[.string s] w λe w'=>∃N,e=.returned (.tuple #[.int .i64 (Lib.atoiSat s.data.toList),.iface 186 (.pointer (some ⟨N,0,none⟩))])/\w.heap.size<=N/\w'.heap[N]?=some (.cells #[.string ⟨#[65,116,111,105]⟩,.string s,.iface tp p] 204 (0,0))/\Below w.heap.size w w':=Any.strconv_Atoi_range_var Tryz.laysC172 s hlim h tp p w hvar
def Tryz.lays144_ren:Go.Shelf.Ren:=⟨fun|144=>52|143=>76|219=>138|217=>196|225=>197|224=>198|267=>199|266=>231|314=>232|n=>n,fun|9=>9|4=>4|3=>3|5=>5|46=>148|146=>165|51=>164|n=>n,fun|1=>0|n=>n⟩
theorem Tryz.lays144:Go.Proofs.Lays.n144 Tryz.prog Tryz.lays144_ren:={
  mixed:=by kernel_rfl
  f143:=Tryz.func76.trans (congrArg some (by kernel_rfl))
  f144:=Tryz.func52.trans (congrArg some (by kernel_rfl))
  f217:=Tryz.func196.trans (congrArg some (by kernel_rfl))
  f219:=Tryz.func138.trans (congrArg some (by kernel_rfl))
  f224:=Tryz.func198.trans (congrArg some (by kernel_rfl))
  f225:=Tryz.func197.trans (congrArg some (by kernel_rfl))
  f266:=Tryz.func231.trans (congrArg some (by kernel_rfl))
  f267:=Tryz.func199.trans (congrArg some (by kernel_rfl))
  f314:=Tryz.func232.trans (congrArg some (by kernel_rfl))
  t3:=Tryz.underlying3
  a3:=Tryz.isAgg3
  z3:=Tryz.sizeOf3
  v3:=Tryz.zeroValue3
  t4:=Tryz.underlying4
  a4:=Tryz.isAgg4
  z4:=Tryz.sizeOf4
  v4:=Tryz.zeroValue4
  t5:=Tryz.underlying5
  a5:=Tryz.isAgg5
  z5:=Tryz.sizeOf5
  v5:=Tryz.zeroValue5
  t9:=Tryz.underlying9
  a9:=Tryz.isAgg9
  z9:=Tryz.sizeOf9
  v9:=Tryz.zeroValue9
  t46:=Tryz.underlying148
  a46:=Tryz.isAgg148
  z46:=Tryz.sizeOf148
  v46:=Tryz.zeroValue148
  t51:=Tryz.underlying164
  a51:=Tryz.isAgg164
  z51:=Tryz.sizeOf164
  v51:=Tryz.zeroValue164
  t146:=Tryz.underlying165
  a146:=Tryz.isAgg165
  z146:=Tryz.sizeOf165
  v146:=Tryz.zeroValue165
  g1:=by kernel_rfl }
open Go.RowKit Go.Lib in
theorem Tryz.strings_Contains_one(s:ByteArray)(c:UInt8)(w:World) :
    Calls Tryz.prog 52 #[.string s,.string ⟨#[c]⟩] w λe w'=>e=.returned (.bool (decide (0<=Lib.indexByte s.data.toList c)))/\w'=w:=Any.strings_Contains_one Tryz.lays144 s c w
def Tryz.lays99_ren:Go.Shelf.Ren:=⟨fun|99=>204|206=>235|n=>n,fun|9=>9|4=>4|3=>3|n=>n,fun|n=>n⟩
theorem Tryz.lays99:Go.Proofs.Lays.n99 Tryz.prog Tryz.lays99_ren:={
  mixed:=by kernel_rfl
  f99:=Tryz.func204.trans (congrArg some (by kernel_rfl))
  f206:=Tryz.func235.trans (congrArg some (by kernel_rfl))
  t3:=Tryz.underlying3
  a3:=Tryz.isAgg3
  z3:=Tryz.sizeOf3
  v3:=Tryz.zeroValue3
  t4:=Tryz.underlying4
  a4:=Tryz.isAgg4
  z4:=Tryz.sizeOf4
  v4:=Tryz.zeroValue4
  t9:=Tryz.underlying9
  a9:=Tryz.isAgg9
  z9:=Tryz.sizeOf9
  v9:=Tryz.zeroValue9 }
open Go.RowKit Go.Lib in
theorem Tryz.strings_HasPrefix(s p:ByteArray)(w:World) :
    Calls Tryz.prog 204 #[.string s,.string p] w λe w'=>e=.returned (.bool (Lib.hasPrefix s.data.toList p.data.toList))/\w'=w:=Any.strings_HasPrefix Tryz.lays99 s p w
def Tryz.lays101_ren:Go.Shelf.Ren:=⟨fun|101=>206|208=>236|206=>235|n=>n,fun|9=>9|4=>4|3=>3|n=>n,fun|n=>n⟩
theorem Tryz.lays101:Go.Proofs.Lays.n101 Tryz.prog Tryz.lays101_ren:={
  mixed:=by kernel_rfl
  f101:=Tryz.func206.trans (congrArg some (by kernel_rfl))
  f206:=Tryz.func235.trans (congrArg some (by kernel_rfl))
  f208:=Tryz.func236.trans (congrArg some (by kernel_rfl))
  t3:=Tryz.underlying3
  a3:=Tryz.isAgg3
  z3:=Tryz.sizeOf3
  v3:=Tryz.zeroValue3
  t4:=Tryz.underlying4
  a4:=Tryz.isAgg4
  z4:=Tryz.sizeOf4
  v4:=Tryz.zeroValue4
  t9:=Tryz.underlying9
  a9:=Tryz.isAgg9
  z9:=Tryz.sizeOf9
  v9:=Tryz.zeroValue9 }
open Go.RowKit Go.Lib in
theorem Tryz.strings_TrimPrefix(s p:ByteArray)(w:World) :
    Calls Tryz.prog 206 #[.string s,.string p] w λe w'=>e=.returned (.string ⟨(Lib.trimPrefix s.data.toList p.data.toList).toArray⟩)/\w'=w:=Any.strings_TrimPrefix Tryz.lays101 s p w
def Tryz.lays102_ren:Go.Shelf.Ren:=⟨fun|102=>69|209=>109|207=>178|n=>n,fun|9=>9|4=>4|3=>3|n=>n,fun|n=>n⟩
theorem Tryz.lays102:Go.Proofs.Lays.n102 Tryz.prog Tryz.lays102_ren:={
  mixed:=by kernel_rfl
  f102:=Tryz.func69.trans (congrArg some (by kernel_rfl))
  f207:=Tryz.func178.trans (congrArg some (by kernel_rfl))
  f209:=Tryz.func109.trans (congrArg some (by kernel_rfl))
  t3:=Tryz.underlying3
  a3:=Tryz.isAgg3
  z3:=Tryz.sizeOf3
  v3:=Tryz.zeroValue3
  t4:=Tryz.underlying4
  a4:=Tryz.isAgg4
  z4:=Tryz.sizeOf4
  v4:=Tryz.zeroValue4
  t9:=Tryz.underlying9
  a9:=Tryz.isAgg9
  z9:=Tryz.sizeOf9
  v9:=Tryz.zeroValue9 }
open Go.RowKit Go.Lib in
theorem Tryz.strings_TrimSuffix(s p:ByteArray)(w:World)(hs:s.size<=9223372036854775807) :
    Calls Tryz.prog 69 #[.string s,.string p] w λe w'=>e=.returned (.string ⟨(Lib.trimSuffix s.data.toList p.data.toList).toArray⟩)/\w'=w:=Any.strings_TrimSuffix Tryz.lays102 s p w hs
def Tryz.lays221_ren:Go.Shelf.Ren:=⟨fun|221=>108|268=>176|138=>177|143=>76|195=>225|197=>226|218=>227|219=>138|260=>250|217=>196|225=>197|224=>198|267=>199|266=>231|314=>232|n=>n,fun|9=>9|3=>3|31=>28|4=>4|0=>0|105=>169|21=>21|5=>5|46=>148|119=>197|139=>200|138=>199|146=>165|51=>164|n=>n,fun|1=>0|3=>2|4=>3|n=>n⟩
theorem Tryz.lays221:Go.Proofs.Lays.n221 Tryz.prog Tryz.lays221_ren:={
  mixed:=by kernel_rfl
  f138:=Tryz.func177.trans (congrArg some (by kernel_rfl))
  f143:=Tryz.func76.trans (congrArg some (by kernel_rfl))
  f195:=Tryz.func225.trans (congrArg some (by kernel_rfl))
  f197:=Tryz.func226.trans (congrArg some (by kernel_rfl))
  f217:=Tryz.func196.trans (congrArg some (by kernel_rfl))
  f218:=Tryz.func227.trans (congrArg some (by kernel_rfl))
  f219:=Tryz.func138.trans (congrArg some (by kernel_rfl))
  f221:=Tryz.func108.trans (congrArg some (by kernel_rfl))
  f224:=Tryz.func198.trans (congrArg some (by kernel_rfl))
  f225:=Tryz.func197.trans (congrArg some (by kernel_rfl))
  f260:=Tryz.func250.trans (congrArg some (by kernel_rfl))
  f266:=Tryz.func231.trans (congrArg some (by kernel_rfl))
  f267:=Tryz.func199.trans (congrArg some (by kernel_rfl))
  f268:=Tryz.func176.trans (congrArg some (by kernel_rfl))
  f314:=Tryz.func232.trans (congrArg some (by kernel_rfl))
  t0:=Tryz.underlying0
  a0:=Tryz.isAgg0
  z0:=Tryz.sizeOf0
  v0:=Tryz.zeroValue0
  t3:=Tryz.underlying3
  a3:=Tryz.isAgg3
  z3:=Tryz.sizeOf3
  v3:=Tryz.zeroValue3
  t4:=Tryz.underlying4
  a4:=Tryz.isAgg4
  z4:=Tryz.sizeOf4
  v4:=Tryz.zeroValue4
  t5:=Tryz.underlying5
  a5:=Tryz.isAgg5
  z5:=Tryz.sizeOf5
  v5:=Tryz.zeroValue5
  t9:=Tryz.underlying9
  a9:=Tryz.isAgg9
  z9:=Tryz.sizeOf9
  v9:=Tryz.zeroValue9
  t21:=Tryz.underlying21
  a21:=Tryz.isAgg21
  z21:=Tryz.sizeOf21
  v21:=Tryz.zeroValue21
  t31:=Tryz.underlying28
  a31:=Tryz.isAgg28
  z31:=Tryz.sizeOf28
  v31:=Tryz.zeroValue28
  t46:=Tryz.underlying148
  a46:=Tryz.isAgg148
  z46:=Tryz.sizeOf148
  v46:=Tryz.zeroValue148
  t51:=Tryz.underlying164
  a51:=Tryz.isAgg164
  z51:=Tryz.sizeOf164
  v51:=Tryz.zeroValue164
  t105:=Tryz.underlying169
  a105:=Tryz.isAgg169
  z105:=Tryz.sizeOf169
  v105:=Tryz.zeroValue169
  t119:=Tryz.underlying197
  a119:=Tryz.isAgg197
  z119:=Tryz.sizeOf197
  t138:=Tryz.underlying199
  a138:=Tryz.isAgg199
  z138:=Tryz.sizeOf199
  v138:=Tryz.zeroValue199
  t139:=Tryz.underlying200
  a139:=Tryz.isAgg200
  z139:=Tryz.sizeOf200
  v139:=Tryz.zeroValue200
  t146:=Tryz.underlying165
  a146:=Tryz.isAgg165
  z146:=Tryz.sizeOf165
  v146:=Tryz.zeroValue165
  g1:=by kernel_rfl
  g3:=by kernel_rfl
  g4:=by kernel_rfl }
open Go.RowKit Go.Lib in
theorem Tryz.strings_genSplit(s sep:ByteArray)(sv:Nat)(n:Int)(N:Nat)(m:Int)(w:World)(hs:s.size<4294967281)(hm:w.cell? ⟨0,0,none⟩=some (.int .i64 m))(h1:1<=sep.size)(hsv:sv<=sep.size)(hn0:n≠0)(hn63:n<=9223372036854775807)(hN:(N:Int)=min (if n<0 then (Lib.countB s sep:Int)+1 else n) ((s.size:Int)+1)) :
    Calls Tryz.prog 108 #[.string s,.string sep,.int .i64 sv,.int .i64 n] w λe w' =>
      e=.returned (.slice (some ⟨w.heap.size,0,none⟩) (Lib.splitB sep sv (N - 1) s).length N)/\w'=w.alloc (.cells (Lib.cellsOf (Lib.splitB sep sv (N - 1) s) N) 9):=Any.strings_genSplit Tryz.lays221 (by kernel_rfl) s sep sv n N m w hs hm h1 hsv hn0 hn63 hN
def Tryz.lays146_ren:Go.Shelf.Ren:=⟨fun|146=>77|221=>108|268=>176|138=>177|143=>76|195=>225|197=>226|218=>227|219=>138|260=>250|217=>196|225=>197|224=>198|267=>199|266=>231|314=>232|n=>n,fun|9=>9|31=>28|3=>3|4=>4|0=>0|105=>169|21=>21|5=>5|46=>148|119=>197|139=>200|138=>199|146=>165|51=>164|n=>n,fun|1=>0|3=>2|4=>3|n=>n⟩
theorem Tryz.lays146:Go.Proofs.Lays.n146 Tryz.prog Tryz.lays146_ren:={
  mixed:=by kernel_rfl
  f138:=Tryz.func177.trans (congrArg some (by kernel_rfl))
  f143:=Tryz.func76.trans (congrArg some (by kernel_rfl))
  f146:=Tryz.func77.trans (congrArg some (by kernel_rfl))
  f195:=Tryz.func225.trans (congrArg some (by kernel_rfl))
  f197:=Tryz.func226.trans (congrArg some (by kernel_rfl))
  f217:=Tryz.func196.trans (congrArg some (by kernel_rfl))
  f218:=Tryz.func227.trans (congrArg some (by kernel_rfl))
  f219:=Tryz.func138.trans (congrArg some (by kernel_rfl))
  f221:=Tryz.func108.trans (congrArg some (by kernel_rfl))
  f224:=Tryz.func198.trans (congrArg some (by kernel_rfl))
  f225:=Tryz.func197.trans (congrArg some (by kernel_rfl))
  f260:=Tryz.func250.trans (congrArg some (by kernel_rfl))
  f266:=Tryz.func231.trans (congrArg some (by kernel_rfl))
  f267:=Tryz.func199.trans (congrArg some (by kernel_rfl))
  f268:=Tryz.func176.trans (congrArg some (by kernel_rfl))
  f314:=Tryz.func232.trans (congrArg some (by kernel_rfl))
  t0:=Tryz.underlying0
  a0:=Tryz.isAgg0
  z0:=Tryz.sizeOf0
  v0:=Tryz.zeroValue0
  t3:=Tryz.underlying3
  a3:=Tryz.isAgg3
  z3:=Tryz.sizeOf3
  v3:=Tryz.zeroValue3
  t4:=Tryz.underlying4
  a4:=Tryz.isAgg4
  z4:=Tryz.sizeOf4
  v4:=Tryz.zeroValue4
  t5:=Tryz.underlying5
  a5:=Tryz.isAgg5
  z5:=Tryz.sizeOf5
  v5:=Tryz.zeroValue5
  t9:=Tryz.underlying9
  a9:=Tryz.isAgg9
  z9:=Tryz.sizeOf9
  v9:=Tryz.zeroValue9
  t21:=Tryz.underlying21
  a21:=Tryz.isAgg21
  z21:=Tryz.sizeOf21
  v21:=Tryz.zeroValue21
  t31:=Tryz.underlying28
  a31:=Tryz.isAgg28
  z31:=Tryz.sizeOf28
  v31:=Tryz.zeroValue28
  t46:=Tryz.underlying148
  a46:=Tryz.isAgg148
  z46:=Tryz.sizeOf148
  v46:=Tryz.zeroValue148
  t51:=Tryz.underlying164
  a51:=Tryz.isAgg164
  z51:=Tryz.sizeOf164
  v51:=Tryz.zeroValue164
  t105:=Tryz.underlying169
  a105:=Tryz.isAgg169
  z105:=Tryz.sizeOf169
  v105:=Tryz.zeroValue169
  t119:=Tryz.underlying197
  a119:=Tryz.isAgg197
  z119:=Tryz.sizeOf197
  t138:=Tryz.underlying199
  a138:=Tryz.isAgg199
  z138:=Tryz.sizeOf199
  v138:=Tryz.zeroValue199
  t139:=Tryz.underlying200
  a139:=Tryz.isAgg200
  z139:=Tryz.sizeOf200
  v139:=Tryz.zeroValue200
  t146:=Tryz.underlying165
  a146:=Tryz.isAgg165
  z146:=Tryz.sizeOf165
  v146:=Tryz.zeroValue165
  g1:=by kernel_rfl
  g3:=by kernel_rfl
  g4:=by kernel_rfl }
open Go.RowKit Go.Lib in
theorem Tryz.strings_Split(s sep:ByteArray)(m:Int)(w:World)(hs:s.size<4294967281)(hm:w.cell? ⟨0,0,none⟩=some (.int .i64 m))(h1:1<=sep.size) :
    Calls Tryz.prog 77 #[.string s,.string sep] w λe w' =>
      e=.returned (.slice (some ⟨w.heap.size,0,none⟩) (Lib.countB s sep+1) (Lib.countB s sep+1))/\w'=w.alloc (.cells ((Lib.splitB sep 0 (Lib.countB s sep) s).map Value.string).toArray 9):=Any.strings_Split Tryz.lays146 (by kernel_rfl) s sep m w hs hm h1
end Go.Proofs
namespace Go.Proofs.YtjdlhefjgceabaaGreatDoor.Hand
open Go.RowKit YtjdlhefjgceabaaGreatDoorW.PrintWords YtjdlhefjgceabaaGreatDoorW.PrintLast
set_option maxRecDepth 100000 in
set_option maxHeartbeats 2000000 in
theorem D8(z:Int)(h:z=1\/z=2\/z=3\/z=4\/z=5\/z=6\/z=7\/z=8\/z=9\/z=10\/z=11\/z=12)(W:World):Calls Tryz.prog 224 #[.int .u64 1,.int .u64 z] W λe w'=>e=.returned (.tuple #[.int .u64 0,.int .u64 z])/\W=w':=by
 rcases h with rfl|rfl|rfl|rfl|rfl|rfl|rfl|rfl|rfl|rfl|rfl|rfl
 all_goals
  go_enter Tryz.func224,Tryz.ntmps224;go_wp2;go_ret2;exact ⟨rfl,rfl⟩
set_option maxRecDepth 100000 in
set_option maxHeartbeats 2000000 in
theorem EA(N:Nat)(h1:1<=N)(h12:N<=12)(W:World):Calls Tryz.prog 175 #[.int .u64 1,.int .u64 (N:Int)] W λe w'=>e=.returned (.tuple #[.int .u64 0,.int .u64 (N:Int)])/\W=w':=by
 have HM:=ae.mk (D8 (N:Int) (by omega));clear h1 h12;go_enter Tryz.func175,Tryz.ntmps175
 go_wp2_with (go_at_call 224;refine (HM.out _).mono ?_;rintro e w' ⟨rfl,rfl⟩)
 go_ret2;exact ⟨rfl,rfl⟩
def zP:Bool × List (List Nat × List Nat):=(true,[([],[]),([],[]),([],[]),([1,2],[1,2]),([],[]),([],[]),([4,5],[4,5]),([3,6],[3,6]),([0,7],[0,7]),([8,7,0,1,2,3,4,5,6,7,8],[0,2,5,8])])
def F4:List Nat:=[0,0,0,6,0,0,48,126,255,511]
theorem Bl:dQ .any (opsOf Tryz.f106 9)=zP:=by kernel_rfl
theorem Ca:jv zP.2 F4=true:=by kernel_rfl
def gu(N:Nat)(x:Int)(n:Nat):List Value:=List.replicate n (.int .i64 x)++List.replicate (N - n) (.int .i64 0)
theorem zq(N:Nat):madeCells #[Value.int .i64 0] N=(gu N 0 0).toArray:=by
 apply Array.ext';show _=List.replicate 0 (Value.int .i64 0)++List.replicate (N - 0) (Value.int .i64 0);rw[List.replicate_zero,List.nil_append];apply List.ext_getElem
 · simp[madeCells]
 ·
  intro i h1 h2;rw[List.getElem_replicate];simp[madeCells,Nat.mod_one]
theorem add0(ad:Addr):ad.add 0=ad:=by simp[Addr.add]
theorem FZ(N:Nat)(x:Int)(n m:Nat)(h:n+m<=N):splice (gu N x n) n (List.replicate m (Value.int .i64 x))=gu N x (n+m):=by
 unfold splice gu;rw[List.length_replicate,List.take_left' (by simp),List.drop_append,List.drop_eq_nil_of_le (by simp),List.nil_append,List.length_replicate,List.drop_replicate]
 first|rw[List.replicate_append_replicate]|rw[<- List.append_assoc,List.replicate_append_replicate]
 congr 2
 omega
theorem Bc(N:Nat)(x:Int)(h:1<=N):(gu N 0 0).take 0++[Value.int .i64 x]++(gu N 0 0).drop (0+[Value.int .i64 x].length)=gu N x 1:=by
 unfold gu;simp
set_option maxRecDepth 100000 in
set_option maxHeartbeats 8000000 in
theorem xw(N:Nat)(hN1:1<=N)(hN12:N<=12)(ad:Addr)(c0:Nat)(x:Int)(w:World)(hx:w.cell? ad=some (.int .i64 x)) :
  Calls Tryz.prog 106 #[.slice (some ad) 1 c0,.int .i64 (N:Int)] w λe w'=>∃v0_:Value,e=.returned (v0_)/\Kd.R (Kd.int .i64) 3 w' w.heap.size (λ_=>True) v0_ (List.replicate N x)/\Below w.heap.size w w':=by
 have HMU:=ae.mk (EA N hN1 hN12)
 have hsz:(Tryz.prog.info? 3).map (·.size)=some 1:=by kernel_rfl
 have HS:=ae.mk hsz
 obtain ⟨w1,hw1⟩:∃w1,w1=w.alloc (.cells (madeCells #[.int .i64 0] N) 3):=⟨_,rfl⟩
 have hg1:w1.heap[w.heap.size]?=some (.cells (gu N 0 0).toArray 3 (0,0)):=by rw[hw1,bC,zq]
 have hb1:Below w.heap.size w w1:=by rw[hw1];exact aG (Below.refl _ _) _
 have hx1:w1.cell? (ad.add 0)=some (.int .i64 x):=by rw[add0];exact (hb1.cell (World.block_lt_of_cell? w _ hx)).trans hx
 have hcp:=run_copy_row (P:=Tryz.prog) w1 22 22 3 3 w.heap.size 0 N N ad 1 c0 (gu N 0 0).toArray 3 [.int .i64 x] Tryz.underlying22 hsz hg1 (by have e1:Nat.min 1 N=1:=Nat.min_eq_left hN1;have e2:Nat.min N 1=1:=Nat.min_eq_right hN1;simp[e1,e2]) (λj v hj=>by
  cases j with
  | zero=>simp at hj;subst hj;exact hx1
  | succ j=>simp at hj) (by simp[gu];omega) (by simp[Value.oneCell'])
 obtain ⟨w2,hw2⟩:∃w2,w2=w1.setRow w.heap.size ((gu N 0 0).toArray.toList.take 0++[Value.int .i64 x]++(gu N 0 0).toArray.toList.drop (0+[Value.int .i64 x].length)).toArray:=⟨_,rfl⟩
 rw[<- hw2]at hcp;have HG:=ae.mk (show w2.heap[w.heap.size]?=some (.cells (gu N x 1).toArray 3 (0,0)) by rw[hw2,<- Bc N x hN1];exact setRow_heap w1 w.heap.size _ _ 3 (0,0) hg1);have HB:=ae.mk (show Below w.heap.size w w2 by rw[hw2];exact below_setRow hb1 (Nat.le_refl _) _);have hmk:∀W:World,(Instr.makeSlice 22 (.int .i64 (N:Int)) (.int .i64 (N:Int))).run Tryz.prog W=.ok (.slice (some ⟨W.heap.size,0,none⟩) N N) (W.alloc (.cells (madeCells #[.int .i64 0] N) 3)):=λW=>vY (P:=Tryz.prog) 22 3 .i64 8 Tryz.underlying22 mq (by decide) N (by omega) W;rw[hw1]at hcp;clear hw1 hw2 hg1 hb1 hx1 hx hsz;have qa:decide ((N:Int)<0)=false:=decide_eq_false (by omega);have qb:decide (9223372036854775807<(N:Int))=false:=decide_eq_false (by omega);go_enter Tryz.func106,Tryz.ntmps106
 go_wp2_with (first|(go_at_call 175;go_loud (refine (HMU.out _).mono ?_;rintro e w' ⟨rfl,rfl⟩)))
 clear hcp hmk
 go_loopg [8] (N - 1) (λkq v8 w'=>∃n:Nat,v8=.int .i64 (n:Int)/\ae (1<=n/\n+kq=N)/\ae (w'.heap[w.heap.size]?=some (.cells (gu N x n).toArray 3 (0,0)))/\ae (Below w.heap.size w w'))
 case atStart=>exact ⟨1,rfl,⟨Nat.le_refl _,by omega⟩,HG,HB⟩
 case round =>
  clear HG HB;obtain ⟨n,rfl,HN,HG,HB⟩:=hrel
  cases gk with
  | zero =>
   obtain rfl:n=N:=by have:=HN.out;omega
   go_wp2;go_ret;refine ⟨_,rfl,?_,HB.out⟩;refine Kd.R_of_own ⟨by simp[encs],.inr ⟨w.heap.size,n,_,(by rw[List.length_replicate];rfl),Nat.le_refl _,HG.out,by simp,Nat.le_trans hN12 (by simp[maxLen]),by simp[gu],by simp[encs,gu]⟩⟩ (λ_ _=>trivial)
  | succ d =>
   have hnN:n<N:=by have:=HN.out;omega
   obtain ⟨m,hm⟩:∃m,m=min (N - n) n:=⟨_,rfl⟩
   have HMN:=ae.mk (show m=min (N - n) n from hm);have HMM:=ae.mk (show 1<=m/\n+m<=N by have:=HN.out;omega);have q1:decide ((n:Int)<(N:Int))=true:=decide_eq_true (by omega)
   have hnle:n<=N:=by omega
   have hne:¬ (N=n):=by omega
   have hnle2:(n:Int)<=(N:Int):=by omega
   have hts:((N:Int) - (n:Int)).toNat=N - n:=by omega
   have hcell:∀ (W:World),W.heap[w.heap.size]?=some (.cells (gu N x n).toArray 3 (0,0))->∀j v,(List.replicate m (Value.int .i64 x))[j]?=some v->W.cell? ((⟨w.heap.size,0,none⟩:Addr).add j)=some v:=by
    intro W hW j v hj;rw[add_plain];have h1:=ah hW j;rw[h1];rw[List.getElem?_replicate]at hj
    split at hj
    ·
     rename_i hjm
     cases hj
     have hjn:j<n:=by have:=HMN.out;omega
     have:(gu N x n)[j]?=some (.int .i64 x):=by unfold gu;rw[List.getElem?_append_left (by rw[List.length_replicate];exact hjn),List.getElem?_replicate,if_pos hjn]
     simpa using this
    · cases hj
   have HC:=ae.mk hcell;clear hcell hm;go_wp2;refine jf (n:=10) (S:=λ_=>True) (ds:=[]) (fe 10 0) (by kernel_rfl) rfl (by kernel_rfl) trivial (λhHeld=>?_);refine j5 Bl Ca (λHT_ HW_=>?_)
   refine aK 0 38 10 1 ?_
   refine aK 1 39 10 3 ?_
   refine aK 2 40 10 7 ?_
   refine aK 4 42 10 23 ?_
   refine aK 5 43 10 55 ?_
   refine aK 3 41 10 63 ?_
   refine aK 6 44 10 127 ?_
   refine fV 7 (some 45) 10 255 λK hK=>?_
   refine step_copy_splice rfl (.tmp 41) (.tmp 44) 22 22 rfl 3 Tryz.underlying22 HS.out (some ⟨w.heap.size,n,none⟩) (some ⟨w.heap.size,0,none⟩) (N - n) (N - n) n N rfl rfl w.heap.size n (gu N x n) 3 (bS HG.out) (List.replicate m (.int .i64 x)) (by rw[List.length_replicate,HMN.out];exact Nat.min_comm _ _) (λ_=>⟨rfl,_,rfl,HC.out _ (bS HG.out)⟩) (by simp[gu];have:=HMM.out;omega) (by simp[Value.oneCell']) w.heap.size w (ql HB.out) (Nat.le_refl _) ?_
   intro w4 hg4 hb4;refine hK.out _ _ trivial (λhHeld=>?_);clear hK K;have HG4:=ae.mk (show w4.heap[w.heap.size]?=some (.cells (gu N x (n+m)).toArray 3 (0,0)) by rw[<- FZ N x n m HMM.out.2];exact hg4.out);have HB4:=ae.mk hb4;clear hg4 hb4
   refine eG ?_
   refine aK 8 46 10 511 ?_
   refine aK 9 8 10 1023 ?_
   refine iQ (jm HT_.out (by kernel_rfl)) ?_
   try go_wp2
   go_roundg (N - (n+m))
   case measure=>have:=HMM.out;have:=HN.out;omega
   case rel=>exact ⟨n+m,(by have:=HMM.out;rw[wrap64_in _ (by omega) (by omega)];first|rfl|(simp;omega)),⟨by have:=HMM.out;have:=HN.out;omega⟩,HG4,HB4⟩
open YtjdlhefjgceabaaGreatDoorW.PrintMore
def gD(p:Int->Bool)(l:List Int):Nat->List Int
 | 0=>[]
 | n+1=>if p (rd l (n:Int))=true then gD p l n++[(n:Int)] else gD p l n
theorem uR(p:Int->Bool)(l:List Int):∀n,(gD p l n).length<=n
 | 0=>Nat.le_refl _
 | n+1=>by
  have:=uR p l n;rw[gD]
  split
  · rw[List.length_append,List.length_singleton];omega
  · omega
def xU(g:Nat)(lb:Array Value)(p:Int->Bool):Prop :=
 ∀ (x:Int) (V:World),Calls Tryz.prog g (#[.int .i64 x]++lb) V λe w'=>e=.returned (.bool (p x))/\bg V w'
set_option maxRecDepth 100000 in
set_option maxHeartbeats 4000000 in
theorem IR(p:Int->Bool)(g:Nat)(lb:Array Value)(eg:∀args w,(callFunc g args).run Tryz.prog w=.ok (.enter g args) w)
  (A0:Option Addr) (c0:Nat) (l0:List Int) (w:World) (hr0:Kd.C (Kd.int .i64) w A0 l0.length l0) (hl:l0.length<=1000) (hp:xU g lb p) :
  Calls Tryz.prog 251 #[.slice A0 l0.length c0,.func (.func g) #[] lb] w λe w'=>∃v:Value,e=.returned v/\Kd.R (Kd.int .i64) 3 w' w.heap.size (λ_=>True) v (gD p l0 l0.length)/\Below w.heap.size w w':=by
 have HL:ae (l0.length<=1000):=⟨hl⟩
 have HR0:=ae.mk hr0;have HP:=ae.mk hp;clear hr0 hp hl;have HB:=ae.mk (show Below w.heap.size w (w.alloc (.cells #[] 3)) from aG (Below.refl _ _) _);have hx0:(w.alloc (.cells #[] 3)).heap[w.heap.size]?=some (.cells #[] 3 (0,0)):=bC w _;have HO:=ae.mk (show Kd.R (Kd.int .i64) 3 (w.alloc (.cells #[] 3)) w.heap.size (λ_=>True) (.slice (some ⟨w.heap.size,0,none⟩) 0 0) (gD p l0 0) from Kd.R_of_own ⟨by simp[gD,encs],.inr ⟨w.heap.size,0,#[],rfl,by omega,hx0,by simp[gD],by simp,by simp,by simp[gD,encs]⟩⟩ (λ_ _=>trivial));clear hx0;go_enter Tryz.func251,Tryz.ntmps251;go_wp2
 go_loopg [5,11] l0.length (λkq v5 v11 w'=>∃ (i:Nat) (iz:Int),v11=.int .i64 iz/\ae (iz=(i:Int))/\ae (i+kq=l0.length)/\ae (Kd.R (Kd.int .i64) 3 w' w.heap.size (λ_=>True) v5 (gD p l0 i))/\ae (Below w.heap.size w w'))
 case atStart=>exact ⟨0,0,rfl,⟨rfl⟩,⟨by omega⟩,HO,HB⟩
 case round =>
  clear HO HB;obtain ⟨i,iz,rfl,NI,NK,HO,HB⟩:=hrel
  cases gk with
  | zero =>
   have hi:i=l0.length:=by have:=NK.out;omega
   subst hi;have q1:decide (iz<(l0.length:Int))=false:=decide_eq_false (by have:=NI.out;omega);go_wp2;go_ret;exact ⟨_,rfl,HO.out,HB.out⟩
  | succ d =>
   have hi0:0<=iz:=by have:=NI.out;omega
   have hin:iz<(l0.length:Int):=by have:=NI.out;have:=NK.out;omega
   have q1:decide (iz<(l0.length:Int))=true:=decide_eq_true hin;obtain ⟨ad0,e0,hx⟩:=Kd.at_int (Kd.C_below HR0.out HB.out) iz hi0 hin;cases e0
   obtain ⟨x,hxx⟩:∃x,x=rd l0 iz:=⟨_,rfl⟩
   rw[<- hxx]at hx;have NX:=ae.mk (show x=rd l0 (i:Int) by rw[hxx,NI.out]);clear hxx;replace hi0:=eq_true hi0;replace hin:=eq_true hin;have hcall:=HP.out x
   cases hq:p x with
   | false =>
    rw[hq]at hcall;have HQ:=ae.mk (show gD p l0 (i+1)=gD p l0 i by rw[gD,<- NX.out,hq];rfl);clear hq
    go_wp2_with (go_at_fn g;refine (hcall _).mono ?_;rintro e w' ⟨rfl,⟨nd,rfl⟩⟩)
    go_roundg d
    case measure=>omega
    case rel=>exact ⟨i+1,_,rfl,⟨by rw[NI.out];have:=NK.out;have:=HL.out;rw[wrap64_in _ (by omega) (by omega)];omega⟩,⟨by have:=NK.out;omega⟩,⟨by rw[HQ.out];exact Kd.R_drewN HO.out _⟩,⟨dD HB.out _⟩⟩
   | true =>
    rw[hq]at hcall;have HQ:=ae.mk (show gD p l0 (i+1)=gD p l0 i++[(i:Int)] by rw[gD,<- NX.out,if_pos hq]);have HQL:=ae.mk (uR p l0 i);clear hq
    go_wp2_with (first|(go_at_fn g;refine (hcall _).mono ?_;rintro e w' ⟨rfl,⟨nd,rfl⟩⟩)|((with_reducible refine dE (b:=.append) (xs:=#[.tmp 19,.tmp 21]) rfl ?_);at_builtin;refine Kd.R_append (Kd.int .i64) (w0:=w) w.heap.size rfl (.tmp 19) (.tmp 21) 22 3 (.int .i64 0) 8 rfl Tryz.underlying22 mq rfl (by decide) (by omega) u5 (gD p l0 i) iz [.int .i64 iz] (λ_=>True) (λ_=>False) rfl rfl ?aP (λ_ hk=>hk.elim) ?aF ?aO ?aB ?aS ?aL ?_;(case aP=>exact rfl);(case aB=>exact (by repeat (first|(with_reducible first|exact HB.out|apply aG|apply dD|apply dw)|exact HB.out)));(case aF=>exact (λ_ _=>trivial));(case aO=>exact (by (with_reducible repeat (first|apply Kd.R_alloc|apply Kd.R_drewN|apply Kd.R_drew));exact HO.out));(case aS=>exact (ay (by repeat (first|(with_reducible first|exact HB.out|apply aG|apply dD|apply dw)|exact HB.out))));(case aL=>have:=HL.out;have:=HQL.out;have:=NK.out;omega);intro v179 w8 ho hb hg hat;have ak:=ae.mk hb;have n1_:=ae.mk ho;clear HB HO;have HB:=ak;have HO:=n1_;clear ak n1_;clear ho hb hg hat))
    go_roundg d
    case measure=>omega
    case rel=>exact ⟨i+1,_,rfl,⟨by rw[NI.out];have:=NK.out;have:=HL.out;rw[wrap64_in _ (by omega) (by omega)];omega⟩,⟨by have:=NK.out;omega⟩,⟨by rw[HQ.out];have e:=HO.out;rw[NI.out]at e;first|exact e|((with_reducible repeat (first|apply Kd.R_alloc|apply Kd.R_drewN|apply Kd.R_drew));exact e)⟩,⟨by repeat (first|(with_reducible first|exact HB.out|apply aG|apply dD|apply dw)|exact HB.out)⟩⟩
set_option maxRecDepth 100000
set_option maxHeartbeats 4000000
structure dG (w:World):Prop where
 big:8<=w.heap.size
 len:∃m,w.cell? ⟨0,0,none⟩=some (.int .i64 m)
 tab:Lib.TabIs Tryz.prog w "internal/strconv.uint64pow10" .u64 Lib.pow10Tab
 syn:∃tp p,w.var? Tryz.prog "strconv.ErrSyntax"=some #[.iface tp p]
 ran:∃tp p,w.var? Tryz.prog "strconv.ErrRange"=some #[.iface tp p]
theorem zQ:Tryz.prog.globalNamed "internal/strconv.uint64pow10"=some 1:=by kernel_rfl
theorem Ah:Tryz.prog.globalNamed "strconv.ErrSyntax"=some 4:=by kernel_rfl
theorem wB:Tryz.prog.globalNamed "strconv.ErrRange"=some 5:=by kernel_rfl
theorem uL{w w':World}{n:String}{g:Nat}(hg:Tryz.prog.globalNamed n=some g)(hm:w'.heap[g]?=w.heap[g]?):w'.var? Tryz.prog n=w.var? Tryz.prog n:=by
 unfold World.var?;simp only[hg,Option.bind_some];rw[hm]
theorem dG.move{w w':World}(h:dG w)(hs:w.heap.size<=w'.heap.size)(hm:∀i,i<8->w'.heap[i]?=w.heap[i]?):dG w':=by
 obtain ⟨h0,⟨m,h1⟩,h2,h3,h4⟩:=h;refine ⟨by omega,⟨m,?_⟩,?_,?_,?_⟩
 · rw[<- h1];unfold World.cell?;rw[hm _ (by show 0<8;omega)]
 · unfold Lib.TabIs at h2 ⊢;rw[uL zQ (hm _ (by omega))];exact h2
 · rw[uL Ah (hm _ (by omega))];exact h3
 · rw[uL wB (hm _ (by omega))];exact h4
theorem dG.below{w w':World}(h:dG w)(hb:Below w.heap.size w w'):dG w':=h.move hb.size λi hi=>hb.block i (by have:=h.big;omega)
theorem aW{P:Prop}(h:P:=by repeat (first|(with_reducible first|exact HB.out|apply aG|apply dD|apply dw)|exact HB.out)):P:=h
theorem jq{P:Prop}(h:P:=by exact dG.below HG.out aW):P:=h
theorem ja{P:Prop}{α:Type}{d:Kd α}{e:Nat}{w:World}{base:Nat}{ok:Nat->Prop}{v:Value}{xs:List α}(x1_:d.R e w base ok v xs)(h:d.R e w base ok v xs->P:=by intro x1_;(with_reducible repeat (first|apply Kd.R_alloc|apply Kd.R_drewN|apply Kd.R_drew));exact x1_):P:=h x1_
theorem Dy:(Tryz.prog.info? 9).map (λi=>(i.zero,i.size,i.bytes))=some (some (.string ⟨#[]⟩),1,16):=by kernel_rfl
section
variable {ops:Array Oper} {rest:List Oper} {o:Oper} {a:Act} {Q:Exit->Act->World->Prop}
theorem qL{w0 W:World}(s x:Operand)(v:Value)(xs:List ByteArray)(p:ByteArray)(HO:Kd.R Kd.string 9 W w0.heap.size (λ_=>True) v xs)(HB:Below w0.heap.size w0 W)(hl:xs.length<8796093022208)
  (h:∀v1 w1,Kd.R Kd.string 9 w1 w0.heap.size (λ_=>True) v1 (xs++[p])->Below w0.heap.size w0 w1->W.grownBy w1 v.ownBlock->wpList Tryz.prog ops Q rest (a.put o.dst v1) w1)
  (hgd:o.guard=none:=by exact rfl) (ho:o.op=.call { callee:=.builtin .append,args:=#[s,x],argTypes:=#[28,28] }:=by exact rfl) (hs:a.eval s=v:=by exact rfl) (hx:a.eval x=.slice (some ⟨W.heap.size,0,none⟩) 1 1:=by exact rfl) :
  wpList Tryz.prog ops Q (o :: rest) a (W.alloc (.cells #[.string p] 9)) :=
 Kd.R_append Kd.string w0.heap.size hgd s x 28 9 (.string ⟨#[]⟩) 16 ho Tryz.underlying28 Dy rfl (by decide) (by omega) v xs p [.string p] (λ_=>True) (λ_=>False) hs hx rfl (λ_ hk=>hk.elim) (λ_ _=>trivial) HO HB HB.size (by omega) λv1 w1 h1 h2 h3 _=>h v1 w1 h1 h2 h3
theorem qf{w0 W:World}(s x:Operand)(v:Value)(xs:List Int)(p:Int)(HO:Kd.R (Kd.int .i64) 3 W w0.heap.size (λ_=>True) v xs)(HB:Below w0.heap.size w0 W)(hl:xs.length<17592186044416)
  (h:∀v1 w1,Kd.R (Kd.int .i64) 3 w1 w0.heap.size (λ_=>True) v1 (xs++[p])->Below w0.heap.size w0 w1->W.grownBy w1 v.ownBlock->wpList Tryz.prog ops Q rest (a.put o.dst v1) w1)
  (hgd:o.guard=none:=by exact rfl) (ho:o.op=.call { callee:=.builtin .append,args:=#[s,x],argTypes:=#[22,22] }:=by exact rfl) (hs:a.eval s=v:=by exact rfl) (hx:a.eval x=.slice (some ⟨W.heap.size,0,none⟩) 1 1:=by exact rfl) :
  wpList Tryz.prog ops Q (o :: rest) a (W.alloc (.cells #[.int .i64 p] 3)) :=
 Kd.R_append (Kd.int .i64) w0.heap.size hgd s x 22 3 (.int .i64 0) 8 ho Tryz.underlying22 mq rfl (by decide) (by omega) v xs p [.int .i64 p] (λ_=>True) (λ_=>False) hs hx rfl (λ_ hk=>hk.elim) (λ_ _=>trivial) HO HB HB.size (by omega) λv1 w1 h1 h2 h3 _=>h v1 w1 h1 h2 h3
end
theorem vz(w:World):Kd.R Kd.string 9 (w.alloc (.cells #[] 9)) w.heap.size (λ_=>True) (.slice (some ⟨w.heap.size,0,none⟩) 0 0) []:=by
 have hx0:(w.alloc (.cells #[] 9)).heap[w.heap.size]?=some (.cells #[] 9 (0,0)):=bC w _;exact Kd.R_of_own ⟨by simp[encs],.inr ⟨w.heap.size,0,#[],rfl,by omega,hx0,by simp,by simp,by simp,by simp[encs]⟩⟩ (λ_ _=>trivial)
theorem rY(w:World):Kd.R (Kd.int .i64) 3 (w.alloc (.cells #[] 3)) w.heap.size (λ_=>True) (.slice (some ⟨w.heap.size,0,none⟩) 0 0) []:=by
 have hx0:(w.alloc (.cells #[] 3)).heap[w.heap.size]?=some (.cells #[] 3 (0,0)):=bC w _;exact Kd.R_of_own ⟨by simp[encs],.inr ⟨w.heap.size,0,#[],rfl,by omega,hx0,by simp,by simp,by simp,by simp[encs]⟩⟩ (λ_ _=>trivial)
def bJ(n:Int):Prop:=-9223372036854775808<=n/\n<=9223372036854775807
def bL(n:Int):ByteArray:=⟨(Lib.itoa n).toArray⟩
theorem qI(n:Int)(hn:bJ n)(w:World)(hG:dG w) :
  Calls Tryz.prog 98 #[.int .i64 n] w λe w'=>e=.returned (.string (bL n))/\Below w.heap.size w w' :=
 (Tryz.strconv_Itoa n hn.1 hn.2 w hG.tab).mono λe w' h=>⟨h.1,by obtain ⟨_,k,os,rfl⟩:=h;exact Lib.below_grow _ _ (Nat.le_refl _) _ _⟩
theorem qd:∀ (k u:Nat),1<=k->u<10 ^ k->Lib.nDigits u<=k
 | 0,_,h,_=>absurd h (by omega)
 | 1,u,_,h=>by rw[Lib.nDigits_small (by simpa using h)];omega
 | k+2,u,_,h=>by
  by_cases h10:u<10
  · rw[Lib.nDigits_small h10];omega
  ·
   rw[Lib.nDigits_big h10];have:=qd (k+1) (u / 10) (by omega) (by rw[Nat.pow_succ]at h;omega);omega
theorem qF(n:Int)(hn:bJ n):(Lib.itoa n).length<=20:=by
 obtain ⟨h1,h2⟩:=hn;unfold Lib.itoa
 split
 ·
  rw[List.length_cons,Lib.decDigits_length];have:=qd 19 n.natAbs (by omega) (by omega);omega
 ·
  rw[Lib.decDigits_length];have:=qd 19 n.toNat (by omega) (by omega);omega
theorem Ch(n:Int):Lib.itoa n≠[]:=by
 intro h;have:=congrArg List.length h;unfold Lib.itoa at this
 split at this
 · simp at this
 ·
  rw[Lib.decDigits_length]at this;have h1:=Lib.nDigits_pos n.toNat;simp at this;omega
def kv(l:List ByteArray)(sep:ByteArray):ByteArray:=⟨(Lib.join (l.map (·.data.toList)) sep.data.toList).toArray⟩
theorem t_(sep:List UInt8)(m:Nat)(hs:sep.length<=1):∀xs:List (List UInt8),(∀x∈xs,x.length<=m)->(Lib.join xs sep).length<=xs.length * (m+1)
 | [],_=>by simp[Lib.join_nil]
 | x :: r,h=>by
  rw[Lib.join_cons,List.length_append,Lib.joinTail_length]
  have h1:Lib.lens r<=r.length * m:=by
   have h2:∀x∈r,x.length<=m:=λy hy=>h y (List.mem_cons_of_mem _ hy);clear h
   induction r with
   | nil=>simp[Lib.lens]
   | cons y r ih =>
    have:=ih (λz hz=>h2 z (List.mem_cons_of_mem _ hz));have h3:=h2 y List.mem_cons_self;simp only[Lib.lens,List.map_cons,List.sum_cons,List.length_cons,Nat.add_mul,Nat.one_mul]at this ⊢;omega
  have h4:=h x List.mem_cons_self
  have h5:sep.length * r.length<=r.length:=by
   have:=Nat.mul_le_mul_right r.length hs;omega
  have h6:(x :: r).length * (m+1)=r.length * m+r.length+m+1:=by rw[List.length_cons,Nat.add_mul,Nat.mul_add];omega
  omega
theorem wK(v:Value)(xs:List ByteArray)(sep:ByteArray)(w:World)(base m:Nat)(hm:m<=1000000)(hR:Kd.R Kd.string 9 w base (λ_=>True) v xs)(hl:xs.length<=10000)(hx:∀x∈xs,x.size<=m)(hs:sep.size<=1) :
  Calls Tryz.prog 99 #[v,.string sep] w λe w'=>e=.returned (.string (kv xs sep))/\Below w.heap.size w w':=by
 have ho:=Kd.own_of_R hR;obtain ⟨_,h2⟩:=ho
 rcases h2 with ⟨rfl,h0⟩|⟨g,cap,cur,rfl,hb,hh,h3,h4,h5,h6⟩
 ·
  obtain rfl:xs=[]:=List.eq_nil_of_length_eq_zero h0
  exact (Tryz.strings_Join_none none 0 sep w).mono λe w' h=>⟨h.1,by rw[h.2];exact Below.refl _ _⟩
 ·
  refine Tryz.strings_Join g 0 cap xs sep w (λj x hj=>?_) (Array.getElem?_eq_some_iff.1 hh).1 (by omega) h3 ?_
  ·
   have e1:cur[j]?=some (Value.string x):=by
    have e2:(cur.toList.take (xs.length * 1))[j]?=(encs Value.string xs)[j]?:=by rw[h6]
    have hjl:j<xs.length:=(List.getElem?_eq_some_iff.1 hj).1;rw[List.getElem?_take,if_pos (by omega)]at e2;simpa [encs,hj] using e2
   have:=ah hh (0+j);rw[this];simpa using e1
  ·
   have h7:=t_ sep.data.toList m (by simpa using hs) (xs.map (·.data.toList)) (λy hy=>by
    obtain ⟨x,hx1,rfl⟩:=List.mem_map.1 hy;have:=hx x hx1
    simpa using this)
   rw[List.length_map]at h7;have:xs.length * (m+1)<=10000 * 1000001:=Nat.mul_le_mul hl (by omega);omega
theorem nE(l:List Int)(i:Nat)(h:i<l.length):rd l (i:Int)=l[i]:=by
 unfold rd;rw[Int.toNat_natCast,List.getD_eq_getElem?_getD,List.getElem?_eq_getElem h];rfl
theorem xm{α:Type}(f:Int->α)(l:List Int)(i:Nat)(h:i<l.length):(l.take i).map f++[f (rd l (i:Int))]=(l.take (i+1)).map f:=by
 rw[nE l i h,List.take_succ_eq_append_getElem h,List.map_append];rfl
def kQ(l:List Int)(sep:ByteArray):ByteArray:=kv (l.map bL) sep
theorem zZ(A0:Option Addr)(c0:Nat)(l:List Int)(sep:ByteArray)(w:World)(hr0:Kd.C (Kd.int .i64) w A0 l.length l)(hl:l.length<=10000)(hs:sep.size<=1)(hn:∀x∈l,bJ x)(hG:dG w) :
  Calls Tryz.prog 158 #[.slice A0 l.length c0,.string sep] w λe w'=>e=.returned (.string (kQ l sep))/\Below w.heap.size w w':=by
 have HL:ae (l.length<=10000):=⟨hl⟩
 have HS:ae (sep.size<=1):=⟨hs⟩
 have HN:=aa hn;have HR0:=aa hr0;have HG:=aa hG;clear hr0 hl hs hn hG;have HB:=aa (show Below w.heap.size w (w.alloc (.cells #[] 9)) from aG (Below.refl _ _) _);have HO:=aa (vz w);go_enter Tryz.func158,Tryz.ntmps158;go_wp2
 go_loopg [5,11] l.length (λkq v5 v11 w'=>∃ (i:Nat) (iz:Int),v11=.int .i64 iz/\ae (iz=(i:Int))/\ae (i+kq=l.length)/\ae (Kd.R Kd.string 9 w' w.heap.size (λ_=>True) v5 ((l.take i).map bL))/\ae (Below w.heap.size w w'))
 case atStart=>exact ⟨0,0,rfl,⟨rfl⟩,⟨by omega⟩,HO,HB⟩
 case round =>
  clear HO HB;obtain ⟨i,iz,rfl,NI,NK,HO,HB⟩:=hrel
  cases gk with
  | zero =>
   have hi:i=l.length:=by have:=NK.out;omega
   subst hi;rw[List.take_length]at HO;have q1:decide (iz<(l.length:Int))=false:=decide_eq_false (by have:=NI.out;omega)
   go_wp2_with (go_at_call 99;refine (wK _ _ _ _ w.heap.size 20 (by omega) HO.out (by rw[List.length_map];have:=HL.out;omega) (λx hx=>by
    obtain ⟨n,h1,rfl⟩:=List.mem_map.1 hx
    exact qF n (HN.out n h1)) HS.out).mono ?_;rintro e w1 ⟨rfl,hb⟩)
   go_ret;exact ⟨rfl,aj HB.out hb⟩
  | succ d =>
   have hi0:0<=iz:=by have:=NI.out;omega
   have hin:iz<(l.length:Int):=by have:=NI.out;have:=NK.out;omega
   have q1:decide (iz<(l.length:Int))=true:=decide_eq_true hin;obtain ⟨ad0,e0,hx⟩:=Kd.at_int (Kd.C_below HR0.out HB.out) iz hi0 hin;cases e0
   have hi1:i<l.length:=by have:=NK.out;omega
   have HX:=aa (show bJ (rd l iz) from HN.out _ (by unfold rd;rw[NI.out,Int.toNat_natCast,List.getD_eq_getElem?_getD,List.getElem?_eq_getElem hi1];exact List.getElem_mem _))
   have HE:=aa (show (l.take i).map bL++[bL (rd l iz)]=(l.take (i+1)).map bL by
    rw[NI.out];exact xm bL l i hi1)
   have HLt:=aa (show ((l.take i).map bL).length<8796093022208 by rw[List.length_map,List.length_take];have:=HL.out;omega);clear hi1;replace hi0:=eq_true hi0;replace hin:=eq_true hin
   go_wp2_with (first
    | (go_at_call 98;refine (qI _ HX.out _ jq).mono ?_;rintro e w1 ⟨rfl,hb⟩;replace HB:=aa (aj aW hb);replace HO:=aa (Kd.R_below HO.out hb);clear hb)
    | (at_builtin;refine qL (.tmp 15) (.tmp 18) _ _ _ HO.out HB.out HLt.out ?_;intro v1 w1 ho hb _;replace HO:=aa ho;replace HB:=aa hb;clear ho hb))
   go_roundg d
   case measure=>omega
   case rel=>exact ⟨i+1,_,rfl,⟨by rw[NI.out];have:=NK.out;have:=HL.out;rw[wrap64_in _ (by omega) (by omega)];omega⟩,⟨by have:=NK.out;omega⟩,⟨by rw[<- HE.out];exact HO.out⟩,HB⟩
end Go.Proofs.YtjdlhefjgceabaaGreatDoor.Hand

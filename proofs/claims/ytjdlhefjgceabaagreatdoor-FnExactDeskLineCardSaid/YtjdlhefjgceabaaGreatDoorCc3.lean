/- The reference's reading of a line. Conditions: a line of at most 3000 bytes. -/
import Derived.Test.YtjdlhefjgceabaaGreatDoorCb3
import Derived.BigRegion
import Derived.Test.YtjdlhefjgceabaaGreatDoorHm3
import Derived.Test.YtjdlhefjgceabaaGreatDoorCa3
namespace Go.Proofs.YtjdlhefjgceabaaGreatDoor.Hand
open Go.RowKit Go.Proofs.YtjdlhefjgceabaaGreatDoorW.PrintWords Go.Proofs.YtjdlhefjgceabaaGreatDoorW.PrintLast Go.Proofs.YtjdlhefjgceabaaGreatDoorW.PrintMore
set_option linter.unusedVariables false
set_option linter.unusedSimpArgs false
set_option maxRecDepth 100000
set_option maxHeartbeats 1000000
def readP (s:ByteArray):Option (ByteArray × List Int × List Int):=match pieces s 32 with
 | [a]=>if (shapeB a).data.toList = [] then some (a,[],[]) else none
 | [a,b]=>if (shapeB a).data.toList = [110] then (rdCount b).map fun k=>(a,[],[k]) else if (shapeB a).data.toList = [108] then (told b).map fun m=>(a,m,[]) else none
 | [a,b,c]=>if (shapeB a).data.toList = [110,110] then match rdCount b,rdCount c with
  | some k,some r=>some (a,[],[k,r])
  | _,_=>none
  else none
 | _=>none
def GotRead (A:Option Addr) (n0 c:Nat) (A':Option Addr) (n1 c':Nat) (o:Option (ByteArray × List Int × List Int)) (w:World) (e:Ending) (w':World):Prop :=
 ∃ x v2 v3 m n,e = .returned (.tuple #[.string x,.agg #[.slice A n0 c,.slice A' n1 c',v2,v3],.bool o.isSome])/\Kd.R (Kd.int .i64) 3 w' w.heap.size (fun _=>True) v2 m/\Kd.R (Kd.int .i64) 3 w' w.heap.size (fun _=>True) v3 n/\(∀ p,o = some p->(x,m,n) = p)/\Below w.heap.size w w'
def SplitPost (A:Option Addr) (n0 c:Nat) (A':Option Addr) (n1 c':Nat) (ps:List ByteArray) (n:Nat) (w:World) (e:Ending) (w':World):Prop:=∃ gb cap cur,e = .returned (.slice (some ⟨gb,0,none⟩) n cap)/\n<=cap/\w.heap.size + 3<=gb/\w'.heap[gb]? = some (.cells cur 9 (0,0))/\(∀ (i:Nat) x,ps[i]? = some x->cur[i]? = some (.string x))/\w'.heap[w.heap.size + 1]? = some (.cells #[.slice none 0 0,.slice none 0 0,.slice none 0 0,.slice none 0 0] 87 (0,0))/\w'.heap[w.heap.size + 1 + 1]? = some (.cells #[.slice A n0 c,.slice A' n1 c',.slice none 0 0,.slice none 0 0] 87 (0,0))/\Below w.heap.size w w'
theorem str_row {w:World} {base:Nat} {v:Value} {xs:List ByteArray} (h:Kd.R Kd.string 9 w base (fun _=>True) v xs) (h0:0 < xs.length):∃ gb cap,v = .slice (some ⟨gb,0,none⟩) xs.length cap/\xs.length<=cap/\base<=gb/\∃ cur:Array Value,w.heap[gb]? = some (.cells cur 9 (0,0))/\∀ (i:Nat) x,xs[i]? = some x->cur[i]? = some (.string x):=by
 obtain ⟨_,h2⟩:=Kd.own_of_R h
 rcases h2 with ⟨rfl,h3⟩ | ⟨g,cap,cur,rfl,hb,hh,h3,h4,h5,h6⟩
 · omega
 ·
  refine ⟨g,cap,rfl,h3,hb,cur,hh,fun j x hj=>?_⟩
  have e1:cur[j]? = some (Value.string x):=by
   have e2:(cur.toList.take (xs.length * 1))[j]? = (encs Value.string xs)[j]?:=by rw [h6]
   have hjl:j < xs.length:=(List.getElem?_eq_some_iff.1 hj).1;rw [List.getElem?_take,if_pos (by omega)] at e2;simpa [encs,hj] using e2
  exact e1
theorem set4 {α:Type} {d:Kd α} {e g t base:Nat} {ok:Nat->Prop} {W:World} {v:Value} {xs:List α} {cells:Array Value} (hb:W.heap[g]? = some (.cells cells t (0,0))) (h:d.R e W base ok v xs) (ht:∀ q,q ∈ e :: d.E->q ≠ t) (a0 a1 a2 a3:Value):d.R e ((((W.setCell ⟨g,0,none⟩ a0).setCell ⟨g,1,none⟩ a1).setCell ⟨g,2,none⟩ a2).setCell ⟨g,3,none⟩ a3).drew base ok v xs :=
 Kd.R_drew (Kd.R_set (Kd.R_set (Kd.R_set (Kd.R_set h hb ht 0 a0) (blk_set hb 0 a0) ht 1 a1) (blk_set (blk_set hb 0 a0) 1 a1) ht 2 a2) (blk_set (blk_set (blk_set hb 0 a0) 1 a1) 2 a2) ht 3 a3)
theorem below4 {w W:World} {g:Nat} (h:Below w.heap.size w W) (hg:w.heap.size<=g) (a0 a1 a2 a3:Value):Below w.heap.size w ((((W.setCell ⟨g,0,none⟩ a0).setCell ⟨g,1,none⟩ a1).setCell ⟨g,2,none⟩ a2).setCell ⟨g,3,none⟩ a3).drew :=
 below_drew1 (below_set (below_set (below_set (below_set h hg) hg) hg) hg)
section
variable {F:Fns} (hS:SpecOk F) (A:Option Addr) (n0 c:Nat) (A':Option Addr) (n1 c':Nat) (s:ByteArray) (hs:s.size<=3000) (w:World)
include hS hs
theorem read_split:Calls Tryz.prog 48 #[.string s,.int .u8 32] (((w.alloc (.cells #[.slice A n0 c,.slice A' n1 c'] 36)).alloc (.cells #[.slice none 0 0,.slice none 0 0,.slice none 0 0,.slice none 0 0] 87)).alloc (.cells #[.slice A n0 c,.slice A' n1 c',.slice none 0 0,.slice none 0 0] 87)) (SplitPost A n0 c A' n1 c' (pieces s 32) (pieces s 32).length w):=by
 have z1:(w.alloc (.cells #[.slice A n0 c,.slice A' n1 c'] 36)).heap.size = w.heap.size + 1:=by simp
 have z2:((w.alloc (.cells #[.slice A n0 c,.slice A' n1 c'] 36)).alloc (.cells #[.slice none 0 0,.slice none 0 0,.slice none 0 0,.slice none 0 0] 87)).heap.size = w.heap.size + 1 + 1:=by simp
 obtain ⟨W1,hW1⟩:∃ W,W = w.alloc (.cells #[.slice A n0 c,.slice A' n1 c'] 36):=⟨_,rfl⟩
 have b1:Below w.heap.size w W1:=by rw [hW1];exact below_alloc (Below.refl _ _) _
 rw [<- hW1] at z1 z2 ⊢
 obtain ⟨W2,hW2⟩:∃ W,W = W1.alloc (.cells #[.slice none 0 0,.slice none 0 0,.slice none 0 0,.slice none 0 0] 87):=⟨_,rfl⟩
 have b2:Below w.heap.size w W2:=by rw [hW2];exact below_alloc b1 _
 have k2:W2.heap[w.heap.size + 1]? = some (.cells #[.slice none 0 0,.slice none 0 0,.slice none 0 0,.slice none 0 0] 87 (0,0)):=by rw [hW2,<- z1];exact blk_new _ _
 rw [<- hW2] at z2 ⊢
 obtain ⟨W3,hW3⟩:∃ W,W = W2.alloc (.cells #[.slice A n0 c,.slice A' n1 c',.slice none 0 0,.slice none 0 0] 87):=⟨_,rfl⟩
 have b3:Below w.heap.size w W3:=by rw [hW3];exact below_alloc b2 _
 have k3:W3.heap[w.heap.size + 1 + 1]? = some (.cells #[.slice A n0 c,.slice A' n1 c',.slice none 0 0,.slice none 0 0] 87 (0,0)):=by rw [hW3,<- z2];exact blk_new _ _
 have k2':W3.heap[w.heap.size + 1]? = some (.cells #[.slice none 0 0,.slice none 0 0,.slice none 0 0,.slice none 0 0] 87 (0,0)):=by rw [hW3];exact blk_alloc k2 _
 have z3:W3.heap.size = w.heap.size + 3:=by rw [hW3];simp [z2]
 rw [<- hW3]
 refine (hS.split32 s W3 (by omega)).mono fun e w' h=>?_
 obtain ⟨v,he,hr,hb⟩:=h;obtain ⟨gb,cap,hv,h1,h2,cur,h3,h4⟩:=str_row hr (by rw [pieces_length];omega);exact ⟨gb,cap,cur,by rw [he,hv],h1,by omega,h3,h4,blk_below k2' hb,blk_below k3 hb,below_step b3 hb⟩
theorem read_bad (hq:((shapeB ((pieces s 32).getD 0 ⟨#[]⟩)).size:Int) ≠ (((pieces s 32).length:Nat):Int) - 1) :
  Calls Tryz.prog 73 #[.agg #[.slice A n0 c,.slice A' n1 c'],.string s] w (GotRead A n0 c A' n1 c' none w):=by
 have HSP:=am_ (read_split hS A n0 c A' n1 c' s hs w);have hl:=pieces_length s 32
 obtain ⟨ps,hps⟩:∃ ps,ps = pieces s 32:=⟨_,rfl⟩
 rw [<- hps] at HSP hl hq
 obtain ⟨a,ha⟩:∃ a,a = ps.getD 0 ⟨#[]⟩:=⟨_,rfl⟩
 rw [<- ha] at hq;have HA:=am_ (show ps[0]? = some a by rw [ha,List.getD_eq_getElem?_getD,List.getElem?_eq_getElem (by omega)];rfl);have HSH:=am_ fun W=>hS.shape a W
 obtain ⟨sh,hsh⟩:∃ sh,sh = shapeB a:=⟨_,rfl⟩
 rw [<- hsh] at HSH hq
 have hn0:0 < ps.length:=by omega
 have hn9:ps.length<=1000000:=by have:=Lib.countB_le ⟨#[32]⟩ (Nat.le_refl 1) s.size s (Nat.le_refl _);omega
 obtain ⟨n,hn⟩:∃ n,n = ps.length:=⟨_,rfl⟩
 rw [<- hn] at HSP hq hn0 hn9;have q1:((sh.size:Int) != (n:Int) - 1) = true:=bne_iff_ne.2 hq;clear hS hs hps ha hsh hl hn hq;go_enter Tryz.func73,Tryz.ntmps73
 go_wp2_with (first
  | (go_at_call 48;refine HSP.out.mono ?_;rintro e w1 ⟨gb,cap,cur,rfl,hcap,hgb,hcu,hx,h1,h2,hb⟩;have hx0:w1.cell? ⟨gb,0,none⟩ = some (.string a):=(blk_cell hcu 0).trans (hx 0 a HA.out);have H1:=am_ h1;have H2:=am_ h2;have HB:=am_ hb;clear hx h1 h2 hb hcu)
  | (go_at_call 115;refine (HSH.out _).mono ?_;rintro e w2 ⟨rfl,hb⟩;replace H1:=am_ (blk_below H1.out hb);replace H2:=am_ (blk_below H2.out hb);replace HB:=am_ (below_step HB.out hb);clear hb;have p0:w2.cell? ⟨w.heap.size + 1,0,none⟩ = some (.slice none 0 0):=blk_cell H1.out 0;have p1:w2.cell? ⟨w.heap.size + 1,1,none⟩ = some (.slice none 0 0):=blk_cell H1.out 1;have p2:w2.cell? ⟨w.heap.size + 1,2,none⟩ = some (.slice none 0 0):=blk_cell H1.out 2;have p3:w2.cell? ⟨w.heap.size + 1,3,none⟩ = some (.slice none 0 0):=blk_cell H1.out 3;have f0:=blk_frozen H1.out 0;have f1:=blk_frozen H1.out 1;have f2:=blk_frozen H1.out 2;have f3:=blk_frozen H1.out 3;have r0:w2.cell? ⟨w.heap.size + 1 + 1,0,none⟩ = some (.slice A n0 c):=blk_cell H2.out 0;have r1:w2.cell? ⟨w.heap.size + 1 + 1,1,none⟩ = some (.slice A' n1 c'):=blk_cell H2.out 1;have r2:w2.cell? ⟨w.heap.size + 1 + 1,2,none⟩ = some (.slice none 0 0):=blk_cell H2.out 2;have r3:w2.cell? ⟨w.heap.size + 1 + 1,3,none⟩ = some (.slice none 0 0):=blk_cell H2.out 3))
 go_big_region
 go_wp2;exact bodyPost_ret (v:=.tuple #[.string ⟨#[]⟩,.agg #[.slice A n0 c,.slice A' n1 c',.slice none 0 0,.slice none 0 0],.bool false]) (by simp [results,Tryz.results73,go_sem,p0,p1,p2,p3]) rfl ⟨_,_,_,[],[],rfl,Kd.R_nil _ _ _ _ _,Kd.R_nil _ _ _ _ _,fun p h=>(by cases h),below4 HB.out (Nat.le_succ _) _ _ _ _⟩
end
def numsT (sh:ByteArray) (ws:List ByteArray):Nat->Option (List Int)
 | 0=>some []
 | i + 1=>match numsT sh ws i with
  | some l=>if bt sh (i:Int) = 110 then (rdCount (ws.getD i ⟨#[]⟩)).map fun k=>l ++ [k] else none
  | none=>none
theorem numsT_length {sh:ByteArray} {ws:List ByteArray}:∀ {i:Nat} {l:List Int},numsT sh ws i = some l->l.length = i
 | 0,l,h=>by cases h;rfl
 | i + 1,l,h=>by
  simp only [numsT] at h
  cases hq:numsT sh ws i with
  | none=>rw [hq] at h;cases h
  | some m =>
   rw [hq] at h;dsimp only at h
   split at h
   ·
    cases hr:rdCount (ws.getD i ⟨#[]⟩) with
    | none=>rw [hr] at h;cases h
    | some k=>rw [hr] at h;cases h;rw [List.length_append,numsT_length hq];rfl
   · cases h
theorem numsT_none {sh:ByteArray} {ws:List ByteArray}:∀ {i:Nat} (j:Nat),numsT sh ws i = none->numsT sh ws (i + j) = none
 | i,0,h=>h
 | i,j + 1,h=>by
  have:=numsT_none j h;rw [Nat.add_succ,numsT,this]
theorem ne1_ {n cap:Nat} (h:0 < n) (h2:n + 1<=cap):(cap = 1) = False:=eq_false (by omega)
theorem readI_some {s:ByteArray} {k:Int} (h:rdCount s = some k):readI s = k:=by unfold readI;rw [h];rfl
theorem readI_none {s:ByteArray} (h:rdCount s = none):readI s = -1:=by unfold readI;rw [h];rfl
theorem read_nums {F:Fns} (hS:SpecOk F) (A:Option Addr) (n0 c:Nat) (A':Option Addr) (n1 c':Nat) (s:ByteArray) (hs:s.size<=3000) (w:World) (a:ByteArray) (ws:List ByteArray) (hp:pieces s 32 = a :: ws) (sh:ByteArray) (hsh:shapeB a = sh) (hz:sh.size = ws.length) (hw:0 < ws.length) (hno:∀ i:Nat,i < sh.size->bt sh (i:Int) ≠ 108) :
  Calls Tryz.prog 73 #[.agg #[.slice A n0 c,.slice A' n1 c'],.string s] w (GotRead A n0 c A' n1 c' ((numsT sh ws ws.length).map fun l=>(a,[],l)) w):=by
 obtain ⟨n,hn⟩:∃ n,n = ws.length:=⟨_,rfl⟩
 have hl:=pieces_length s 32;rw [hp] at hl;have hle:=Lib.countB_le ⟨#[32]⟩ (Nat.le_refl 1) s.size s (Nat.le_refl _)
 have hn9:n<=3000:=by simp at hl;omega
 have HN1:Aside0 (0 < n):=⟨by omega⟩
 have HSP:=am_ (show Calls Tryz.prog 48 _ _ (SplitPost A n0 c A' n1 c' (a :: ws) (n + 1) w) from by have h:=read_split hS A n0 c A' n1 c' s hs w;rw [hp] at h;rw [hn];exact h);have HSH:=am_ fun W=>hsh ▸ hS.shape a W;have HRD:=am_ hS.read;have HWS:=am_ (show ∀ b ∈ ws,b.size<=2000000 from fun b hb=>Nat.le_trans (Nat.le_trans (pieces_size (s:=s) (c:=32) (by rw [hp];exact List.mem_cons_of_mem _ hb)) hs) (by omega));have HNO:=am_ hno;have HNN:=am_ hn
 obtain ⟨o,ho⟩:∃ o:Option (ByteArray × List Int × List Int),o = (numsT sh ws ws.length).map fun l=>(a,[],l):=⟨_,rfl⟩
 have HOO:=am_ (show ∀ l,numsT sh ws n = some l->o = some (a,[],l) from fun l h=>by rw [ho,<- hn,h];rfl)
 have HON:=am_ (show ∀ i,i < n->numsT sh ws (i + 1) = none->o = none from fun i hi h=>by
  have:=numsT_none (n - (i + 1)) h;rw [show i + 1 + (n - (i + 1)) = n by omega] at this
  rw [ho,<- hn,this];rfl)
 rw [<- ho];have q1:((sh.size:Int) != ((n:Int) + 1) - 1) = false:=bne_eq_false_iff_eq.2 (by omega);have q1b:((sh.size:Int) != (n:Int)) = false:=bne_eq_false_iff_eq.2 (by omega);have HZ:=am_ (show sh.size = n by omega);clear hS hs hp hsh hl hle hno hz hn ho hw;go_enter Tryz.func73,Tryz.ntmps73
 go_wp2_with (first
  | (go_at_call 48;refine HSP.out.mono ?_;rintro e w1 ⟨gb,cap,cur,rfl,hcap,hgb,hcu,hx,h1,h2,hb⟩;have hx0:w1.cell? ⟨gb,0,none⟩ = some (.string a):=(blk_cell hcu 0).trans (hx 0 a rfl);have HX:=am_ hx;have HCU:=am_ hcu;have H1:=am_ h1;have H2:=am_ h2;have HB:=am_ hb;have HGB:=am_ hgb;have hcc:=ne1_ HN1.out hcap;clear hx h1 h2 hb hcu hgb)
  | (go_at_call 115;refine (HSH.out _).mono ?_;rintro e w2 ⟨rfl,hb⟩;replace HCU:=am_ (blk_below HCU.out hb);replace H1:=am_ (blk_below H1.out hb);replace H2:=am_ (blk_below H2.out hb);replace HB:=am_ (below_step HB.out hb);clear hb hx0))
 all_goals
  go_loopg [32] n (fun kq v32 w'=>∃ (i:Nat) (iz:Int) (A3:Option Addr) (c3:Nat) (l:List Int),v32 = .int .i64 iz/\Aside0 (iz = (i:Int))/\Aside0 (i + kq = n)/\Aside0 (numsT sh ws i = some l)/\Aside0 (Kd.R (Kd.int .i64) 3 w' w.heap.size (fun _=>True) (.slice A3 l.length c3) l)/\Aside0 (w'.heap[w.heap.size + 1 + 1]? = some (.cells #[.slice A n0 c,.slice A' n1 c',.slice none 0 0,.slice A3 l.length c3] 87 (0,0)))/\Aside0 (w'.heap[w.heap.size + 1]? = some (.cells #[.slice none 0 0,.slice none 0 0,.slice none 0 0,.slice none 0 0] 87 (0,0)))/\Aside0 (w'.heap[gb]? = some (.cells cur 9 (0,0)))/\Aside0 (Below w.heap.size w w'))
  case atStart=>exact ⟨0,0,none,0,[],rfl,⟨rfl⟩,⟨by omega⟩,⟨rfl⟩,⟨Kd.R_nil _ _ _ _ _⟩,H2,H1,HCU,HB⟩
  case round =>
   clear H1 H2 HCU HB;obtain ⟨i,iz,A3,c3,l,rfl,NI,NK,NL,HR3,H2,H1,HCU,HB⟩:=hrel
   cases gk with
   | zero =>
    have hi:i = n:=by have:=NK.out;omega
    subst hi;have q4:decide (iz < (i:Int)) = false:=decide_eq_false (by have:=NI.out;omega);have HOE:=am_ (HOO.out l NL.out);have hx0:wr.cell? ⟨gb,0,none⟩ = some (.string a):=(blk_cell HCU.out 0).trans (HX.out 0 a rfl);have p0:wr.cell? ⟨w.heap.size + 1,0,none⟩ = some (.slice none 0 0):=blk_cell H1.out 0;have f0:=blk_frozen H1.out 0;have p1:wr.cell? ⟨w.heap.size + 1,1,none⟩ = some (.slice none 0 0):=blk_cell H1.out 1;have f1:=blk_frozen H1.out 1;have p2:wr.cell? ⟨w.heap.size + 1,2,none⟩ = some (.slice none 0 0):=blk_cell H1.out 2;have f2:=blk_frozen H1.out 2;have p3:wr.cell? ⟨w.heap.size + 1,3,none⟩ = some (.slice none 0 0):=blk_cell H1.out 3;have f3:=blk_frozen H1.out 3;have r0:wr.cell? ⟨w.heap.size + 1 + 1,0,none⟩ = some (.slice A n0 c):=blk_cell H2.out 0;have r1:wr.cell? ⟨w.heap.size + 1 + 1,1,none⟩ = some (.slice A' n1 c'):=blk_cell H2.out 1;have r2:wr.cell? ⟨w.heap.size + 1 + 1,2,none⟩ = some (.slice none 0 0):=blk_cell H2.out 2;have r3:wr.cell? ⟨w.heap.size + 1 + 1,3,none⟩ = some (.slice A3 l.length c3):=blk_cell H2.out 3;go_wp2
    go_big_region
    go_wp2;exact bodyPost_ret (v:=.tuple #[.string a,.agg #[.slice A n0 c,.slice A' n1 c',.slice none 0 0,.slice A3 l.length c3],.bool true]) (by simp [results,Tryz.results73,go_sem,p0,p1,p2,p3]) rfl ⟨_,_,_,[],_,by rw [HOE.out];rfl,Kd.R_nil _ _ _ _ _,set4 H1.out HR3.out (by decide) _ _ _ _,fun p h=>(by rw [HOE.out] at h;cases h;rfl),below4 HB.out (Nat.le_succ _) _ _ _ _⟩
   | succ d =>
    have hi0:0<=iz:=by have:=NI.out;omega
    have hin:iz < (n:Int):=by have:=NI.out;have:=NK.out;omega
    have q4:decide (iz < (n:Int)) = true:=decide_eq_true hin
    have hiw:i < ws.length:=by have:=NK.out;have:=HNN.out;omega
    obtain ⟨b,hb0⟩:∃ b,b = ws.getD i ⟨#[]⟩:=⟨_,rfl⟩
    have hbi:ws[i]? = some b:=by rw [hb0,List.getD_eq_getElem?_getD,List.getElem?_eq_getElem hiw];rfl
    have HBZ:=am_ (show b.size<=2000000 from HWS.out b (List.mem_of_getElem? hbi));have hxb:wr.cell? ⟨gb,1 + iz.toNat,none⟩ = some (.string b):=(blk_cell HCU.out _).trans (HX.out _ b (by rw [NI.out,Int.toNat_natCast,Nat.add_comm];exact hbi));have p5:(0<=iz) = True:=eq_true hi0;have q5:(iz < (sh.size:Int)) = True:=eq_true (by rw [HZ.out];exact hin);have hx5:=bt_at sh iz;have HT:=am_ (show numsT sh ws (i + 1) = if bt sh iz = 110 then (rdCount b).map fun k=>l ++ [k] else none by rw [numsT,NL.out,<- hb0,NI.out]);have HLt:=am_ (show l.length < 17592186044416 by rw [numsT_length NL.out];have:=NK.out;omega);have HI:=am_ (show wrap64 (iz + 1) = ((i + 1:Nat):Int) by rw [NI.out];have:=NK.out;rw [wrap64_in _ (by omega) (by omega)];omega);have hn108:=HNO.out i (by have:=HZ.out;have:=NK.out;omega);rw [<- NI.out] at hn108
    have hlt:i < n:=by have:=NK.out;omega
    have HNX:=am_ (HON.out i hlt);clear hiw hb0 hbi hlt;replace hi0:=eq_true hi0;replace hin:=eq_true hin
    by_cases c1:bt sh iz = 110
    ·
     have q6:(bt sh iz == 110) = true:=beq_iff_eq.2 c1;rw [if_pos c1] at HT;clear c1 hn108
     cases hr:rdCount b with
     | none =>
      rw [hr] at HT;have HOE:=am_ (HNX.out HT.out);have HRI:=am_ (readI_none hr);clear hr
      go_wp2_with (first
       | (go_at_call 116;refine (HRD.out b _ HBZ.out).mono ?_;rintro e w5 ⟨rfl,hb⟩;rw [HRI.out];replace H2:=am_ (blk_below H2.out hb);replace H1:=am_ (blk_below H1.out hb);replace HR3:=am_ (Kd.R_below HR3.out hb);replace HB:=am_ (below_step HB.out hb);clear hb;have r3:w5.cell? ⟨w.heap.size + 1 + 1,3,none⟩ = some (.slice A3 l.length c3):=blk_cell H2.out 3)
       | (at_builtin;refine apI_ (w0:=w) (.tmp 47) (.tmp 49) _ _ _ HR3.out HB.out HLt.out ?_;intro v1 w6 ho hb hg;obtain ⟨A4,c4,rfl⟩:=Kd.R_slice ho;have hne:=Kd.R_ne HR3.out H2.out (by decide);have hne1:=Kd.R_ne HR3.out H1.out (by decide);replace H2:=am_ (blk_grown H2.out hg hne);replace H1:=am_ (blk_grown H1.out hg hne1);have HR4:=am_ ho;replace HB:=am_ hb;clear ho hb hg hne hne1 r3;have p0:w6.cell? ⟨w.heap.size + 1,0,none⟩ = some (.slice none 0 0):=blk_cell H1.out 0;have f0:=blk_frozen H1.out 0;have p1:w6.cell? ⟨w.heap.size + 1,1,none⟩ = some (.slice none 0 0):=blk_cell H1.out 1;have f1:=blk_frozen H1.out 1;have p2:w6.cell? ⟨w.heap.size + 1,2,none⟩ = some (.slice none 0 0):=blk_cell H1.out 2;have f2:=blk_frozen H1.out 2;have p3:w6.cell? ⟨w.heap.size + 1,3,none⟩ = some (.slice none 0 0):=blk_cell H1.out 3;have f3:=blk_frozen H1.out 3;have r0:w6.cell? ⟨w.heap.size + 1 + 1,0,none⟩ = some (.slice A n0 c):=blk_cell H2.out 0;have r1:w6.cell? ⟨w.heap.size + 1 + 1,1,none⟩ = some (.slice A' n1 c'):=blk_cell H2.out 1;have r2:w6.cell? ⟨w.heap.size + 1 + 1,2,none⟩ = some (.slice none 0 0):=blk_cell H2.out 2;have r3:w6.cell? ⟨w.heap.size + 1 + 1,3,none⟩ = some (.slice A3 l.length c3):=blk_cell H2.out 3;have g3:=blk_frozen H2.out 3))
      go_big_region
      go_wp2;exact bodyPost_ret (v:=.tuple #[.string ⟨#[]⟩,.agg #[.slice A n0 c,.slice A' n1 c',.slice none 0 0,.slice A4 (l ++ [-1]).length c4],.bool false]) (by simp [results,Tryz.results73,go_sem,p0,p1,p2,p3]) rfl ⟨_,_,_,[],_,by rw [HOE.out];rfl,Kd.R_nil _ _ _ _ _,set4 (blk_far H1.out (by show w.heap.size + 1 ≠ w.heap.size + 1 + 1;omega) _) (Kd.R_set HR4.out H2.out (by decide) 3 _) (by decide) _ _ _ _,fun p h=>(by rw [HOE.out] at h;cases h),below4 (below_set HB.out (by omega)) (Nat.le_succ _) _ _ _ _⟩
     | some k =>
      rw [hr] at HT;have HRI:=am_ (readI_some hr);replace HT:=am_ (show numsT sh ws (i + 1) = some (l ++ [k]) from HT.out);have hk:=rdCount_in hr;have q7:decide (k >= 0) = true:=decide_eq_true hk.1;have q8:decide (0<=k) = true:=decide_eq_true hk.1;clear hr hk
      go_wp2_with (first
       | (go_at_call 116;refine (HRD.out b _ HBZ.out).mono ?_;rintro e w5 ⟨rfl,hb⟩;rw [HRI.out];replace H2:=am_ (blk_below H2.out hb);replace H1:=am_ (blk_below H1.out hb);replace HCU:=am_ (blk_below HCU.out hb);replace HR3:=am_ (Kd.R_below HR3.out hb);replace HB:=am_ (below_step HB.out hb);clear hb;have r3:w5.cell? ⟨w.heap.size + 1 + 1,3,none⟩ = some (.slice A3 l.length c3):=blk_cell H2.out 3)
       | (at_builtin;refine apI_ (w0:=w) (.tmp 47) (.tmp 49) _ _ _ HR3.out HB.out HLt.out ?_;intro v1 w6 ho hb hg;obtain ⟨A4,c4,rfl⟩:=Kd.R_slice ho;have hne:=Kd.R_ne HR3.out H2.out (by decide);have hne1:=Kd.R_ne HR3.out H1.out (by decide);have hne2:=Kd.R_ne HR3.out HCU.out (by decide);replace H2:=am_ (blk_grown H2.out hg hne);replace H1:=am_ (blk_grown H1.out hg hne1);replace HCU:=am_ (blk_grown HCU.out hg hne2);have HR4:=am_ ho;replace HB:=am_ hb;clear ho hb hg hne hne1 hne2 r3;have r3:w6.cell? ⟨w.heap.size + 1 + 1,3,none⟩ = some (.slice A3 l.length c3):=blk_cell H2.out 3;have g3:=blk_frozen H2.out 3))
      go_roundg d
      case measure=>omega
      case rel=>exact ⟨i + 1,_,_,_,_,rfl,HI,⟨by have:=NK.out;omega⟩,⟨HT.out⟩,⟨Kd.R_set HR4.out H2.out (by decide) 3 _⟩,⟨blk_put H2.out 3 _ (by simp)⟩,⟨blk_far H1.out (by show w.heap.size + 1 ≠ w.heap.size + 1 + 1;omega) _⟩,⟨blk_far HCU.out (by show gb ≠ w.heap.size + 1 + 1;have:=HGB.out;omega) _⟩,⟨below_set HB.out (by omega)⟩⟩
    ·
     have q6:(bt sh iz == 110) = false:=beq_eq_false_iff_ne.2 c1;have q9:(bt sh iz == 108) = false:=beq_eq_false_iff_ne.2 hn108;rw [if_neg c1] at HT;have HOE:=am_ (HNX.out HT.out);clear c1 hn108;have p0:wr.cell? ⟨w.heap.size + 1,0,none⟩ = some (.slice none 0 0):=blk_cell H1.out 0;have f0:=blk_frozen H1.out 0;have p1:wr.cell? ⟨w.heap.size + 1,1,none⟩ = some (.slice none 0 0):=blk_cell H1.out 1;have f1:=blk_frozen H1.out 1;have p2:wr.cell? ⟨w.heap.size + 1,2,none⟩ = some (.slice none 0 0):=blk_cell H1.out 2;have f2:=blk_frozen H1.out 2;have p3:wr.cell? ⟨w.heap.size + 1,3,none⟩ = some (.slice none 0 0):=blk_cell H1.out 3;have f3:=blk_frozen H1.out 3;have r0:wr.cell? ⟨w.heap.size + 1 + 1,0,none⟩ = some (.slice A n0 c):=blk_cell H2.out 0;have r1:wr.cell? ⟨w.heap.size + 1 + 1,1,none⟩ = some (.slice A' n1 c'):=blk_cell H2.out 1;have r2:wr.cell? ⟨w.heap.size + 1 + 1,2,none⟩ = some (.slice none 0 0):=blk_cell H2.out 2;have r3:wr.cell? ⟨w.heap.size + 1 + 1,3,none⟩ = some (.slice A3 l.length c3):=blk_cell H2.out 3;go_wp2
     go_big_region
     go_wp2;exact bodyPost_ret (v:=.tuple #[.string ⟨#[]⟩,.agg #[.slice A n0 c,.slice A' n1 c',.slice none 0 0,.slice A3 l.length c3],.bool false]) (by simp [results,Tryz.results73,go_sem,p0,p1,p2,p3]) rfl ⟨_,_,_,[],_,by rw [HOE.out];rfl,Kd.R_nil _ _ _ _ _,set4 H1.out HR3.out (by decide) _ _ _ _,fun p h=>(by rw [HOE.out] at h;cases h),below4 HB.out (Nat.le_succ _) _ _ _ _⟩
theorem read_word {F:Fns} (hS:SpecOk F) (A:Option Addr) (n0 c:Nat) (A':Option Addr) (n1 c':Nat) (s:ByteArray) (hs:s.size<=3000) (w:World) (a:ByteArray) (hp:pieces s 32 = [a]) (hsh:shapeB a = ⟨#[]⟩) :
  Calls Tryz.prog 73 #[.agg #[.slice A n0 c,.slice A' n1 c'],.string s] w (GotRead A n0 c A' n1 c' (some (a,[],[])) w):=by
 have HSP:=am_ (show Calls Tryz.prog 48 _ _ (SplitPost A n0 c A' n1 c' [a] 1 w) from by have h:=read_split hS A n0 c A' n1 c' s hs w;rw [hp] at h;exact h);have HSH:=am_ fun W=>hsh ▸ hS.shape a W;clear hS hs hp hsh;go_enter Tryz.func73,Tryz.ntmps73
 go_wp2_with (first
  | (go_at_call 48;refine HSP.out.mono ?_;rintro e w1 ⟨gb,cap,cur,rfl,hcap,hgb,hcu,hx,h1,h2,hb⟩;have hx0:w1.cell? ⟨gb,0,none⟩ = some (.string a):=(blk_cell hcu 0).trans (hx 0 a rfl);have HX:=am_ hx;have HCU:=am_ hcu;have H1:=am_ h1;have H2:=am_ h2;have HB:=am_ hb;clear hx h1 h2 hb hcu hgb)
  | (go_at_call 115;refine (HSH.out _).mono ?_;rintro e w2 ⟨rfl,hb⟩;replace HCU:=am_ (blk_below HCU.out hb);replace H1:=am_ (blk_below H1.out hb);replace H2:=am_ (blk_below H2.out hb);replace HB:=am_ (below_step HB.out hb);clear hb hx0))
 all_goals
  have hx0:w2.cell? ⟨gb,0,none⟩ = some (.string a):=(blk_cell HCU.out 0).trans (HX.out 0 a rfl);have p0:w2.cell? ⟨w.heap.size + 1,0,none⟩ = some (.slice none 0 0):=blk_cell H1.out 0;have f0:=blk_frozen H1.out 0;have p1:w2.cell? ⟨w.heap.size + 1,1,none⟩ = some (.slice none 0 0):=blk_cell H1.out 1;have f1:=blk_frozen H1.out 1;have p2:w2.cell? ⟨w.heap.size + 1,2,none⟩ = some (.slice none 0 0):=blk_cell H1.out 2;have f2:=blk_frozen H1.out 2;have p3:w2.cell? ⟨w.heap.size + 1,3,none⟩ = some (.slice none 0 0):=blk_cell H1.out 3;have f3:=blk_frozen H1.out 3;have r0:w2.cell? ⟨w.heap.size + 1 + 1,0,none⟩ = some (.slice A n0 c):=blk_cell H2.out 0;have r1:w2.cell? ⟨w.heap.size + 1 + 1,1,none⟩ = some (.slice A' n1 c'):=blk_cell H2.out 1;have r2:w2.cell? ⟨w.heap.size + 1 + 1,2,none⟩ = some (.slice none 0 0):=blk_cell H2.out 2;have r3:w2.cell? ⟨w.heap.size + 1 + 1,3,none⟩ = some (.slice none 0 0):=blk_cell H2.out 3
  refine wp_loop_rounds 1 ?_
  rw [rounds_succ];go_wp2
  go_big_region
  go_wp2;exact bodyPost_ret (v:=.tuple #[.string a,.agg #[.slice A n0 c,.slice A' n1 c',.slice none 0 0,.slice none 0 0],.bool true]) (by simp [results,Tryz.results73,go_sem,p0,p1,p2,p3]) rfl ⟨_,_,_,[],[],rfl,Kd.R_nil _ _ _ _ _,Kd.R_nil _ _ _ _ _,fun p h=>(by cases h;rfl),below4 HB.out (Nat.le_succ _) _ _ _ _⟩
theorem read_list_some {F:Fns} (hS:SpecOk F) (A:Option Addr) (n0 c:Nat) (A':Option Addr) (n1 c':Nat) (s:ByteArray) (hs:s.size<=3000) (w:World) (a b:ByteArray) (hp:pieces s 32 = [a,b]) (hsh:shapeB a = ⟨#[108]⟩) (m:List Int) (hq:told b = some m) :
  Calls Tryz.prog 73 #[.agg #[.slice A n0 c,.slice A' n1 c'],.string s] w (GotRead A n0 c A' n1 c' (some (a,m,[])) w):=by
 have HSP:=am_ (show Calls Tryz.prog 48 _ _ (SplitPost A n0 c A' n1 c' [a,b] 2 w) from by have h:=read_split hS A n0 c A' n1 c' s hs w;rw [hp] at h;exact h);have HSH:=am_ fun W=>hsh ▸ hS.shape a W;have HPS:=am_ fun W=>hq ▸ hS.parse b W (Nat.le_trans (pieces_size (s:=s) (c:=32) (by rw [hp];simp)) hs);clear hS hs hp hsh hq;go_enter Tryz.func73,Tryz.ntmps73
 go_wp2_with (first
  | (go_at_call 48;refine HSP.out.mono ?_;rintro e w1 ⟨gb,cap,cur,rfl,hcap,hgb,hcu,hx,h1,h2,hb⟩;have hx0:w1.cell? ⟨gb,0,none⟩ = some (.string a):=(blk_cell hcu 0).trans (hx 0 a rfl);have HX:=am_ hx;have HCU:=am_ hcu;have H1:=am_ h1;have H2:=am_ h2;have HB:=am_ hb;have HGB:=am_ hgb;have hcc:=ne1_ (n:=1) (Nat.le_refl 1) hcap;clear hx h1 h2 hb hcu hgb)
  | (go_at_call 115;refine (HSH.out _).mono ?_;rintro e w2 ⟨rfl,hb⟩;replace HCU:=am_ (blk_below HCU.out hb);replace H1:=am_ (blk_below H1.out hb);replace H2:=am_ (blk_below H2.out hb);replace HB:=am_ (below_step HB.out hb);clear hb hx0;have hx1:w2.cell? ⟨gb,1,none⟩ = some (.string b):=(blk_cell HCU.out 1).trans (HX.out 1 b rfl)))
 refine wp_loop_rounds 2 ?_
 rw [rounds_succ]
 go_wp2_with (go_at_call 117;refine (HPS.out _).mono ?_;rintro e w3 ⟨v,l',rfl,ho,hm,hb⟩;cases hm _ rfl;obtain ⟨A3,c3,rfl⟩:=Kd.R_slice ho;have HR3:=am_ (Kd.R_lower ho (below_size HB.out));replace HCU:=am_ (blk_below HCU.out hb);replace H1:=am_ (blk_below H1.out hb);replace H2:=am_ (blk_below H2.out hb);replace HB:=am_ (below_step HB.out hb);clear ho hm hb;have hx0:w3.cell? ⟨gb,0,none⟩ = some (.string a):=(blk_cell HCU.out 0).trans (HX.out 0 a rfl);have p0:w3.cell? ⟨w.heap.size + 1,0,none⟩ = some (.slice none 0 0):=blk_cell H1.out 0;have f0:=blk_frozen H1.out 0;have p1:w3.cell? ⟨w.heap.size + 1,1,none⟩ = some (.slice none 0 0):=blk_cell H1.out 1;have f1:=blk_frozen H1.out 1;have p2:w3.cell? ⟨w.heap.size + 1,2,none⟩ = some (.slice none 0 0):=blk_cell H1.out 2;have f2:=blk_frozen H1.out 2;have p3:w3.cell? ⟨w.heap.size + 1,3,none⟩ = some (.slice none 0 0):=blk_cell H1.out 3;have f3:=blk_frozen H1.out 3;have r0:w3.cell? ⟨w.heap.size + 1 + 1,0,none⟩ = some (.slice A n0 c):=blk_cell H2.out 0;have r1:w3.cell? ⟨w.heap.size + 1 + 1,1,none⟩ = some (.slice A' n1 c'):=blk_cell H2.out 1;have r2:w3.cell? ⟨w.heap.size + 1 + 1,2,none⟩ = some (.slice none 0 0):=blk_cell H2.out 2;have r3:w3.cell? ⟨w.heap.size + 1 + 1,3,none⟩ = some (.slice none 0 0):=blk_cell H2.out 3;have g2:=blk_frozen H2.out 2)
 rw [rounds_succ];go_wp2
 go_big_region
 go_wp2;exact bodyPost_ret (v:=.tuple #[.string a,.agg #[.slice A n0 c,.slice A' n1 c',.slice A3 m.length c3,.slice none 0 0],.bool true]) (by simp [results,Tryz.results73,go_sem,p0,p1,p2,p3]) rfl ⟨_,_,_,_,[],rfl,set4 (blk_far H1.out (by show w.heap.size + 1 ≠ w.heap.size + 1 + 1;omega) _) (Kd.R_set HR3.out H2.out (by decide) 2 _) (by decide) _ _ _ _,Kd.R_nil _ _ _ _ _,fun p h=>(by cases h;rfl),below4 (below_set HB.out (by omega)) (Nat.le_succ _) _ _ _ _⟩
theorem read_list_none {F:Fns} (hS:SpecOk F) (A:Option Addr) (n0 c:Nat) (A':Option Addr) (n1 c':Nat) (s:ByteArray) (hs:s.size<=3000) (w:World) (a b:ByteArray) (hp:pieces s 32 = [a,b]) (hsh:shapeB a = ⟨#[108]⟩) (hq:told b = none) :
  Calls Tryz.prog 73 #[.agg #[.slice A n0 c,.slice A' n1 c'],.string s] w (GotRead A n0 c A' n1 c' (none) w):=by
 have HSP:=am_ (show Calls Tryz.prog 48 _ _ (SplitPost A n0 c A' n1 c' [a,b] 2 w) from by have h:=read_split hS A n0 c A' n1 c' s hs w;rw [hp] at h;exact h);have HSH:=am_ fun W=>hsh ▸ hS.shape a W;have HPS:=am_ fun W=>hq ▸ hS.parse b W (Nat.le_trans (pieces_size (s:=s) (c:=32) (by rw [hp];simp)) hs);clear hS hs hp hsh hq;go_enter Tryz.func73,Tryz.ntmps73
 go_wp2_with (first
  | (go_at_call 48;refine HSP.out.mono ?_;rintro e w1 ⟨gb,cap,cur,rfl,hcap,hgb,hcu,hx,h1,h2,hb⟩;have hx0:w1.cell? ⟨gb,0,none⟩ = some (.string a):=(blk_cell hcu 0).trans (hx 0 a rfl);have HX:=am_ hx;have HCU:=am_ hcu;have H1:=am_ h1;have H2:=am_ h2;have HB:=am_ hb;have HGB:=am_ hgb;have hcc:=ne1_ (n:=1) (Nat.le_refl 1) hcap;clear hx h1 h2 hb hcu hgb)
  | (go_at_call 115;refine (HSH.out _).mono ?_;rintro e w2 ⟨rfl,hb⟩;replace HCU:=am_ (blk_below HCU.out hb);replace H1:=am_ (blk_below H1.out hb);replace H2:=am_ (blk_below H2.out hb);replace HB:=am_ (below_step HB.out hb);clear hb hx0;have hx1:w2.cell? ⟨gb,1,none⟩ = some (.string b):=(blk_cell HCU.out 1).trans (HX.out 1 b rfl)))
 refine wp_loop_rounds 2 ?_
 rw [rounds_succ]
 go_wp2_with (go_at_call 117;refine (HPS.out _).mono ?_;rintro e w3 ⟨v,l',rfl,ho,hm,hb⟩;obtain ⟨A3,c3,rfl⟩:=Kd.R_slice ho;have HR3:=am_ (Kd.R_lower ho (below_size HB.out));replace HCU:=am_ (blk_below HCU.out hb);replace H1:=am_ (blk_below H1.out hb);replace H2:=am_ (blk_below H2.out hb);replace HB:=am_ (below_step HB.out hb);clear ho hm hb;have hx0:w3.cell? ⟨gb,0,none⟩ = some (.string a):=(blk_cell HCU.out 0).trans (HX.out 0 a rfl);have p0:w3.cell? ⟨w.heap.size + 1,0,none⟩ = some (.slice none 0 0):=blk_cell H1.out 0;have f0:=blk_frozen H1.out 0;have p1:w3.cell? ⟨w.heap.size + 1,1,none⟩ = some (.slice none 0 0):=blk_cell H1.out 1;have f1:=blk_frozen H1.out 1;have p2:w3.cell? ⟨w.heap.size + 1,2,none⟩ = some (.slice none 0 0):=blk_cell H1.out 2;have f2:=blk_frozen H1.out 2;have p3:w3.cell? ⟨w.heap.size + 1,3,none⟩ = some (.slice none 0 0):=blk_cell H1.out 3;have f3:=blk_frozen H1.out 3;have r0:w3.cell? ⟨w.heap.size + 1 + 1,0,none⟩ = some (.slice A n0 c):=blk_cell H2.out 0;have r1:w3.cell? ⟨w.heap.size + 1 + 1,1,none⟩ = some (.slice A' n1 c'):=blk_cell H2.out 1;have r2:w3.cell? ⟨w.heap.size + 1 + 1,2,none⟩ = some (.slice none 0 0):=blk_cell H2.out 2;have r3:w3.cell? ⟨w.heap.size + 1 + 1,3,none⟩ = some (.slice none 0 0):=blk_cell H2.out 3;have g2:=blk_frozen H2.out 2)
 go_big_region
 go_wp2;exact bodyPost_ret (v:=.tuple #[.string ⟨#[]⟩,.agg #[.slice A n0 c,.slice A' n1 c',.slice A3 l'.length c3,.slice none 0 0],.bool false]) (by simp [results,Tryz.results73,go_sem,p0,p1,p2,p3]) rfl ⟨_,_,_,_,[],rfl,set4 (blk_far H1.out (by show w.heap.size + 1 ≠ w.heap.size + 1 + 1;omega) _) (Kd.R_set HR3.out H2.out (by decide) 2 _) (by decide) _ _ _ _,Kd.R_nil _ _ _ _ _,fun p h=>(by cases h),below4 (below_set HB.out (by omega)) (Nat.le_succ _) _ _ _ _⟩
theorem shape_cases (a:ByteArray):shapeB a = ⟨#[]⟩ \/ shapeB a = ⟨#[110]⟩ \/ shapeB a = ⟨#[110,110]⟩ \/ shapeB a = ⟨#[108]⟩ \/ shapeB a = ⟨#[63]⟩:=by
 unfold shapeB
 split
 · exact .inl rfl
 split
 · exact .inr (.inl rfl)
 split
 · exact .inr (.inr (.inl rfl))
 split
 · exact .inr (.inr (.inr (.inl rfl)))
 · exact .inr (.inr (.inr (.inr rfl)))
theorem read_any {F:Fns} (hS:SpecOk F) (A:Option Addr) (n0 c:Nat) (A':Option Addr) (n1 c':Nat) (s:ByteArray) (hs:s.size<=3000) (w:World) :
  Calls Tryz.prog 73 #[.agg #[.slice A n0 c,.slice A' n1 c'],.string s] w (GotRead A n0 c A' n1 c' (readP s) w):=by
 unfold readP;have hl:=pieces_length s 32
 have bad:∀ (a:ByteArray) (ws:List ByteArray),pieces s 32 = a :: ws->(shapeB a).size ≠ ws.length->Calls Tryz.prog 73 #[.agg #[.slice A n0 c,.slice A' n1 c'],.string s] w (GotRead A n0 c A' n1 c' none w):=fun a ws hp hne=>by
  refine read_bad hS A n0 c A' n1 c' s hs w ?_
  rw [hp];show ((shapeB a).size:Int) ≠ ((ws.length + 1:Nat):Int) - 1;omega
 cases hp:pieces s 32 with
 | nil=>rw [hp] at hl;simp at hl
 | cons a p1 =>
 have hb:=bad a p1 hp
 cases p1 with
 | nil =>
  dsimp only
  rcases shape_cases a with h | h | h | h | h
  · rw [h,if_pos rfl];exact read_word hS A n0 c A' n1 c' s hs w a hp h
  all_goals
   rw [h] at hb ⊢;rw [if_neg (by decide)];exact hb (by simp [ByteArray.size])
 | cons b p2 =>
 cases p2 with
 | nil =>
  dsimp only
  rcases shape_cases a with h | h | h | h | h
  · rw [h] at hb ⊢;rw [if_neg (by decide),if_neg (by decide)];exact hb (by simp [ByteArray.size])
  ·
   have h1:=read_nums hS A n0 c A' n1 c' s hs w a [b] hp ⟨#[110]⟩ h rfl (by simp) (fun i hi=>by
    have:i = 0:=by have:i < 1:=hi;omega
    subst this;decide)
   rw [h,if_pos rfl]
   have e:numsT ⟨#[110]⟩ [b] 1 = (rdCount b).map fun k=>[k]:=by
    simp only [numsT];rw [if_pos (by decide)];rfl
   have h2:(numsT ⟨#[110]⟩ [b] [b].length).map (fun l=>(a,([]:List Int),l)) = (rdCount b).map fun k=>(a,([]:List Int),[k]):=by
    show (numsT ⟨#[110]⟩ [b] 1).map _ = _
    rw [e];cases rdCount b <;> rfl
   rw [h2] at h1;exact h1
  · rw [h] at hb ⊢;rw [if_neg (by decide),if_neg (by decide)];exact hb (by simp [ByteArray.size])
  ·
   rw [h,if_neg (by decide),if_pos rfl]
   cases hq:told b with
   | none=>exact read_list_none hS A n0 c A' n1 c' s hs w a b hp h hq
   | some m=>exact read_list_some hS A n0 c A' n1 c' s hs w a b hp h m hq
  ·
   have h1:=read_nums hS A n0 c A' n1 c' s hs w a [b] hp ⟨#[63]⟩ h rfl (by simp) (fun i hi=>by
    have:i = 0:=by have:i < 1:=hi;omega
    subst this;decide)
   rw [h,if_neg (by decide),if_neg (by decide)]
   have h2:(numsT ⟨#[63]⟩ [b] [b].length).map (fun l=>(a,([]:List Int),l)) = none:=by
    show (numsT ⟨#[63]⟩ [b] 1).map _ = _;simp only [numsT];rw [if_neg (by decide)];rfl
   rw [h2] at h1;exact h1
 | cons d p3 =>
 cases p3 with
 | nil =>
  dsimp only
  rcases shape_cases a with h | h | h | h | h
  · rw [h] at hb ⊢;rw [if_neg (by decide)];exact hb (by simp [ByteArray.size])
  · rw [h] at hb ⊢;rw [if_neg (by decide)];exact hb (by simp [ByteArray.size])
  ·
   have h1:=read_nums hS A n0 c A' n1 c' s hs w a [b,d] hp ⟨#[110,110]⟩ h rfl (by simp) (fun i hi=>by
    have:i = 0 \/ i = 1:=by have:i < 2:=hi;omega
    rcases this with rfl | rfl <;> decide)
   rw [h,if_pos rfl]
   have h2:(numsT ⟨#[110,110]⟩ [b,d] [b,d].length).map (fun l=>(a,([]:List Int),l)) = match rdCount b,rdCount d with | some k,some r=>some (a,[],[k,r]) | _,_=>none:=by
    show (numsT ⟨#[110,110]⟩ [b,d] 2).map _ = _;simp only [numsT];rw [if_pos (by decide)];show (match (rdCount b).map (fun k=>[] ++ [k]) with | some l=>_ | none=>none:Option (List Int)).map _ = _
    cases rdCount b with
    | none=>rfl
    | some k =>
     dsimp only [Option.map];rw [if_pos (by decide)];show ((rdCount d).map _).map _ = _
     cases rdCount d <;> rfl
   rw [h2] at h1;exact h1
  · rw [h] at hb ⊢;rw [if_neg (by decide)];exact hb (by simp [ByteArray.size])
  · rw [h] at hb ⊢;rw [if_neg (by decide)];exact hb (by simp [ByteArray.size])
 | cons f r =>
  dsimp only
  refine hb ?_
  rcases shape_cases a with h | h | h | h | h <;> rw [h] <;> simp [ByteArray.size]
def GotStep (B:Nat) (x:Res) (w:World) (e:Ending) (w':World):Prop:=∃ v0 v1,e = .returned (.tuple #[.agg #[v0,v1],.string x.r])/\Kd.R (Kd.int .i64) 3 w' B (fun _=>True) v0 x.l/\Kd.R (Kd.int .i64) 3 w' B (fun _=>True) v1 x.t/\NeRow v0 v1/\Below w.heap.size w w'
structure StepOn (F:Fns) (B:Nat) (l t:List Int) (A:Option Addr) (c:Nat) (A':Option Addr) (c':Nat) (w:World):Prop where
 good:Good F
 pos:Pos F
 spec:SpecOk F
 park:F.park l = true
 tab:F.tab t = true
 low:B<=w.heap.size
 list:Kd.R (Kd.int .i64) 3 w B (fun _=>True) (.slice A l.length c) l
 table:Kd.R (Kd.int .i64) 3 w B (fun _=>True) (.slice A' t.length c') t
 ne:NeRow (.slice A l.length c) (.slice A' t.length c')
theorem StepOn.below {F:Fns} {B:Nat} {l t:List Int} {A:Option Addr} {c:Nat} {A':Option Addr} {c':Nat} {w w':World} (h:StepOn F B l t A c A' c' w) (hb:Below w.heap.size w w'):StepOn F B l t A c A' c' w':=⟨h.good,h.pos,h.spec,h.park,h.tab,Nat.le_trans h.low hb.size,Kd.R_below h.list hb,Kd.R_below h.table hb,h.ne⟩
theorem StepOn.line {F:Fns} {B:Nat} {l t m n:List Int} {A:Option Addr} {c:Nat} {A':Option Addr} {c':Nat} {w w1:World} {v2 v3:Value} (h:StepOn F B l t A c A' c' w) (hb:Below w.heap.size w w1) (h2:Kd.R (Kd.int .i64) 3 w1 w.heap.size (fun _=>True) v2 m) (h3:Kd.R (Kd.int .i64) 3 w1 w.heap.size (fun _=>True) v3 n) (hf:Few m) :
  StandL F B w1.heap.size l t m n (w1.alloc (.cells #[.slice A l.length c,.slice A' t.length c',v2,v3] 87)):=by
 have hB1:B<=w1.heap.size:=Nat.le_trans h.low hb.size;refine ⟨h.good,h.pos,h.spec,⟨hB1,_,_,_,_,blk_new _ _,?_,?_,?_,?_,h.ne,?_⟩,h.park,h.tab,hf,Nat.le_trans hB1 (by simp)⟩
 · exact Kd.R_alloc (Kd.R_below h.list hb) _
 · exact Kd.R_alloc (Kd.R_below h.table hb) _
 · exact Kd.R_alloc (Kd.R_lower h2 h.low) _
 · exact Kd.R_alloc (Kd.R_lower h3 h.low) _
 · exact ne_new h2 h.table
def two (x y:Value):Obj:=.cells #[x,y] 36
theorem step_what {F:Fns} {B:Nat} {l t:List Int} {A:Option Addr} {c:Nat} {A':Option Addr} {c':Nat} {w:World} (h:StepOn F B l t A c A' c' w) (s:ByteArray) (hs:s.size<=3000) (hq:readP s = none) :
  Calls Tryz.prog 49 #[.agg #[.slice A l.length c,.slice A' t.length c'],.string s] w (GotStep B ⟨l,t,whatB⟩ w):=by
 have b1:=below_alloc (Below.refl w.heap.size w) (.cells #[.slice A l.length c,.slice A' t.length c'] 36);have k1:(w.alloc (.cells #[.slice A l.length c,.slice A' t.length c'] 36)).heap[w.heap.size]? = some (.cells #[.slice A l.length c,.slice A' t.length c'] 36 (0,0)):=blk_new _ _
 have z1:(w.alloc (.cells #[.slice A l.length c,.slice A' t.length c'] 36)).heap.size = w.heap.size + 1:=by simp
 obtain ⟨Wb,hWb⟩:∃ W,W = (w.alloc (.cells #[.slice A l.length c,.slice A' t.length c'] 36)).alloc (.cells #[.slice none 0 0,.slice none 0 0] 36):=⟨_,rfl⟩
 have HW:=am_ hWb;have HKB:=am_ (show Wb.heap[w.heap.size]? = some (.cells #[.slice A l.length c,.slice A' t.length c'] 36 (0,0)) by rw [hWb];exact blk_alloc k1 _);have HKR:=am_ (show Wb.heap[w.heap.size + 1]? = some (.cells #[.slice none 0 0,.slice none 0 0] 36 (0,0)) by rw [hWb,<- z1];exact blk_new _ _);have HWB:=am_ (show Below w.heap.size w Wb by rw [hWb];exact below_alloc b1 _);have HON:=am_ (h.below HWB.out);have HRD:=am_ (show Calls Tryz.prog 73 _ _ (GotRead A l.length c A' t.length c' (none) Wb) from hq ▸ read_any h.spec A l.length c A' t.length c' s hs Wb);clear h hs hq b1 k1 z1 hWb;go_enter Tryz.func49,Tryz.ntmps49
 go_wp2_with (first
  | (go_at_call 73;rw [<- HW.out];refine HRD.out.mono ?_;rintro e w1 ⟨x',v2,v3,m',n',rfl,hr2,hr3,hm,hb⟩;obtain ⟨A2,c2,rfl⟩:=Kd.R_slice hr2;obtain ⟨A3,c3,rfl⟩:=Kd.R_slice hr3;have HR2:=am_ hr2;have HR3:=am_ hr3;have HB:=am_ hb;replace HKB:=am_ (blk_below HKB.out hb);replace HKR:=am_ (blk_below HKR.out hb);clear hr2 hr3 hm hb;have r0:∀ o,(w1.alloc o).cell? ⟨w.heap.size,0,none⟩ = some (.slice A l.length c):=fun o=>cell_b (blk_cell HKB.out 0) (below_alloc (Below.refl _ _) o);have r1:∀ o,(w1.alloc o).cell? ⟨w.heap.size,1,none⟩ = some (.slice A' t.length c'):=fun o=>cell_b (blk_cell HKB.out 1) (below_alloc (Below.refl _ _) o);have p0:∀ o,(w1.alloc o).cell? ⟨w.heap.size + 1,0,none⟩ = some (.slice none 0 0):=fun o=>cell_b (blk_cell HKR.out 0) (below_alloc (Below.refl _ _) o);have p1:∀ o,(w1.alloc o).cell? ⟨w.heap.size + 1,1,none⟩ = some (.slice none 0 0):=fun o=>cell_b (blk_cell HKR.out 1) (below_alloc (Below.refl _ _) o);have f0:∀ o,(w1.alloc o).frozen? ⟨w.heap.size + 1,0,none⟩ = false:=fun o=>blk_frozen (blk_alloc HKR.out o) 0;have f1:∀ o,(w1.alloc o).frozen? ⟨w.heap.size + 1,1,none⟩ = false:=fun o=>blk_frozen (blk_alloc HKR.out o) 1))
 have H2:=am_ (Kd.R_below HON.out.list HB.out);have H3:=am_ (Kd.R_below HON.out.table HB.out);have hbl:=below_alloc (Below.refl w1.heap.size w1) (.cells #[.slice A l.length c,.slice A' t.length c',.slice A2 m'.length c2,.slice A3 n'.length c3] 87);exact bodyPost_ret (v:=.tuple #[.agg #[.slice A l.length c,.slice A' t.length c'],.string whatB]) (by simp [results,Tryz.results49,go_sem,p0,p1];rfl) rfl ⟨_,_,rfl,set2 (blk_alloc HKR.out _) (Kd.R_alloc H2.out _) (by decide),set2 (blk_alloc HKR.out _) (Kd.R_alloc H3.out _) (by decide),HON.out.ne,below_set (below_set (below_alloc (below_step HWB.out HB.out) _) (Nat.le_succ _)) (Nat.le_succ _)⟩
theorem step_moved {F:Fns} {B:Nat} {l t:List Int} {A:Option Addr} {c:Nat} {A':Option Addr} {c':Nat} {w:World} (h:StepOn F B l t A c A' c' w) (s:ByteArray) (hs:s.size<=3000) (a:ByteArray) (m n:List Int) (hf:Few m) (x:Res) (hw:a = (⟨#[116,97,107,101]⟩:ByteArray) \/ a = (⟨#[110,101,120,116]⟩:ByteArray) \/ a = (⟨#[97,116]⟩:ByteArray) \/ a = (⟨#[106,111,105,110]⟩:ByteArray) \/ a = (⟨#[110,101,119]⟩:ByteArray) \/ a = (⟨#[112,117,116]⟩:ByteArray) \/ a = (⟨#[100,114,111,112]⟩:ByteArray)) (hmv:∀ g W,StandL F B g l t m n W->Calls Tryz.prog 74 #[.pointer (some ⟨g,0,none⟩),.string a] W (LeftL B g x m n W)) (hq:readP s = some (a,m,n)) :
  Calls Tryz.prog 49 #[.agg #[.slice A l.length c,.slice A' t.length c'],.string s] w (GotStep B x w):=by
 have b1:=below_alloc (Below.refl w.heap.size w) (.cells #[.slice A l.length c,.slice A' t.length c'] 36);have k1:(w.alloc (.cells #[.slice A l.length c,.slice A' t.length c'] 36)).heap[w.heap.size]? = some (.cells #[.slice A l.length c,.slice A' t.length c'] 36 (0,0)):=blk_new _ _
 have z1:(w.alloc (.cells #[.slice A l.length c,.slice A' t.length c'] 36)).heap.size = w.heap.size + 1:=by simp
 obtain ⟨Wb,hWb⟩:∃ W,W = (w.alloc (.cells #[.slice A l.length c,.slice A' t.length c'] 36)).alloc (.cells #[.slice none 0 0,.slice none 0 0] 36):=⟨_,rfl⟩
 have HW:=am_ hWb;have HKB:=am_ (show Wb.heap[w.heap.size]? = some (.cells #[.slice A l.length c,.slice A' t.length c'] 36 (0,0)) by rw [hWb];exact blk_alloc k1 _);have HKR:=am_ (show Wb.heap[w.heap.size + 1]? = some (.cells #[.slice none 0 0,.slice none 0 0] 36 (0,0)) by rw [hWb,<- z1];exact blk_new _ _);have HWB:=am_ (show Below w.heap.size w Wb by rw [hWb];exact below_alloc b1 _);have HON:=am_ (h.below HWB.out);have HRD:=am_ (show Calls Tryz.prog 73 _ _ (GotRead A l.length c A' t.length c' (some (a,m,n)) Wb) from hq ▸ read_any h.spec A l.length c A' t.length c' s hs Wb);have HFW:=am_ hf;have HMV:=am_ hmv;clear h hs hq b1 k1 z1 hf hmv hWb
 rcases hw with rfl | rfl | rfl | rfl | rfl | rfl | rfl
 all_goals
  go_enter Tryz.func49,Tryz.ntmps49
  go_wp2_with (first
   | (go_at_call 73;go_loud (rw [<- HW.out];refine HRD.out.mono ?_;rintro e w1 ⟨x',v2,v3,m',n',rfl,hr2,hr3,hm,hb⟩;cases hm _ rfl;obtain ⟨A2,c2,rfl⟩:=Kd.R_slice hr2;obtain ⟨A3,c3,rfl⟩:=Kd.R_slice hr3;have HBz:=am_ hb;have HR2:=am_ hr2;have HR3:=am_ hr3;have HB:=am_ (below_step HWB.out hb);replace HKB:=am_ (blk_below HKB.out hb);replace HKR:=am_ (blk_below HKR.out hb);clear hr2 hr3 hm hb;have HSL:=am_ (StepOn.line HON.out HBz.out HR2.out HR3.out HFW.out);have HLT:=am_ (blk_lt HKR.out);have HKR1:=am_ (blk_alloc HKR.out (.cells #[.slice A l.length c,.slice A' t.length c',.slice A2 m.length c2,.slice A3 n.length c3] 87));have HKB1:=am_ (blk_alloc HKB.out (.cells #[.slice A l.length c,.slice A' t.length c',.slice A2 m.length c2,.slice A3 n.length c3] 87));clear HKR HKB))
   | (go_at_call 74;go_loud (refine (HMV.out _ _ HSL.out).mono ?_;rintro e w2 ⟨rfl,hl2,hg2⟩;obtain ⟨_,u0,u1,u2,u3,g1,g2,g3,_,_,hne,_⟩:=hl2;obtain ⟨B0,d0,rfl⟩:=Kd.R_slice g2;obtain ⟨B1,d1,rfl⟩:=Kd.R_slice g3;have hk:=blk_grown HKR1.out hg2 (by intro hk;have:=Option.some.inj hk;have:=HLT.out;omega);have HKR:=am_ hk;have s0:w2.cell? ⟨w1.heap.size,0,none⟩ = some (.slice B0 _ d0):=(blk_cell g1 0).trans rfl;have s1:w2.cell? ⟨w1.heap.size,1,none⟩ = some (.slice B1 _ d1):=(blk_cell g1 1).trans rfl;have p0:w2.cell? ⟨w.heap.size + 1,0,none⟩ = some (.slice none 0 0):=blk_cell hk 0;have p1:w2.cell? ⟨w.heap.size + 1,1,none⟩ = some (.slice none 0 0):=blk_cell hk 1;have f0:=blk_frozen hk 0;have f1:=blk_frozen hk 1;have HX0:=am_ g2;have HX1:=am_ g3;have HNE:=am_ hne;have HE:=am_ (pw_below_grown (below_alloc HB.out (.cells #[.slice A l.length c,.slice A' t.length c',.slice A2 m.length c2,.slice A3 n.length c3] 87)) (some w1.heap.size) (by have:=HB.out.size;simp;omega) hg2 (fun k hk=>by cases hk;exact HB.out.size));clear hk g1 g2 g3 hg2 hne)))
  exact bodyPost_ret (v:=.tuple #[.agg #[.slice B0 x.l.length d0,.slice B1 x.t.length d1],.string x.r]) (by simp [results,Tryz.results49,go_sem,p0,p1]) rfl ⟨_,_,rfl,set2 HKR.out HX0.out (by decide),set2 HKR.out HX1.out (by decide),HNE.out,below_set (below_set HE.out (Nat.le_succ _)) (Nat.le_succ _)⟩
theorem StandL.below {F:Fns} {B g:Nat} {l t m n:List Int} {w w':World} (h:StandL F B g l t m n w) (hb:Below w.heap.size w w'):StandL F B g l t m n w':=⟨h.good,h.pos,h.spec,h.at_.below hb,h.park,h.tab,h.few,Nat.le_trans h.low hb.size⟩
theorem bz_ {P:Prop} (h:P:=by repeat (first | exact Below.refl _ _ | apply below_drew1 | apply pw_below_drewN)):P:=h
theorem step_asked {F:Fns} {B:Nat} {l t:List Int} {A:Option Addr} {c:Nat} {A':Option Addr} {c':Nat} {w:World} (h:StepOn F B l t A c A' c' w) (s:ByteArray) (hs:s.size<=3000) (a:ByteArray) (m n:List Int) (hf:Few m) (r:ByteArray) (hw:a = (⟨#[108,105,115,116]⟩:ByteArray) \/ a = (⟨#[99,97,114,115]⟩:ByteArray) \/ a = (⟨#[102,97,114]⟩:ByteArray) \/ a = (⟨#[99,117,116,115]⟩:ByteArray) \/ a = (⟨#[114,97,110,107]⟩:ByteArray) \/ a = (⟨#[99,111,115,116]⟩:ByteArray) \/ a = (⟨#[116,97,98,108,101]⟩:ByteArray) \/ a = (⟨#[99,111,117,110,116]⟩:ByteArray) \/ a = (⟨#[98,97,99,107]⟩:ByteArray) \/ a = (⟨#[99,108,97,115,115]⟩:ByteArray) \/ a = (⟨#[102,105,110,100]⟩:ByteArray)) (hmv:∀ g W,StandL F B g l t m n W->Calls Tryz.prog 75 #[.pointer (some ⟨g,0,none⟩),.string a] W (LeftL B g ⟨l,t,r⟩ m n W)) (hq:readP s = some (a,m,n)) :
  Calls Tryz.prog 49 #[.agg #[.slice A l.length c,.slice A' t.length c'],.string s] w (GotStep B ⟨l,t,r⟩ w):=by
 have b1:=below_alloc (Below.refl w.heap.size w) (.cells #[.slice A l.length c,.slice A' t.length c'] 36);have k1:(w.alloc (.cells #[.slice A l.length c,.slice A' t.length c'] 36)).heap[w.heap.size]? = some (.cells #[.slice A l.length c,.slice A' t.length c'] 36 (0,0)):=blk_new _ _
 have z1:(w.alloc (.cells #[.slice A l.length c,.slice A' t.length c'] 36)).heap.size = w.heap.size + 1:=by simp
 obtain ⟨Wb,hWb⟩:∃ W,W = (w.alloc (.cells #[.slice A l.length c,.slice A' t.length c'] 36)).alloc (.cells #[.slice none 0 0,.slice none 0 0] 36):=⟨_,rfl⟩
 have HW:=am_ hWb;have HKB:=am_ (show Wb.heap[w.heap.size]? = some (.cells #[.slice A l.length c,.slice A' t.length c'] 36 (0,0)) by rw [hWb];exact blk_alloc k1 _);have HKR:=am_ (show Wb.heap[w.heap.size + 1]? = some (.cells #[.slice none 0 0,.slice none 0 0] 36 (0,0)) by rw [hWb,<- z1];exact blk_new _ _);have HWB:=am_ (show Below w.heap.size w Wb by rw [hWb];exact below_alloc b1 _);have HON:=am_ (h.below HWB.out);have HRD:=am_ (show Calls Tryz.prog 73 _ _ (GotRead A l.length c A' t.length c' (some (a,m,n)) Wb) from hq ▸ read_any h.spec A l.length c A' t.length c' s hs Wb);have HFW:=am_ hf;have HMV:=am_ hmv;clear h hs hq b1 k1 z1 hf hmv hWb
 rcases hw with rfl | rfl | rfl | rfl | rfl | rfl | rfl | rfl | rfl | rfl | rfl
 all_goals
  go_enter Tryz.func49,Tryz.ntmps49
  go_wp2_with (first
   | (go_at_call 73;go_loud (rw [<- HW.out];refine HRD.out.mono ?_;rintro e w1 ⟨x',v2,v3,m',n',rfl,hr2,hr3,hm,hb⟩;cases hm _ rfl;obtain ⟨A2,c2,rfl⟩:=Kd.R_slice hr2;obtain ⟨A3,c3,rfl⟩:=Kd.R_slice hr3;have HBz:=am_ hb;have HR2:=am_ hr2;have HR3:=am_ hr3;have HB:=am_ (below_step HWB.out hb);replace HKB:=am_ (blk_below HKB.out hb);replace HKR:=am_ (blk_below HKR.out hb);clear hr2 hr3 hm hb;have R0:∀ o,(w1.alloc o).cell? ⟨w.heap.size,0,none⟩ = some (.slice A l.length c):=fun o=>cell_b (blk_cell HKB.out 0) (below_alloc (Below.refl _ _) o);have R1:∀ o,(w1.alloc o).cell? ⟨w.heap.size,1,none⟩ = some (.slice A' t.length c'):=fun o=>cell_b (blk_cell HKB.out 1) (below_alloc (Below.refl _ _) o);have P0:∀ o,(w1.alloc o).cell? ⟨w.heap.size + 1,0,none⟩ = some (.slice none 0 0):=fun o=>cell_b (blk_cell HKR.out 0) (below_alloc (Below.refl _ _) o);have P1:∀ o,(w1.alloc o).cell? ⟨w.heap.size + 1,1,none⟩ = some (.slice none 0 0):=fun o=>cell_b (blk_cell HKR.out 1) (below_alloc (Below.refl _ _) o);have F0:∀ o,(w1.alloc o).frozen? ⟨w.heap.size + 1,0,none⟩ = false:=fun o=>blk_frozen (blk_alloc HKR.out o) 0;have F1:∀ o,(w1.alloc o).frozen? ⟨w.heap.size + 1,1,none⟩ = false:=fun o=>blk_frozen (blk_alloc HKR.out o) 1;have hb9:=HBz.out;have HL0:=am_ (Kd.R_alloc (Kd.R_below HON.out.list hb9) (.cells #[.slice A l.length c,.slice A' t.length c',.slice A2 m.length c2,.slice A3 n.length c3] 87));have HL1:=am_ (Kd.R_alloc (Kd.R_below HON.out.table hb9) (.cells #[.slice A l.length c,.slice A' t.length c',.slice A2 m.length c2,.slice A3 n.length c3] 87));have HNL:=am_ (blk_new w1 (.cells #[.slice A l.length c,.slice A' t.length c',.slice A2 m.length c2,.slice A3 n.length c3] 87));have HSL:=am_ (StepOn.line HON.out HBz.out HR2.out HR3.out HFW.out);have HLT:=am_ (blk_lt HKR.out);have HKR1:=am_ (blk_alloc HKR.out (.cells #[.slice A l.length c,.slice A' t.length c',.slice A2 m.length c2,.slice A3 n.length c3] 87));have HKB1:=am_ (blk_alloc HKB.out (.cells #[.slice A l.length c,.slice A' t.length c',.slice A2 m.length c2,.slice A3 n.length c3] 87));clear HKR HKB)))
  go_region_held3 (fun W:World=>W.cell? ⟨w.heap.size,0,none⟩ = some (.slice A l.length c)/\W.cell? ⟨w.heap.size,1,none⟩ = some (.slice A' t.length c')) (first | exact ⟨q0,q1⟩ | exact ⟨R0 _,R1 _⟩ | exact ⟨cell_b (R0 _) bz_,cell_b (R1 _) bz_⟩ | exact ⟨blk_cell (blk_far (blk_far QB.out (Nat.ne_of_lt (Nat.lt_succ_self _)) _) (Nat.ne_of_lt (Nat.lt_succ_self _)) _) 0,blk_cell (blk_far (blk_far QB.out (Nat.ne_of_lt (Nat.lt_succ_self _)) _) (Nat.ne_of_lt (Nat.lt_succ_self _)) _) 1⟩) (first | (go_at_call 75;refine (HMV.out _ _ (HSL.out.below bz_)).mono ?_;rintro e w2 ⟨rfl,hl2,hg2⟩;have hk:=blk_grown (blk_below HKR1.out (show Below _ _ _ from bz_)) hg2 (by intro hk;have:=Option.some.inj hk;have:=HLT.out;omega);have hkb:=blk_grown (blk_below HKB1.out (show Below _ _ _ from bz_)) hg2 (by intro hk;have:=Option.some.inj hk;have:=HLT.out;omega);have HKR:=am_ hk;have QB:=am_ hkb;have q0:w2.cell? ⟨w.heap.size,0,none⟩ = some (.slice A l.length c):=blk_cell hkb 0;have q1:w2.cell? ⟨w.heap.size,1,none⟩ = some (.slice A' t.length c'):=blk_cell hkb 1;have q2:w2.cell? ⟨w.heap.size + 1,0,none⟩ = some (.slice none 0 0):=blk_cell hk 0;have q3:w2.cell? ⟨w.heap.size + 1,1,none⟩ = some (.slice none 0 0):=blk_cell hk 1;have q4:=blk_frozen hk 0;have q5:=blk_frozen hk 1;have HX0:=am_ (R_kept (Kd.R_below HL0.out (show Below _ _ _ from bz_)) (blk_below HNL.out (show Below _ _ _ from bz_)) (by decide) hg2);have HX1:=am_ (R_kept (Kd.R_below HL1.out (show Below _ _ _ from bz_)) (blk_below HNL.out (show Below _ _ _ from bz_)) (by decide) hg2);have HE:=am_ (pw_below_grown (below_step (below_alloc HB.out (.cells #[.slice A l.length c,.slice A' t.length c',.slice A2 m.length c2,.slice A3 n.length c3] 87)) (show Below _ _ _ from bz_)) (some w1.heap.size) (by have:=HB.out.size;simp;omega) hg2 (fun k hk=>by cases hk;exact HB.out.size));clear hk hkb hg2 hl2))
  go_wp2;exact bodyPost_ret (v:=.tuple #[.agg #[.slice A l.length c,.slice A' t.length c'],.string r]) (by simp [results,Tryz.results49,go_sem,q2,q3]) rfl ⟨_,_,rfl,set2 HKR.out HX0.out (by decide),set2 HKR.out HX1.out (by decide),HON.out.ne,below_set (below_set HE.out (Nat.le_succ _)) (Nat.le_succ _)⟩
theorem numR_eq (l t:List Int) (o:Option Int):numR l t o = ⟨l,t,numB o⟩:=by cases o <;> rfl
theorem step_any {F:Fns} {B:Nat} {l t:List Int} {A:Option Addr} {c:Nat} {A':Option Addr} {c':Nat} {w:World} (h:StepOn F B l t A c A' c' w) (s:ByteArray) (hs:s.size<=3000) :
  Calls Tryz.prog 49 #[.agg #[.slice A l.length c,.slice A' t.length c'],.string s] w (GotStep B (executeP F l t s) w):=by
 have what:readP s = none->Calls Tryz.prog 49 #[.agg #[.slice A l.length c,.slice A' t.length c'],.string s] w (GotStep B ⟨l,t,whatB⟩ w):=fun hq=>step_what h s hs hq
 have few0:Few []:=⟨by simp,by simp⟩
 have hsz:∀ x ∈ pieces s 32,x.size<=3000:=fun x hx=>Nat.le_trans (pieces_size hx) hs;unfold executeP
 rcases hp:pieces s 32 with _ | ⟨a,_ | ⟨b,_ | ⟨d,_ | ⟨e,r⟩⟩⟩⟩
 · dsimp only;exact what (by unfold readP;rw [hp])
 ·
  dsimp only
  have bad:shapeB a ≠ ⟨#[]⟩->readP s = none:=fun hn=>by
   unfold readP;rw [hp];dsimp only;rw [if_neg]
   rcases shape_cases a with k | k | k | k | k <;> first | exact absurd k hn | (rw [k];simp)
  have good:shapeB a = ⟨#[]⟩->readP s = some (a,[],[]):=fun hn=>by
   unfold readP;rw [hp];dsimp only;rw [hn];rfl
  unfold aloneP
  by_cases h0:a.toList = [110,101,120,116]
  · rw [if_pos h0];have ha:=ba_lit a ⟨#[110,101,120,116]⟩ h0;subst ha;exact step_moved h s hs _ [] [] few0 _ (.inr (.inl rfl)) (fun g W hS=>moved_next hS) (good (by unfold shapeB;simp [h0]))
  rw [if_neg h0]
  by_cases h1:a.toList = [99,97,114,115]
  · rw [if_pos h1];have ha:=ba_lit a ⟨#[99,97,114,115]⟩ h1;subst ha;exact step_asked h s hs _ [] [] few0 _ (.inr (.inl rfl)) (fun g W hS=>asked_cars hS) (good (by unfold shapeB;simp [h1]))
  rw [if_neg h1]
  by_cases h2:a.toList = [102,97,114]
  · rw [if_pos h2];have ha:=ba_lit a ⟨#[102,97,114]⟩ h2;subst ha;exact step_asked h s hs _ [] [] few0 _ (.inr (.inr (.inl rfl))) (fun g W hS=>asked_far hS) (good (by unfold shapeB;simp [h2]))
  rw [if_neg h2]
  by_cases h3:a.toList = [99,117,116,115]
  · rw [if_pos h3];have ha:=ba_lit a ⟨#[99,117,116,115]⟩ h3;subst ha;exact step_asked h s hs _ [] [] few0 _ (.inr (.inr (.inr (.inl rfl)))) (fun g W hS=>asked_cuts hS) (good (by unfold shapeB;simp [h3]))
  rw [if_neg h3]
  by_cases h4:a.toList = [114,97,110,107]
  · rw [if_pos h4];have ha:=ba_lit a ⟨#[114,97,110,107]⟩ h4;subst ha;exact step_asked h s hs _ [] [] few0 _ (.inr (.inr (.inr (.inr (.inl rfl))))) (fun g W hS=>asked_rank hS) (good (by unfold shapeB;simp [h4]))
  rw [if_neg h4]
  by_cases h5:a.toList = [116,97,98,108,101]
  · rw [if_pos h5];have ha:=ba_lit a ⟨#[116,97,98,108,101]⟩ h5;subst ha;exact step_asked h s hs _ [] [] few0 _ (.inr (.inr (.inr (.inr (.inr (.inr (.inl rfl))))))) (fun g W hS=>asked_table hS) (good (by unfold shapeB;simp [h5]))
  rw [if_neg h5]
  by_cases h6:a.toList = [99,111,115,116]
  · rw [if_pos h6];have ha:=ba_lit a ⟨#[99,111,115,116]⟩ h6;subst ha;exact step_asked h s hs _ [] [] few0 _ (.inr (.inr (.inr (.inr (.inr (.inl rfl)))))) (fun g W hS=>asked_cost hS) (good (by unfold shapeB;simp [h6]))
  rw [if_neg h6]
  by_cases h7:a.toList = [108,105,115,116]
  · rw [if_pos h7];have ha:=ba_lit a ⟨#[108,105,115,116]⟩ h7;subst ha;exact step_asked h s hs _ [] [] few0 _ (.inl rfl) (fun g W hS=>asked_list hS) (good (by unfold shapeB;simp [h7]))
  rw [if_neg h7];refine what (bad fun k=>?_);unfold shapeB at k;rw [if_neg (by simp only [h0,h1,h2,h3,h4,h5,h6,h7,or_self,not_false_eq_true])] at k
  split at k
  · cases k
  split at k
  · cases k
  split at k <;> cases k
 ·
  dsimp only;have hb3:b.size<=3000:=hsz b (by rw [hp];simp)
  have isl:shapeB a = ⟨#[108]⟩->readP s = (told b).map fun m=>(a,m,[]):=fun hn=>by
   unfold readP;rw [hp];dsimp only;rw [hn,if_neg (by decide),if_pos rfl]
  have isn:shapeB a = ⟨#[110]⟩->readP s = (rdCount b).map fun k=>(a,[],[k]):=fun hn=>by
   unfold readP;rw [hp];dsimp only;rw [hn,if_pos rfl]
  have bad:shapeB a ≠ ⟨#[108]⟩->shapeB a ≠ ⟨#[110]⟩->readP s = none:=fun h1 h2=>by
   unfold readP;rw [hp];dsimp only;rw [if_neg,if_neg]
   · rcases shape_cases a with k | k | k | k | k <;> first | exact absurd k h1 | (rw [k];simp)
   · rcases shape_cases a with k | k | k | k | k <;> first | exact absurd k h2 | (rw [k];simp)
  by_cases hl:a.toList = [116,97,107,101] \/ a.toList = [106,111,105,110] \/ a.toList = [99,108,97,115,115]
  ·
   rw [if_pos hl];unfold listedP
   cases hq:told b with
   | none =>
    dsimp only
    refine what ?_
    rcases hl with hl | hl | hl
    · have ha:=ba_lit a ⟨#[116,97,107,101]⟩ hl;subst ha;rw [isl (by unfold shapeB;simp [hl]),hq];rfl
    · have ha:=ba_lit a ⟨#[106,111,105,110]⟩ hl;subst ha;rw [isl (by unfold shapeB;simp [hl]),hq];rfl
    · have ha:=ba_lit a ⟨#[99,108,97,115,115]⟩ hl;subst ha;rw [isl (by unfold shapeB;simp [hl]),hq];rfl
   | some m =>
    dsimp only;have hf:=told_few hq hb3
    rcases hl with hl | hl | hl
    · have ha:=ba_lit a ⟨#[116,97,107,101]⟩ hl;subst ha;rw [if_pos hl];exact step_moved h s hs _ m [] hf _ (.inl rfl) (fun g W hS=>moved_take hS) (by rw [isl (by unfold shapeB;simp [hl]),hq];rfl)
    · have ha:=ba_lit a ⟨#[106,111,105,110]⟩ hl;subst ha;rw [if_neg (by rw [hl];decide),if_pos hl];exact step_moved h s hs _ m [] hf _ (.inr (.inr (.inr (.inl rfl)))) (fun g W hS=>moved_join hS) (by rw [isl (by unfold shapeB;simp [hl]),hq];rfl)
    · have ha:=ba_lit a ⟨#[99,108,97,115,115]⟩ hl;subst ha;rw [if_neg (by rw [hl];decide),if_neg (by rw [hl];decide)];exact step_asked h s hs _ m [] hf _ (.inr (.inr (.inr (.inr (.inr (.inr (.inr (.inr (.inr (.inl rfl)))))))))) (fun g W hS=>asked_class hS) (by rw [isl (by unfold shapeB;simp [hl]),hq];rfl)
  ·
   rw [if_neg hl]
   have nl:shapeB a = ⟨#[108]⟩->False:=fun k=>hl (by
    unfold shapeB at k
    (repeat' split at k) <;> first | (cases k;done) | assumption)
   cases hq:rdCount b with
   | none =>
    dsimp only
    refine what ?_
    rcases shape_cases a with k | k | k | k | k
    · exact bad (by rw [k];decide) (by rw [k];decide)
    · rw [isn k,hq];rfl
    · exact bad (by rw [k];decide) (by rw [k];decide)
    · exact (nl k).elim
    · exact bad (by rw [k];decide) (by rw [k];decide)
   | some k =>
    dsimp only;obtain ⟨hk0,hk9⟩:=rdCount_in hq;unfold numberedP
    by_cases h0:a.toList = [99,111,117,110,116]
    ·
     rw [if_pos h0];have ha:=ba_lit a ⟨#[99,111,117,110,116]⟩ h0;subst ha;rw [numR_eq];exact step_asked h s hs _ [] [k] few0 _ (.inr (.inr (.inr (.inr (.inr (.inr (.inr (.inl rfl)))))))) (fun g W hS=>numR_eq _ _ _ ▸ asked_count hk0 hk9 hS) (by rw [isn (by unfold shapeB;simp [h0]),hq];rfl)
    rw [if_neg h0]
    by_cases h1:a.toList = [98,97,99,107]
    ·
     rw [if_pos h1];have ha:=ba_lit a ⟨#[98,97,99,107]⟩ h1;subst ha;rw [numR_eq];exact step_asked h s hs _ [] [k] few0 _ (.inr (.inr (.inr (.inr (.inr (.inr (.inr (.inr (.inl rfl))))))))) (fun g W hS=>numR_eq _ _ _ ▸ asked_back hk0 hk9 hS) (by rw [isn (by unfold shapeB;simp [h1]),hq];rfl)
    rw [if_neg h1]
    by_cases h2:a.toList = [110,101,119]
    ·
     rw [if_pos h2];have ha:=ba_lit a ⟨#[110,101,119]⟩ h2;subst ha;rw [<- keepR_lay];exact step_moved h s hs _ [] [k] few0 _ (.inr (.inr (.inr (.inr (.inl rfl))))) (fun g W hS=>moved_new hk0 hk9 hS) (by rw [isn (by unfold shapeB;simp [h2]),hq];rfl)
    rw [if_neg h2]
    by_cases h3:a.toList = [112,117,116]
    ·
     rw [if_pos h3];have ha:=ba_lit a ⟨#[112,117,116]⟩ h3;subst ha
     cases hi:F.ins t k with
     | none=>exact step_moved h s hs _ [] [k] few0 _ (.inr (.inr (.inr (.inr (.inr (.inl rfl)))))) (fun g W hS=>moved_put_no hk0 hk9 hi hS) (by rw [isn (by unfold shapeB;simp [h3]),hq];rfl)
     | some p =>
      obtain ⟨t',a'⟩:=p;exact step_moved h s hs _ [] [k] few0 _ (.inr (.inr (.inr (.inr (.inr (.inl rfl)))))) (fun g W hS=>moved_put_yes hk0 hk9 hi hS) (by rw [isn (by unfold shapeB;simp [h3]),hq];rfl)
    rw [if_neg h3]
    by_cases h4:a.toList = [100,114,111,112]
    ·
     rw [if_pos h4];have ha:=ba_lit a ⟨#[100,114,111,112]⟩ h4;subst ha;rw [<- keepR_lay];exact step_moved h s hs _ [] [k] few0 _ (.inr (.inr (.inr (.inr (.inr (.inr rfl)))))) (fun g W hS=>moved_drop hk0 hk9 hS) (by rw [isn (by unfold shapeB;simp [h4]),hq];rfl)
    rw [if_neg h4]
    by_cases h5:a.toList = [102,105,110,100]
    ·
     rw [if_pos h5];have ha:=ba_lit a ⟨#[102,105,110,100]⟩ h5;subst ha
     cases hi:F.find t k with
     | none=>exact step_asked h s hs _ [] [k] few0 _ (.inr (.inr (.inr (.inr (.inr (.inr (.inr (.inr (.inr (.inr rfl)))))))))) (fun g W hS=>asked_find_no hk0 hk9 hi hS) (by rw [isn (by unfold shapeB;simp [h5]),hq];rfl)
     | some p =>
      obtain ⟨a',b'⟩:=p;exact step_asked h s hs _ [] [k] few0 _ (.inr (.inr (.inr (.inr (.inr (.inr (.inr (.inr (.inr (.inr rfl)))))))))) (fun g W hS=>asked_find_yes hk0 hk9 hi hS) (by rw [isn (by unfold shapeB;simp [h5]),hq];rfl)
    rw [if_neg h5];refine what (bad (fun k=>nl k) ?_);intro k;unfold shapeB at k
    (repeat' split at k) <;> first | (cases k;done) | (rename_i hw;rcases hw with hw | hw | hw | hw | hw | hw <;> contradiction)
 ·
  dsimp only
  have bad:shapeB a ≠ ⟨#[110,110]⟩->readP s = none:=fun hn=>by
   unfold readP;rw [hp];dsimp only;rw [if_neg]
   rcases shape_cases a with k | k | k | k | k <;> first | exact absurd k hn | (rw [k];simp)
  by_cases h0:a.toList = [97,116]
  ·
   rw [if_pos h0];have ha:=ba_lit a ⟨#[97,116]⟩ h0;subst ha
   have hr:readP s = match rdCount b,rdCount d with | some k,some r=>some (⟨#[97,116]⟩,[],[k,r]) | _,_=>none:=by
    unfold readP;rw [hp];dsimp only;rw [if_pos (by unfold shapeB;simp [h0])];first | done | rfl
   cases hb:rdCount b with
   | none=>exact what (by rw [hr,hb])
   | some k =>
    cases hd:rdCount d with
    | none=>exact what (by rw [hr,hb,hd])
    | some r =>
     obtain ⟨hk0,hk9⟩:=rdCount_in hb;obtain ⟨hr0,hr9⟩:=rdCount_in hd;exact step_moved h s hs _ [] [k,r] few0 _ (.inr (.inr (.inl rfl))) (fun g W hS=>moved_at hk0 hk9 hr0 hr9 hS) (by rw [hr,hb,hd])
  ·
   rw [if_neg h0];refine what (bad fun k=>h0 ?_);unfold shapeB at k
   (repeat' split at k) <;> first | (cases k;done) | assumption
 · dsimp only;exact what (by unfold readP;rw [hp])
def GotTab (l:List Int) (w:World) (e:Ending) (w':World):Prop:=∃ v,e = .returned (.agg #[v])/\Kd.R (Kd.int .i64) 3 w' w.heap.size (fun _=>True) v l/\Below w.heap.size w w'
theorem empty_any (N:Nat) (h1:1<=N) (h12:N<=12) (w:World):Calls Tryz.prog 66 #[.int .i64 (N:Int)] w (GotTab (List.replicate N (-1)) w):=by
 have HR:=am_ fun (ad:Addr) (c0:Nat) (x:Int) (w:World)=>repeat_any N h1 h12 ad c0 x w;have b1:=below_alloc (Below.refl w.heap.size w) (.cells #[.slice none 0 0] 34);have HB:=am_ (below_alloc b1 (.cells #[.int .i64 (-1)] 3));have HK:=am_ (blk_alloc (blk_new w (.cells #[.slice none 0 0] 34)) (.cells #[.int .i64 (-1)] 3))
 have HX:=am_ (show ((w.alloc (.cells #[.slice none 0 0] 34)).alloc (.cells #[.int .i64 (-1)] 3)).cell? ⟨w.heap.size + 1,0,none⟩ = some (.int .i64 (-1)) by
  have:=blk_cell (blk_new (w.alloc (.cells #[.slice none 0 0] 34)) (.cells #[.int .i64 (-1)] 3)) 0
  have e:(w.alloc (.cells #[.slice none 0 0] 34)).heap.size = w.heap.size + 1:=by simp
  rw [e] at this;exact this)
 clear h1 h12 b1;go_enter Tryz.func66,Tryz.ntmps66
 go_wp2_with (go_at_call 106;go_loud (refine (HR.out _ _ _ _ HX.out).mono ?_;rintro e w1 ⟨v,rfl,hv,hb⟩;obtain ⟨A,c,rfl⟩:=Kd.R_slice hv;have hk:=blk_below HK.out hb;have hc:w1.cell? ⟨w.heap.size,0,none⟩ = some (.slice none 0 0):=blk_cell hk 0;have hf:=blk_frozen hk 0;have HK2:=am_ hk;have HV:=am_ (Kd.R_lower hv (below_size HB.out));have HE:=am_ (below_step HB.out hb);clear hk hv hb))
 have HV2:=Kd.R_set HV.out HK2.out (by decide) 0 (.slice A N c);rw [List.length_replicate] at HV2;exact bodyPost_ret (v:=.agg #[.slice A N c]) (by simp [results,Tryz.results66,go_sem,hc]) rfl ⟨_,rfl,HV2,below_set HE.out (Nat.le_refl _)⟩
end Go.Proofs.YtjdlhefjgceabaaGreatDoor.Hand

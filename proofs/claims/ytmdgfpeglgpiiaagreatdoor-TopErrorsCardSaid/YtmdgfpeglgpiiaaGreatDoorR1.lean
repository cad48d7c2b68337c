import Derived.Deep.Slices
import Derived.OpenShut
import Derived.SizedLaws
import Derived.Deep.Strs
import Derived.BigQuiet
import Derived.StillTailTactics
import Derived.WalkKit
import Derived.Deep.Cut
import Derived.Deep.CutRange
import Derived.Deep.QuietTactic
import Derived.WalkArith
import Derived.Lib.QuietBelow
import Derived.Test.YtmdgfpeglgpiiaaGreatDoorB19
set_option linter.all false
set_option maxRecDepth 100000
set_option maxHeartbeats 16000000
namespace Go.Proofs.YtmdgfpeglgpiiaaGreatDoor
open Vq Oq Go.Proofs.Tryz
open Go.ChangeShapes Go.WideShapes Go.ChangeAt Go.RowKit
structure j0 (k:IntKind) (w:World) (a:Option Addr) (zs:List Int):Prop where
 many:zs.length<=maxLen
 each:∀i,i<zs.length->(Lit.int k (zs.getD i 0)).wf=true
 cell:∃b off,(zs= []\/a=some ⟨b,off,none⟩)/\∀i,i<zs.length->w.cell? ⟨b,off+i,none⟩=some (.int k (zs.getD i 0))
def j0.below {k:IntKind} {w w':World} {a:Option Addr} {zs:List Int} (h:j0 k w a zs) (hb:Below w.heap.size w w'):j0 k w' a zs:=
 ⟨h.many,h.each,by
  obtain⟨b,off,ha,hc⟩:=h.cell;exact⟨b,off,ha,λi hi=>bA hb (Nat.le_refl _) (hc i hi)⟩⟩
structure O3 where
 ps:List Int
 fs:List Int
 ws:List Int
instance:Inhabited O3:=⟨⟨[],[],[]⟩⟩
def I2 (k:IntKind) (w:World) (p:Addr) (zs:List Int):Prop:=∃a cap,w.cell? p=some (.slice a zs.length cap)/\j0 k w a zs
def I2.below {k:IntKind} {w w':World} {p:Addr} {zs:List Int} (h:I2 k w p zs) (hb:Below w.heap.size w w'):I2 k w' p zs:=by
 obtain⟨a,cap,h1,h2⟩:=h;exact⟨a,cap,bA hb (Nat.le_refl _) h1,h2.below hb⟩
structure A9 (w:World) (a:Option Addr) (ns:List O3):Prop where
 many:ns.length<=maxLen
 cell:∃b off,(ns= []\/a=some ⟨b,off,none⟩)/\∀i,i<ns.length->I2 .i64 w ⟨b,off+i*3,none⟩ (ns.getD i default).ps/\I2 .u64 w ⟨b,off+i*3+1,none⟩ (ns.getD i default).fs/\I2 .u64 w ⟨b,off+i*3+2,none⟩ (ns.getD i default).ws
def A9.below {w w':World} {a:Option Addr} {ns:List O3} (h:A9 w a ns) (hb:Below w.heap.size w w'):A9 w' a ns:=
 ⟨h.many,by
  obtain⟨b,off,ha,hc⟩:=h.cell;exact⟨b,off,ha,λi hi=>⟨(hc i hi).1.below hb,(hc i hi).2.1.below hb,(hc i hi).2.2.below hb⟩⟩⟩
structure O4 where
 rs:List Int
 ns:List O3
structure K6 (w:World) (ar O6:Option Addr) (g:O4):Prop where
 roots:j0 .i64 w ar g.rs
 nodes:A9 w O6 g.ns
def O7 (W0:World) (K:List (Nat×Obj)) (w:World):Prop:=Below W0.heap.size W0 w/\∀x∈K,w.heap[x.1]?=some x.2
section
variable {W0 w w':World} {K K':List (Nat×Obj)}
def O7.block (h:O7 W0 K w) {X:Nat} {o:Obj} (hx:(X,o)∈K):w.heap[X]?=some o:=h.2 (X,o) hx
variable {ty:TypeId} {sz k:Nat} {xs:List Value} {al:Option Addr} {cap:Nat}
end
def FKN (W0:World) (K:List (Nat×Obj)) (w:World):Prop:=O7 W0 K w/\(K.map (·.1)).Nodup/\∀x∈K,W0.heap.size<=x.1
open Go.Maps
def u9 (l:List Int) (v:Int):mJ (l++ [v])=mJ l++ [.int .i64 v]:=by simp[mJ]
def aA (n:Nat) (w:World):Below w.heap.size w (w.drewN n):=⟨rfl,rfl,rfl,Nat.le_refl _,λ_ _=>rfl⟩
def G9 (l:List Int):List Value:=l.map λz=> .int .u64 z
def v7 (l:List Int) (v:Int):G9 (l++ [v])=G9 l++ [.int .u64 v]:=by simp[G9]
def BT:(prog.info? 72).map (λi=>(i.zero,i.size,i.bytes))=some (some (.agg #[.slice none 0 0,.slice none 0 0,.slice none 0 0]),3,72):=by kernel_rfl
section
variable {W0 w w':World} {K K' R:List (Nat×Obj)} {ty:TypeId} {sz k:Nat} {xs:List Value} {al:Option Addr} {cap:Nat}
inductive F9 (aa:Nat):List O3->List Value->List (Nat×Obj)->Prop
 | nil:F9 aa [] [] []
 | snoc {ns:List O3} {xs:List Value} {R:List (Nat×Obj)} {x:O3} {ap O8 aw:Option Addr} {cp cf cw:Nat} {Rp Rf Rx:List (Nat×Obj)} (h:F9 aa ns xs R)
   (hp:Rw aa 3 1 x.ps.length (mJ x.ps) ap cp Rp) (hf:Rw aa 33 1 x.fs.length (G9 x.fs) O8 cf Rf) (hw:Rw aa 33 1 x.ws.length (G9 x.ws) aw cw Rx):
   F9 aa (ns++ [x]) (xs++ [.slice ap x.ps.length cp,.slice O8 x.fs.length cf,.slice aw x.ws.length cw]) (Rp++(Rf++(Rx++R)))
def F9.len {aa:Nat} {ns:List O3} (h:F9 aa ns xs R):xs.length=ns.length*3:=by
 induction h with
 | nil=>rfl
 | snoc h hp hf hw ih=>simp[ih];omega
def M0 (l:List Int):Prop:=∀i,i<l.length->(Lit.int .i64 (l.getD i 0)).wf=true
def M9 (l:List Int):Prop:=∀i,i<l.length->(Lit.int .u64 (l.getD i 0)).wf=true
structure OkN (x:O3):Prop where
 ps:M0 x.ps
 fs:M9 x.fs
 ws:M9 x.ws
structure K7 (g:O4):Prop where
 rs:M0 g.rs
 ns:∀x∈g.ns,OkN x
def Rw.u6 {aa:Nat} {kd:IntKind} {zs:List Int} (r:Rw aa ty 1 zs.length (zs.map λz=> .int kd z) al cap R) (h:O7 W0 K w) (hR:∀x∈R,x∈K) (hok:∀i,i<zs.length->(Lit.int kd (zs.getD i 0)).wf=true):j0 kd w al zs:=by
 have hle:=r.le;refine⟨by omega,hok,?_⟩;rcases r with⟨rfl,h0, -, -,rfl⟩ | ⟨b,cur,rfl,h2,h3,h4,h5,h6,h7,rfl⟩
 ·exact⟨0,0,.inl (List.eq_nil_of_length_eq_zero h0),λi hi=>by omega⟩
 ·refine⟨b,0,.inr rfl,λi hi=>?_⟩;rw[Nat.zero_add];refine an (h.block (hR _ (List.mem_cons_self ..))) i _ ?_;have:(List.map (λz=>Value.int kd z) zs)[i]?=some (.int kd (zs.getD i 0)):=by
   rw[List.getElem?_map,List.getElem?_eq_getElem hi,List.getD_eq_getElem?_getD,List.getElem?_eq_getElem hi];rfl
  rw[←h6,List.getElem?_take_of_lt (by omega)] at this
  simpa using this
def F9.rd {aa:Nat} {ns:List O3} (h:F9 aa ns xs R) (hK:O7 W0 K w) (hR:∀x∈R,x∈K) (hok:∀x∈ns,OkN x):
  ∀i,i<ns.length->∃ap O8 aw cp cf cw,(xs[i*3]?=some (.slice ap (ns.getD i default).ps.length cp)/\xs[i*3+1]?=some (.slice O8 (ns.getD i default).fs.length cf)/\xs[i*3+2]?=some (.slice aw (ns.getD i default).ws.length cw))/\j0 .i64 w ap (ns.getD i default).ps/\j0 .u64 w O8 (ns.getD i default).fs/\j0 .u64 w aw (ns.getD i default).ws:=by
 induction h with
 | nil=>intro i hi;simp at hi
 | @snoc ns xs R x ap O8 aw cp cf cw Rp Rf Rx h hp hf hw ih=>
  intro i hi;have hlen:=h.len;by_cases hlt:i<ns.length
  ·obtain⟨ap,O8,aw,cp,cf,cw,⟨h1,h2,h3⟩,h4⟩:=ih (λy hy=>hR y (by simp[hy])) (λy hy=>hok y (by simp[hy])) i hlt;have e:(ns++ [x]).getD i default=ns.getD i default:=by
    rw[List.getD_eq_getElem?_getD,List.getD_eq_getElem?_getD,List.getElem?_append_left hlt]
   rw[e];exact⟨ap,O8,aw,cp,cf,cw,⟨by rw[List.getElem?_append_left (by omega)];exact h1,by rw[List.getElem?_append_left (by omega)];exact h2,by rw[List.getElem?_append_left (by omega)];exact h3⟩,h4⟩
  ·obtain rfl:i=ns.length:=by
    rw[List.length_append] at hi;simp at hi;omega
   have e:(ns++ [x]).getD ns.length default=x:=by
    rw[List.getD_eq_getElem?_getD,List.getElem?_append_right (Nat.le_refl _)];simp
   rw[e];have hx:=hok x (by simp);refine⟨ap,O8,aw,cp,cf,cw,⟨?_,?_,?_⟩,hp.u6 hK (λy hy=>hR y (by simp[hy])) hx.ps,hf.u6 hK (λy hy=>hR y (by simp[hy])) hx.fs,hw.u6 hK (λy hy=>hR y (by simp[hy])) hx.ws⟩
   ·rw[List.getElem?_append_right (by omega),hlen,Nat.sub_self];rfl
   ·rw[List.getElem?_append_right (by omega),hlen,Nat.add_sub_cancel_left];rfl
   ·rw[List.getElem?_append_right (by omega),hlen,Nat.add_sub_cancel_left];rfl
def I3 (aa:Nat) (g:O4) (ar O6:Option Addr) (cr cn:Nat) (B:List (Nat×Obj)):Prop:=
 ∃(Rr O9:List (Nat×Obj)) (xs:List Value) (Rx:List (Nat×Obj)),Rw aa 3 1 g.rs.length (mJ g.rs) ar cr Rr/\Rw aa 72 3 g.ns.length xs O6 cn O9/\F9 aa g.ns xs Rx/\B=Rr++(O9++Rx)
def I3.rd {aa:Nat} {g:O4} {ar O6:Option Addr} {cr cn:Nat} {B:List (Nat×Obj)} (h:I3 aa g ar O6 cr cn B) (hK:O7 W0 K w) (hB:∀x∈B,x∈K) (hok:K7 g):K6 w ar O6 g:=by
 obtain⟨Rr,O9,xs,Rx,h1,h2,h3,rfl⟩:=h;refine⟨h1.u6 hK (λy hy=>hB y (by simp[hy])) hok.rs,⟨by have:=h2.le;omega,?_⟩⟩;have Oz:=h3.rd hK (λy hy=>hB y (by simp[hy])) hok.ns;rcases h2 with⟨rfl,h0, -, -,rfl⟩ | ⟨b,cur,rfl,h2,h30,h4,h5,h6,h7,rfl⟩
 ·exact⟨0,0,.inl (List.eq_nil_of_length_eq_zero h0),λi hi=>by omega⟩
 ·refine⟨b,0,.inr rfl,λi hi=>?_⟩;obtain⟨ap,O8,aw,cp,cf,cw,⟨g1,g2,g3⟩,g4,g5,g6⟩:=Oz i hi;have hb:=hK.block (hB (b,.cells cur 72 (0,0)) (by simp));have cc:∀j v,j<g.ns.length*3->xs[j]?=some v->w.cell? ⟨b,0+j,none⟩=some v:=λj v hj hv=>by
   rw[Nat.zero_add];refine an hb j v ?_;rw[←h6,List.getElem?_take_of_lt hj] at hv
   simpa using hv
  exact⟨⟨ap,cp,cc _ _ (by omega) g1,g4⟩,⟨O8,cf,by rw[Nat.add_assoc];exact cc _ _ (by omega) g2,g5⟩,⟨aw,cw,by rw[Nat.add_assoc];exact cc _ _ (by omega) g3,g6⟩⟩
end
section
variable {w0 w w':World} {R0 R R' A A' K K':BL}
def ag.fkn (h:ag [] R w w'):FKN w R w':=⟨⟨h.below,h.at_.1⟩,h.at_.2,λx hx=>(h.low x hx).resolve_left Keys.nil⟩
end
open Go.Sort
section
variable {f f':Nat->List Nat} {rs l ps U:List Nat} {i n:Nat} {φ:Nat->Nat}
variable {Q:Nat->Prop}
def n8 (l:List Nat) (a:Nat):Int:=if a∈l then (l.idxOf a:Nat) else -1
def Du.place (h:Du f f' Q φ) (hl:∀a∈l,Q a) {a:Nat} (ha:a=0\/Q a):n8 (l.map φ) (φ a)=n8 l a:=by
 have key:∀ {l:List Nat},(∀a∈l,Q a)->(φ a∈l.map φ↔a∈l)/\(l.map φ).idxOf (φ a)=l.idxOf a:=by
  intro l hl
  induction l with
  | nil=>exact⟨by simp,rfl⟩
  | cons b l ih=>
   have ih:=ih λx hx=>hl x (List.mem_cons_of_mem _ hx)
   have hb:=hl b (List.mem_cons_self ..);have e:φ a=φ b↔a=b:=by
    constructor
    ·intro q;rcases ha with rfl | ha
     ·rw[h.zero] at q;exact absurd q.symm (h.pos b hb)
     ·exact h.inj a b ha hb q
    ·rintro rfl;rfl
   constructor
   ·rw[List.map_cons,List.mem_cons,List.mem_cons,e,ih.1]
   ·rw[List.map_cons,List.idxOf_cons,List.idxOf_cons,ih.2];have e3:(φ b==φ a)=(b==a):=by
     rw[Bool.eq_iff_iff,beq_iff_eq,beq_iff_eq];exact⟨λr=>(e.1 r.symm).symm,λr=>r▸rfl⟩
    rw[e3]
 unfold n8;by_cases q:a∈l
 ·rw[b9 q,b9 ((key hl).1.2 q),(key hl).2]
 ·rw[b_ q,b_ λr=>q ((key hl).1.1 r)]
end
section
attribute [local go_sem] Oper.semAt_some
def G0 (l:List Nat):Int->Option Value:=λf=>if 0<=f/\f.toNat∈l then some (.int .i64 (l.idxOf f.toNat:Nat)) else none
def F2 {l:List Nat} {a:Nat} (h:a∈l):G0 l (a:Nat)=some (.int .i64 (l.idxOf a:Nat)):=by
 unfold G0;rw[b9 ⟨by omega,by rw[Int.toNat_natCast];exact h⟩,Int.toNat_natCast]
def G5 {l:List Nat} {a:Nat} (h:¬a∈l):G0 l (a:Nat)=none:=by
 unfold G0;rw[b_ λq=>h (by rw[Int.toNat_natCast] at q;exact q.2)]
def F4 {l:List Nat} {a:Nat} (h:¬a∈l):G0 (l++ [a])=λg=>if g=(a:Int) then some (.int .i64 (l.length:Nat)) else G0 l g:=by
 funext g;by_cases e:g=(a:Int)
 ·subst e;rw[b9 rfl,F2 (by simp),List.idxOf_append,b_ h];simp
 ·rw[b_ e];unfold G0;by_cases q:0<=g/\g.toNat∈l
  ·rw[b9 q,b9 ⟨q.1,List.mem_append_left _ q.2⟩,List.idxOf_append,b9 q.2]
  ·rw[b_ q,b_ λr=>q ⟨r.1,(List.mem_append.1 r.2).resolve_right λs=>e (by rw[List.mem_singleton] at s;omega)⟩]
def n9 (nb:Nat) (l:List Nat) (R:BL):Prop:=∃(mb:Nat) (o:Obj) (al:Option Addr) (cap:Nat) (Ra:BL),
 R=(nb,.cells #[.map (some mb),.slice al l.length cap] 134 (0,0))::(mb,o)::Ra/\VM l.length (G0 l) o/\Rz 3 1 l.length (ez l) al cap Ra
def j6 (l:List Nat) (a:Nat):Int:=if a=0 then -1 else (l.idxOf a:Nat)
section
variable {nb a:Nat} {l:List Nat} {R:BL} {w:World}
def B0 (l:List Nat) (a:Nat):ez (l++ [a])=ez l++ [.int .i64 (a:Nat)]:=by simp[ez,mJ]
def v8 (h:n9 nb l R) (hR:At R w) (ha:a<1048576) (hl:l.length<=100000):
  WR 89 #[Wz nb,(a:Nat)] w (j6 (dT l a) a:Int) λw'=>∃R',n9 nb (dT l a) R'/\ag R R' w w':=by
 obtain⟨mb,o,al,cap,Ra,rfl,hM,hr⟩:=h;obtain⟨c0,c1, -⟩:=qN hR.1.head;have D0:=a_ (ag.refl hR);by_cases h0:a=0
 ·subst h0;have e1:dT l 0=l:=b9 (.inl rfl);have e2:j6 l 0= -1:=b9 rfl;rw[e1,e2];have HM:=a_ (And.intro hM hr);clear hM hr e1 e2 hR ha;go_enter func89,ntmps89;go_wp2;go_ret;exact⟨rfl,_,⟨mb,o,al,cap,Ra,rfl,HM.1,HM.2⟩,D0⟩
 ·have k0:¬(a:Int)=0:=by omega
  have b0:((a:Int)==0)=false:=by rw[beq_eq_false_iff_ne];exact k0
  have hI:Ds (a:Int):=by constructor<;>omega
  have hz0:∀w,(zeroValue 3).run prog w= .ok (.int .i64 0) w:=oL;have hn:j6 (dT l a) a=((dT l a).idxOf a:Nat):=b_ h0;rw[hn];by_cases hin:a∈l
  ·have e1:dT l a=l:=b9 (.inr hin);rw[e1];have IL:=hM.look_ok (t:=132) (e:=3) (by kernel_rfl) (hz0 w) hR.1.tail.head hI;rw[F2 hin] at IL;simp only[Option.getD_some,Option.isSome_some] at IL;have HM:=a_ (And.intro hM hr);generalize ((l.idxOf a:Nat):Int)=P8 at *;clear hM hr e1 hn hR ha hI hz0 hin;go_enter func89,ntmps89;go_wp2;go_ret;exact⟨rfl,_,⟨mb,o,al,cap,Ra,rfl,HM.1,HM.2⟩,D0⟩
  ·have e1:dT l a=l++ [a]:=b_ λq=>q.elim h0 hin
   have e2:((l++ [a]).idxOf a:Nat)=l.length:=by rw[List.idxOf_append,b_ hin];simp
   rw[e1,e2];have IL:=hM.look_ok (t:=132) (e:=3) (by kernel_rfl) (hz0 w) hR.1.tail.head hI;have Ma:=F4 hin;rw[G5 hin] at IL;simp only[Option.getD_none,Option.isSome_none] at IL;obtain⟨HM,Hr,HSN,HI,HZ,HA⟩:=uB hM hr Ma hI hz0 hl;clear hM hr hn hR hI hz0 Ma e1 e2;go_enter func89,ntmps89
   go_upto_region 6 with fail
   refine wp_region_still_tail 10 (by kernel_rfl) (by kernel_rfl) ?_;simp only[List.take_succ_cons,List.take_zero,List.drop_succ_cons,List.drop_zero];have D1:=a_ D0.drew;unfold World.drew at D1;generalize ({w with drawn:=w.drawn+1}:World)=W2 at *;clear c0 c1 IL;obtain⟨c0,c1, -⟩:=qN D1.has.head
   repeat still_step
   refine wpStill_nil ?_;obtain⟨w3,o3,KJ,N0,d3⟩:=HM.uc (t:=132) (e:=3) (by unfold maxLen;omega) (by kernel_rfl) (D1.perm (R':=(mb,o)::((nb,WD #[.map (some mb),.slice al l.length cap] 134)::Ra)) aF) HI (.int .i64 (l.length:Nat));obtain⟨j1,hj,sB,oQ,sC⟩:=info_parts fP;obtain⟨wU,eO,w5,AA,hrun,kz,d5⟩:=Hr.LD (K:=(nb,.cells #[.map (some mb),.slice al l.length cap] 134 (0,0)):: [(mb,o3)]) (d3.perm (R':=Ra++((nb,.cells #[.map (some mb),.slice al l.length cap] 134 (0,0)):: [(mb,o3)])) aF) hj sB oQ sC rfl (by decide) underlying58 #[.int .i64 (a:Nat)] rfl (by intro u hu;simp only[List.mem_cons,List.not_mem_nil,or_false] at hu;rw[hu];rfl) (by unfold maxLen;omega) (by omega);obtain⟨u0,u1, -⟩:=qN d3.has.tail.head;have q5:=d5.has.right.head;have v1:=an q5 1 (.slice al l.length cap) rfl;have f1:=br q5 1;have d6:=(d5.perm (R':=(nb,WD #[.map (some mb),.slice al l.length cap] 134)::((mb,o3)::AA)) aF).set 1 (.slice wU (l.length+1) eO);simp only[ma] at d6;have x0:=an d6.has.head 0 (.map (some mb)) rfl;have IL:=N0.look (t:=132) (e:=3) (by kernel_rfl) (HZ _) d6.has.tail.head HI;simp only[if_true,Option.getD_some] at IL;obtain⟨HR5,D6,PC,Az⟩:=qx hrun d6 N0 kz;clear hrun d6 N0 kz d5 q5 d3 HM Hr HI HZ j1 hj sB oQ sC
   go_wp2_with (at_builtin;refine cP _ rfl (.tmp 34) (.tmp 36) 58 rfl _ _ _ _ rfl rfl HR5 ?_;clear HR5)
   go_ret;refine⟨rfl,_,⟨mb,o3,wU,eO,AA,by rw[List.length_append];rfl,?_,?_⟩,D6⟩
   ·rw[HSN.out,List.length_append];exact PC
   ·rw[B0,List.length_append];exact Az
end
def j7:List Nat->List Nat->List Int
 | _,[]=> []
 | l,p::ps=>j6 (dT l p) p::j7 (dT l p) ps
def l9:∀(ps l:List Nat) (p:Nat),j7 l (ps++ [p])=j7 l ps++ [j6 (dT (ps.foldl dT l) p) p]
 | [],l,p=>rfl
 | q::ps,l,p=>by
  show j6 (dT l q) q::j7 (dT l q) (ps++ [p])=_
  rw[l9 ps];rfl
def ds (g:Nat->Nat) (a k n:Nat):List Int:=(List.range n).map λj=>((g (a+1+(k+j)):Nat):Int)
def take_range {α:Type} (f:Nat->α) (n i:Nat) (h:i<n):((List.range n).map f).take (i+1)=((List.range n).map f).take i++ [f i]:=by
 rw[List.take_add_one,List.getElem?_map,List.getElem?_range h];rfl
def j5 (g:Nat->Nat) (l:List Nat) (a i:Nat):O3:=
 ⟨j7 l ((dA g a).take i),(ds g a (Hd.tp (g a)) (Hd.tf (g a))).take (i-Hd.tp (g a)),(ds g a (Hd.tp (g a)+Hd.tf (g a)) (Hd.to (g a))).take (i-Hd.tp (g a)-Hd.tf (g a))⟩
def o9 (g:Nat->Nat) (l:List Nat) (a:Nat):O3:=⟨j7 l (dA g a),ds g a (Hd.tp (g a)) (Hd.tf (g a)),ds g a (Hd.tp (g a)+Hd.tf (g a)) (Hd.to (g a))⟩
abbrev NdC (x:O3) (a0 a1 a2:Option Addr) (c0 c1 c2:Nat):Array Value:= #[.slice a0 x.ps.length c0,.slice a1 x.fs.length c1,.slice a2 x.ws.length c2]
structure NdW (x:O3) (a0 a1 a2:Option Addr) (c0 c1 c2:Nat) (R:BL):Prop where
 rows:∃R0 R1 R2,R=R0++(R1++R2)/\Rz 3 1 x.ps.length (mJ x.ps) a0 c0 R0/\Rz 33 1 x.fs.length (G9 x.fs) a1 c1 R1/\Rz 33 1 x.ws.length (G9 x.ws) a2 c2 R2
def A4 (g:Nat->Nat) (l:List Nat) (a:Nat):j5 g l a 0=⟨[],[],[]⟩:=by
 unfold j5;simp[j7]
def B7 (g:Nat->Nat) (l:List Nat) (a i:Nat) (h:i=Hd.tp (g a)+Hd.tf (g a)+Hd.to (g a)):j5 g l a i=o9 g l a:=by
 unfold j5 o9;have e1:(dA g a).take i=dA g a:=List.take_of_length_le (by unfold dA;simp;omega);have e2:(ds g a (Hd.tp (g a)) (Hd.tf (g a))).take (i-Hd.tp (g a))=ds g a (Hd.tp (g a)) (Hd.tf (g a)):=List.take_of_length_le (by unfold ds;simp;omega);have e3:(ds g a (Hd.tp (g a)+Hd.tf (g a)) (Hd.to (g a))).take (i-Hd.tp (g a)-Hd.tf (g a))=ds g a (Hd.tp (g a)+Hd.tf (g a)) (Hd.to (g a)):=List.take_of_length_le (by unfold ds;simp;omega);rw[e1,e2,e3]
def B9 (g:Nat->Nat) (l:List Nat) (a i:Nat) (h:i<Hd.tp (g a)):((dA g a).take (i+1)).foldl dT l=dT (((dA g a).take i).foldl dT l) (g (a+1+i))/\j5 g l a (i+1)={j5 g l a i with ps:=(j5 g l a i).ps++ [j6 (dT (((dA g a).take i).foldl dT l) (g (a+1+i))) (g (a+1+i))]}:=by
 have e:(dA g a).take (i+1)=(dA g a).take i++ [g (a+1+i)]:=take_range (λi=>g (a+1+i)) _ _ h;have h1:i+1-Hd.tp (g a)=0:=by omega
 have h2:i-Hd.tp (g a)=0:=by omega
 refine⟨by rw[e,List.foldl_append];rfl,?_⟩;unfold j5;rw[e,l9,h1,h2]
def C3 (g:Nat->Nat) (l:List Nat) (a i:Nat) (h:Hd.tp (g a)<=i) (h2:i<Hd.tp (g a)+Hd.tf (g a)):((dA g a).take (i+1)).foldl dT l=((dA g a).take i).foldl dT l/\j5 g l a (i+1)={j5 g l a i with fs:=(j5 g l a i).fs++ [((g (a+1+i):Nat):Int)]}:=by
 have hl:(dA g a).length=Hd.tp (g a):=by unfold dA;simp
 have e:(dA g a).take (i+1)=(dA g a).take i:=by rw[List.take_of_length_le (by omega),List.take_of_length_le (by omega)]
 have e1:i+1-Hd.tp (g a)=i-Hd.tp (g a)+1:=by omega
 have e2:i+1-Hd.tp (g a)-Hd.tf (g a)=0:=by omega
 have e3:i-Hd.tp (g a)-Hd.tf (g a)=0:=by omega
 refine⟨by rw[e],?_⟩;unfold j5;rw[e,e2,e3,e1];unfold ds;rw[take_range _ _ _ (by omega),show Hd.tp (g a)+(i-Hd.tp (g a))=i by omega]
def C6 (g:Nat->Nat) (l:List Nat) (a i:Nat) (h:Hd.tp (g a)+Hd.tf (g a)<=i) (h2:i<Hd.tp (g a)+Hd.tf (g a)+Hd.to (g a)):((dA g a).take (i+1)).foldl dT l=((dA g a).take i).foldl dT l/\j5 g l a (i+1)={j5 g l a i with ws:=(j5 g l a i).ws++ [((g (a+1+i):Nat):Int)]}:=by
 have hl:(dA g a).length=Hd.tp (g a):=by unfold dA;simp
 have e:(dA g a).take (i+1)=(dA g a).take i:=by rw[List.take_of_length_le (by omega),List.take_of_length_le (by omega)]
 have e0:(ds g a (Hd.tp (g a)) (Hd.tf (g a))).take (i+1-Hd.tp (g a))=(ds g a (Hd.tp (g a)) (Hd.tf (g a))).take (i-Hd.tp (g a)):=by rw[List.take_of_length_le (by unfold ds;simp;omega),List.take_of_length_le (by unfold ds;simp;omega)]
 have e1:i+1-Hd.tp (g a)-Hd.tf (g a)=i-Hd.tp (g a)-Hd.tf (g a)+1:=by omega
 refine⟨by rw[e],?_⟩;unfold j5;rw[e,e0,e1];congr 1;unfold ds;rw[take_range _ _ _ (by omega),show Hd.tp (g a)+Hd.tf (g a)+(i-Hd.tp (g a)-Hd.tf (g a))=i by omega]
def l8 (ps l:List Nat) (i:Nat):((ps.take i).foldl dT l).length<=(ps.foldl dT l).length:=by
 obtain⟨t,ht⟩:=lC (ps.drop i) ((ps.take i).foldl dT l);rw[←List.foldl_append,List.take_append_drop] at ht;rw[ht,List.length_append];omega
def C7 (g:Nat->Nat) (l:List Nat) (a i:Nat) (h:i<=255):(j5 g l a i).ps.length<=255/\(j5 g l a i).fs.length<=255/\(j5 g l a i).ws.length<=255:=by
 have key:∀(ps l:List Nat),(j7 l ps).length=ps.length:=by
  intro ps
  induction ps with
  | nil=>intro l;rfl
  | cons p ps ih=>intro l;show (j7 (dT l p) ps).length+1=_;rw[ih];rfl
 unfold j5;refine⟨?_,?_,?_⟩
 ·show (j7 l _).length<=_
  rw[key,List.length_take];omega
 ·show (List.take _ _).length<=_
  rw[List.length_take];omega
 ·show (List.take _ _).length<=_
  rw[List.length_take];omega
section
variable {s:jA} {Rs O9:BL} {g:Nat->Nat} {St D:Nat->Prop} {N nb:Nat} {l:List Nat} {w w':World}
def H8 (hs:mr s Rs g D) (hw:Whole g St D N) (hN:N<=1048576) (h:n9 nb l O9) (hR:At (O9++Rs) w) (hT:ax w) (P9:aD (O9++Rs)) (a:Nat) (ha:St a) (hl:((dA g a).foldl dT l).length<=100000):
  WA 90 #[Wz nb,s.val,(a:Nat)] w λe w'=>∃a0 a1 a2 c0 c1 c2,e= .returned (.agg (NdC (o9 g l a) a0 a1 a2 c0 c1 c2))/\∃R' Rn',n9 nb ((dA g a).foldl dT l) Rn'/\NdW (o9 g l a) a0 a1 a2 c0 c1 c2 R'/\ag (O9++Rs) (R'++(Rn'++Rs)) w w':=by
 have fY:=hw.is a ha;have hfit:=hw.fit a ha;have hok:=fY.1;have hok2:=hok;obtain⟨o1,o2,o3,o4,o5,o6,o7⟩:=hok2;have qf:=a_ (λW (h1:At Rs W) (h2:ax W)=>wE hs hw hN h1 h2 a ha);have nc:=a_ (λW=>by
  have:=Hd.iC (Hd.tp (g a)) (Hd.tf (g a)) (Hd.to (g a)) W;rw[show Hd.dH (Hd.tp (g a)) (Hd.tf (g a)) (Hd.to (g a))=((Hd.tp (g a)+Hd.tf (g a)+Hd.to (g a)+1:Nat):Int) by unfold Hd.dH;rw[b9 hok];omega] at this;exact this)
 have RA:=a_ (λ(i:Nat) W=>Hd.nR (Hd.tp (g a)) (Hd.tf (g a)) (Hd.to (g a)) i W);have HK1:=a_ (λ(i:Nat) (h:i<Hd.tp (g a))=>(show Hd.kindOf (Hd.tp (g a)) (Hd.tf (g a)) (Hd.to (g a)) i=1 from kind_ptr fY h));have HK2:=a_ (λ(i:Nat) (h:Hd.tp (g a)<=i) (h2:i<Hd.tp (g a)+Hd.tf (g a))=>(show Hd.kindOf (Hd.tp (g a)) (Hd.tf (g a)) (Hd.to (g a)) i=2 by
  unfold Hd.kindOf;rw[b9 ⟨hok,by omega,by omega⟩,cG,iY]))
 have HK3:=a_ (λ(i:Nat) (h:Hd.tp (g a)+Hd.tf (g a)<=i) (h2:i<Hd.tp (g a)+Hd.tf (g a)+Hd.to (g a))=>(show Hd.kindOf (Hd.tp (g a)) (Hd.tf (g a)) (Hd.to (g a)) i=3 by
  unfold Hd.kindOf;rw[b9 ⟨hok,by omega,by omega⟩,cG,cG]))
 have Jv:=a_ (λ(i:Nat) W (hi:i<Hd.tp (g a)+Hd.tf (g a)+Hd.to (g a)) (h1:At Rs W) (h2:ax W)=>by
  have:=hs.load W (a+1+i) h1 h2 (by have:=hw.mD a ha (1+i) (by unfold bC;omega);rw[←Nat.add_assoc] at this;exact this);rw[show ((a+1+i:Nat):Int)=(a:Int)+1+i by omega] at this;exact this)
 have HXS:=a_ (λ(i:Nat) (hi:i<Hd.tp (g a))=>(show g (a+1+i)<1048576 by
  rcases hw.ptr a i ha hi with q | q
  ·rw[q];omega
  ·have:=hw.fit _ q;have:1<=bC (g (g (a+1+i))):=by unfold bC;omega
   omega))
 have N1:=a_ (λi hi=>B9 g l a i hi);have N2:=a_ (λi hi h2=>C3 g l a i hi h2);have N3:=a_ (λi hi h2=>C6 g l a i hi h2);have HIl:=a_ (λi hi=>C7 g l a i hi);have HLe:=a_ (λi=>Nat.le_trans (l8 (dA g a) l i) hl);have hI0:=A4 g l a;have HIn:=a_ (λi hi=>B7 g l a i hi);have hMn:∀i,Hd.tp (g a)<=i->((dA g a).take i).foldl dT l=(dA g a).foldl dT l:=λi hi=>by rw[List.take_of_length_le (by unfold dA;simp;exact hi)]
 have HMn:=a_ hMn;have hm:=hs.ok.EN;have hc:=hs.ok.call;have HNU:=a_ (λl' R a' W (h:n9 nb l' R) (hR:At R W) (ha:a'<1048576) (hl:l'.length<=100000)=>v8 h hR ha hl);obtain⟨HH,HT,HZ⟩:=dF h hT P9;have D0:=a_ (((ag.refl hR).box #[.slice none 0 0,.slice none 0 0,.slice none 0 0] 72).box #[.slice none 0 0,.slice none 0 0,.slice none 0 0] 72);have zy:Hd.tp (g a)+Hd.tf (g a)+Hd.to (g a)<=255:=by omega
 have wX:a<=1048576:=by omega
 generalize o9 g l a=nn at *;generalize hml:(λi=>((dA g a).take i).foldl dT l)=Q3 at *;have J2:Q3 0=l:=by rw[←hml];rfl
 have N4:=a_ J2;have J3:∀i,((dA g a).take i).foldl dT l=Q3 i:=λi=>by rw[←hml]
 simp only[J3] at N1 N2 N3 HLe HMn;generalize (dA g a).foldl dT l=mn at *;generalize j5 g l a=Q4 at *;generalize hx:(λi=>g (a+1+i))=x at *;have hxi:∀i,g (a+1+i)=x i:=λi=>by rw[←hx]
 simp only[hxi] at N1 N2 N3 Jv HXS;generalize Hd.tp (g a)=P at *;generalize Hd.tf (g a)=F at *;generalize Hd.to (g a)=O at *;obtain⟨K8,HO⟩:=aO hI0 zy;unfold jA.val at *;obtain⟨n,hn⟩:∃n,P+F+O=n:=⟨_,rfl⟩
 rw[hn] at zy;have J4:=a_ hn;have s1:IntKind.i64.wrap (((P+F+O+1:Nat):Int)-1)=(n:Int):=by rw[IntWalk.i64_in _ (by omega)];omega
 clear hs hw h hR hT P9 ha hl fY hok hfit hMn hml J3 J2 hx hxi hI0 o1 o2 o3 o4 o5 o6 o7 hN;generalize ((P+F+O+1:Nat):Int)=sz at *;clear hn;unfold Hd.hv at nc RA;go_enter func90,ntmps90
 go_upto_region 2 with fail
 simp only[aU] at *;obtain⟨b6,N5⟩:∃b6,w.heap.size=b6:=⟨_,rfl⟩
 have HB6:=a_ N5;simp only[N5] at D0 ⊢;clear N5;generalize (w.alloc _).alloc _=w1 at *;obtain⟨b7,IA⟩:∃b7,b6+1=b7:=⟨_,rfl⟩
 simp only[IA] at D0 ⊢;clear IA
 go_upto_region 3 with (go_at_call 98;refine (qf _ D0.at_.tail.tail.right (D0.tz HT HZ)).kq ?_;rintro w2 hb;have D1:=a_ ((D0.grow hb).box #[P,F,O] 31);clear hb)
 obtain⟨b8,CV⟩:∃b8,w2.heap.size=b8:=⟨_,rfl⟩
 rw[CV] at D1;have Pt:=a_ CV;simp only[CV];clear CV;generalize World.alloc _ _=w3 at *;have q:=D1.has.head;obtain⟨e0,e1,e2, -⟩:=ft q;clear q
 go_upto_region 4 with (go_at_call 52;refine (nc _).kq ?_;rintro w4 hb;have D2:=a_ (D1.grow hb);clear hb)
 clear e0 e1 e2 D0 D1 nc qf s1
 go_loopw [22] (λiv wr=>∃(i:Nat) (a0 a1 a2:Option Addr) (c0 c1 c2:Nat) (Rr y8:BL),iv= .int .i64 i/\i<=n/\n9 nb (Q3 i) y8/\NdW (Q4 i) a0 a1 a2 c0 c1 c2 Rr/\ag (O9++Rs) ((b7,.cells (NdC (Q4 i) a0 a1 a2 c0 c1 c2) 72 (0,0))::(b8,.cells #[P,F,O] 31 (0,0))::(b6,.cells #[.slice none 0 0,.slice none 0 0,.slice none 0 0] 72 (0,0))::(Rr++(y8++Rs))) w wr) (λiv _=>n-(intOf iv).toNat)
 case atStart=>
  refine⟨0,none,none,none,0,0,0,[],O9,rfl,by omega,by rw[N4.out];exact HH,⟨[],[],[],rfl,?_,?_,?_⟩,?_⟩
  ·rw[K8.out];exact Rw.nil _ _ _
  ·rw[K8.out];exact Rw.nil _ _ _
  ·rw[K8.out];exact Rw.nil _ _ _
  ·rw[K8.out];exact D2.perm aF
 case round=>
  obtain⟨i,a0,a1,a2,c0,c1,c2,Rr,y8,rfl,hi,G6,hnd,hD⟩:=hrel;clear D2;obtain⟨F5,HD⟩:=aO G6 hD;have q:=hD.has.tail.head;obtain⟨e0,e1,e2, -⟩:=ft q;obtain⟨⟨R0,R1,R2,rfl,r0,r1,r2⟩⟩:=hnd;obtain⟨n1,n2,n3⟩:=HIl i (by omega);obtain⟨T0,T1,T2⟩:=dF r0 r1 r2;clear q hD G6 r0 r1 r2;by_cases hlt:i<n
  ·have k1:(i:Int)<n:=by omega
   have s1:=eH ((i:Int)+1);have s2:=eH ((a:Int)+1);have s3:=eH ((a:Int)+1+i);have HL:=a_ (λW h1 h2=>Jv i W (by have:=J4.out;omega) h1 h2);have HK:=a_ (λW=>RA i W);have E0:=a_ hlt;obtain⟨ps,fs,ws,N6⟩:∃ps fs ws,Q4 i=⟨ps,fs,ws⟩:=⟨_,_,_,rfl⟩
   rw[N6] at HD T0 T1 T2 n1 n2 n3;simp only at T0 T1 T2 n1 n2 n3;have E9:=a_ N6;clear N6;obtain⟨xi,hxi⟩:∃xi,x i=xi:=⟨_,rfl⟩
   have HXX:=a_ hxi;rw[hxi] at HL;by_cases hp:i<P
   ·have hk:=HK1 i hp;rw[hk] at HK;obtain⟨i1,i2⟩:=N1 i hp;have Md:=HXS i hp;rw[hxi] at i1 i2 Md;have VF:=HLe i;obtain⟨HI1,FU⟩:=aO i1 i2;have s4:IntKind.i64.wrap (xi:Int)=xi:=IntWalk.i64_in _ (by omega);obtain⟨K9,PA⟩:=aO Md VF;clear hk i1 i2 Md VF hxi hlt hi hp
    go_upto_region 10 with (first
     | (go_at_call 180;refine (HK _).kq ?_;rintro w6 hb;have D6:=a_ (D5.grow hb);clear hb)
     | ((with_reducible refine (HL.out _ HD.out.at_.tail.tail.tail.right.right (HD.out.tz HT.out HZ.out)).mono ?_);rintro e w5 ⟨rfl,hb⟩;have D5:=a_ (HD.grow hb);clear hb;have q:=D5.has.tail.head;have e0:=an q 0 (.int .i64 P) rfl;have e1:=an q 1 (.int .i64 F) rfl;have e2:=an q 2 (.int .i64 O) rfl;clear q))
    clear e0 e1 e2;have D7:=a_ D6.drew;have q:=D6.has.head;have u0:=an q 0 (.slice a0 ps.length c0) rfl;clear q;refine aP (S:=λW=>W.cell? ⟨b7,0,none⟩=some (.slice a0 ps.length c0)) (by kernel_rfl) u0 (λhHeld=>?_);generalize w6.drew=W1 at *;clear u0 D5 D6;refine aR 0 ?_;refine aR 1 ?_;refine aR 2 ?_;refine aR 3 ?_;refine aR 4 ?_;simp only[aI];refine jS 5 (λK hK=>?_);go_simp
    go_at_call 89
    refine (HNU _ _ _ _ F5 D7.at_.tail.tail.tail.right.left K9 PA).kq ?_;rintro w8 ⟨J5,m8,d8⟩;have M8:=a_ m8;have D8:=a_ ((D7.perm (R':=y8++((b7,.cells #[.slice a0 ps.length c0,.slice a1 fs.length c1,.slice a2 ws.length c2] 72 (0,0))::(b8,.cells #[P,F,O] 31 (0,0))::(b6,.cells #[.slice none 0 0,.slice none 0 0,.slice none 0 0] 72 (0,0))::((R0++(R1++R2))++Rs))) aF).step d8);clear m8 d8 hHeld;obtain⟨j1,hj,sB,oQ,sC⟩:=info_parts fP;obtain⟨v,hv⟩:∃v,j6 (dT (Q3 i) xi) xi=v:=⟨_,rfl⟩
    rw[hv] at FU ⊢;have HV:=a_ hv;clear hv;have HB:=a_ (D8.box #[v] 3);obtain⟨wU,eO,w9,AA,hrun,kz,d9⟩:=T0.LD (K:=(b7,.cells #[.slice a0 ps.length c0,.slice a1 fs.length c1,.slice a2 ws.length c2] 72 (0,0))::(b8,.cells #[P,F,O] 31 (0,0))::(b6,.cells #[.slice none 0 0,.slice none 0 0,.slice none 0 0] 72 (0,0))::((R1++R2)++(J5++Rs))) (D8.perm (R':=R0++((b7,.cells #[.slice a0 ps.length c0,.slice a1 fs.length c1,.slice a2 ws.length c2] 72 (0,0))::(b8,.cells #[P,F,O] 31 (0,0))::(b6,.cells #[.slice none 0 0,.slice none 0 0,.slice none 0 0] 72 (0,0))::((R1++R2)++(J5++Rs)))) aF) hj sB oQ sC rfl (by decide) underlying58 #[.int .i64 v] rfl (by intro u hu;simp only[List.mem_cons,List.not_mem_nil,or_false] at hu;rw[hu];rfl) (by unfold maxLen;omega) (by omega);obtain⟨et,Az,D9⟩:=dF hrun kz d9;clear hrun kz d9 j1 hj sB oQ sC;refine hK _ _ (an D8.has.right.head 0 _ rfl) (λhHeld=>?_);clear hK K
    try simp only[aI]
    refine jS 6 (λK hK=>?_);go_simp;refine hK _ _ (an HB.has.tail.right.head 0 _ rfl) (λhHeld=>?_);clear hK K
    try simp only[aI]
    refine jS 7 (λK hK=>?_);refine km _ (by rfl) (.tmp 46) (.tmp 51) 58 58 _ (by rfl) (by rfl) _ _ (by rfl) (by rfl) _ w9 et ?_;refine hK _ _ (an D9.has.right.head 0 _ rfl) (λhHeld=>?_);clear hK K
    try simp only[aI]
    refine aR 8 ?_;simp only[aI];have q:=D9.has.right.head;have u0:=an q 0 (.slice a0 ps.length c0) rfl;have f0:=br q 0;clear q;refine sD 9 (λK hK=>?_);go_simp;refine hK _ _ ?_;clear hK K
    try simp only[aI]
    have DA:=a_ ((D9.perm (R':=(b7,.cells #[.slice a0 ps.length c0,.slice a1 fs.length c1,.slice a2 ws.length c2] 72 (0,0))::(AA++((b8,.cells #[P,F,O] 31 (0,0))::(b6,.cells #[.slice none 0 0,.slice none 0 0,.slice none 0 0] 72 (0,0))::((R1++R2)++(J5++Rs))))) aF).set 0 (.slice wU (ps.length+1) eO));clear u0 f0 hHeld D7 D8 D9 HB et HL HK;generalize w9.setCell _ _=Q5 at *;go_wp2
    go_roundw
    case rel=>
     refine⟨i+1,wU,a1,a2,eO,c1,c2,AA++(R1++R2),J5,by go_num,E0,by rw[HI1.out];exact M8,⟨AA,R1,R2,rfl,?_,?_,?_⟩,?_⟩
     ·rw[FU.out,E9.out,u9,List.length_append];exact Az
     ·rw[FU.out,E9.out];exact T1
     ·rw[FU.out,E9.out];exact T2
     ·rw[FU.out,E9.out];have:=DA.out;simp only[ma] at this;rw[show ps.length+1=(ps++ [v]).length by simp] at this;have t:=this.perm (R':=(b7,.cells #[.slice wU (ps++ [v]).length eO,.slice a1 fs.length c1,.slice a2 ws.length c2] 72 (0,0))::(b8,.cells #[P,F,O] 31 (0,0))::(b6,.cells #[.slice none 0 0,.slice none 0 0,.slice none 0 0] 72 (0,0))::((AA++(R1++R2))++(J5++Rs))) aF;exact t
    case measure=>have:=E0.out;simp[intOf];omega
   ·by_cases hp2:i<P+F
    ·have hp:=hp;have hk:=HK2 i (by omega) hp2;rw[hk] at HK;obtain⟨i1,i2⟩:=N2 i (by omega) hp2;rw[hxi] at i2;obtain⟨HI1,FU⟩:=aO i1 i2;clear hk i1 i2 hxi hlt hi hp
     go_upto_region 12 with (first
      | (go_at_call 180;refine (HK _).kq ?_;rintro w6 hb;have D6:=a_ (D5.grow hb);clear hb)
      | ((with_reducible refine (HL.out _ HD.out.at_.tail.tail.tail.right.right (HD.out.tz HT.out HZ.out)).mono ?_);rintro e w5 ⟨rfl,hb⟩;have D5:=a_ (HD.grow hb);clear hb;have q:=D5.has.tail.head;have e0:=an q 0 (.int .i64 P) rfl;have e1:=an q 1 (.int .i64 F) rfl;have e2:=an q 2 (.int .i64 O) rfl;clear q))
     clear e0 e1 e2;obtain⟨j1,hj,sB,oQ,sC⟩:=info_parts vi;obtain⟨wU,eO,w9,AA,hrun,kz,d9⟩:=T1.LD (K:=(b7,.cells #[.slice a0 ps.length c0,.slice a1 fs.length c1,.slice a2 ws.length c2] 72 (0,0))::(b8,.cells #[P,F,O] 31 (0,0))::(b6,.cells #[.slice none 0 0,.slice none 0 0,.slice none 0 0] 72 (0,0))::((R0++R2)++(y8++Rs))) (D6.perm (R':=R1++((b7,.cells #[.slice a0 ps.length c0,.slice a1 fs.length c1,.slice a2 ws.length c2] 72 (0,0))::(b8,.cells #[P,F,O] 31 (0,0))::(b6,.cells #[.slice none 0 0,.slice none 0 0,.slice none 0 0] 72 (0,0))::((R0++R2)++(y8++Rs)))) aF) hj sB oQ sC rfl (by decide) underlying25 #[.int .u64 (xi:Nat)] rfl (by intro u hu;simp only[List.mem_cons,List.not_mem_nil,or_false] at hu;rw[hu];rfl) (by unfold maxLen;omega) (by omega);have q:=D6.has.head;have u0:=an q 1 (.slice a1 fs.length c1) rfl;have q:=d9.has.right.head;have v0:=an q 1 (.slice a1 fs.length c1) rfl;have f0:=br q 1;clear q;obtain⟨et,Az⟩:=aO hrun kz;have DA:=a_ ((d9.perm (R':=(b7,.cells #[.slice a0 ps.length c0,.slice a1 fs.length c1,.slice a2 ws.length c2] 72 (0,0))::(AA++((b8,.cells #[P,F,O] 31 (0,0))::(b6,.cells #[.slice none 0 0,.slice none 0 0,.slice none 0 0] 72 (0,0))::((R0++R2)++(y8++Rs))))) aF).set 1 (.slice wU (fs.length+1) eO));clear hrun kz d9 j1 hj sB oQ sC D5 D6 HL HK
     go_upto_region 13 with (at_builtin;refine cP _ rfl (.tmp 57) (.tmp 59) 25 rfl _ _ _ _ rfl rfl et ?_;clear et)
     clear u0 v0 f0;generalize w9.setCell _ _=Q5 at *;go_wp2
     go_roundw
     case rel=>
      refine⟨i+1,a0,wU,a2,c0,eO,c2,R0++(AA++R2),y8,by go_num,E0,by rw[HI1.out];exact F5,⟨R0,AA,R2,rfl,?_,?_,?_⟩,?_⟩
      ·rw[FU.out,E9.out];exact T0
      ·rw[FU.out,E9.out,v7,List.length_append];exact Az
      ·rw[FU.out,E9.out];exact T2
      ·rw[FU.out,E9.out];have:=DA.out;simp only[ma] at this;rw[show fs.length+1=(fs++ [(xi:Int)]).length by simp] at this;have t:=this.perm (R':=(b7,.cells #[.slice a0 ps.length c0,.slice wU (fs++ [(xi:Int)]).length eO,.slice a2 ws.length c2] 72 (0,0))::(b8,.cells #[P,F,O] 31 (0,0))::(b6,.cells #[.slice none 0 0,.slice none 0 0,.slice none 0 0] 72 (0,0))::((R0++(AA++R2))++(y8++Rs))) aF;exact t
     case measure=>have:=E0.out;simp[intOf];omega
    ·have hp:=hp;have hk:=HK3 i (by omega) (by have:=J4.out;omega);rw[hk] at HK;obtain⟨i1,i2⟩:=N3 i (by omega) (by have:=J4.out;omega);rw[hxi] at i2;obtain⟨HI1,FU⟩:=aO i1 i2;clear hk i1 i2 hxi hlt hi hp
     go_upto_region 8 with (first
      | (go_at_call 180;refine (HK _).kq ?_;rintro w6 hb;have D6:=a_ (D5.grow hb);clear hb)
      | ((with_reducible refine (HL.out _ HD.out.at_.tail.tail.tail.right.right (HD.out.tz HT.out HZ.out)).mono ?_);rintro e w5 ⟨rfl,hb⟩;have D5:=a_ (HD.grow hb);clear hb;have q:=D5.has.tail.head;have e0:=an q 0 (.int .i64 P) rfl;have e1:=an q 1 (.int .i64 F) rfl;have e2:=an q 2 (.int .i64 O) rfl;clear q))
     clear e0 e1 e2;obtain⟨j1,hj,sB,oQ,sC⟩:=info_parts vi;obtain⟨wU,eO,w9,AA,hrun,kz,d9⟩:=T2.LD (K:=(b7,.cells #[.slice a0 ps.length c0,.slice a1 fs.length c1,.slice a2 ws.length c2] 72 (0,0))::(b8,.cells #[P,F,O] 31 (0,0))::(b6,.cells #[.slice none 0 0,.slice none 0 0,.slice none 0 0] 72 (0,0))::((R0++R1)++(y8++Rs))) (D6.perm (R':=R2++((b7,.cells #[.slice a0 ps.length c0,.slice a1 fs.length c1,.slice a2 ws.length c2] 72 (0,0))::(b8,.cells #[P,F,O] 31 (0,0))::(b6,.cells #[.slice none 0 0,.slice none 0 0,.slice none 0 0] 72 (0,0))::((R0++R1)++(y8++Rs)))) aF) hj sB oQ sC rfl (by decide) underlying25 #[.int .u64 (xi:Nat)] rfl (by intro u hu;simp only[List.mem_cons,List.not_mem_nil,or_false] at hu;rw[hu];rfl) (by unfold maxLen;omega) (by omega);have q:=D6.has.head;have u0:=an q 2 (.slice a2 ws.length c2) rfl;have q:=d9.has.right.head;have v0:=an q 2 (.slice a2 ws.length c2) rfl;have f0:=br q 2;clear q;obtain⟨et,Az⟩:=aO hrun kz;have DA:=a_ ((d9.perm (R':=(b7,.cells #[.slice a0 ps.length c0,.slice a1 fs.length c1,.slice a2 ws.length c2] 72 (0,0))::(AA++((b8,.cells #[P,F,O] 31 (0,0))::(b6,.cells #[.slice none 0 0,.slice none 0 0,.slice none 0 0] 72 (0,0))::((R0++R1)++(y8++Rs))))) aF).set 2 (.slice wU (ws.length+1) eO));clear hrun kz d9 j1 hj sB oQ sC D5 D6 HL HK
     go_upto_region 13 with (at_builtin;refine cP _ rfl (.tmp 38) (.tmp 40) 25 rfl _ _ _ _ rfl rfl et ?_;clear et)
     clear u0 v0 f0;generalize w9.setCell _ _=Q5 at *;go_wp2
     go_roundw
     case rel=>
      refine⟨i+1,a0,a1,wU,c0,c1,eO,R0++(R1++AA),y8,by go_num,E0,by rw[HI1.out];exact F5,⟨R0,R1,AA,rfl,?_,?_,?_⟩,?_⟩
      ·rw[FU.out,E9.out];exact T0
      ·rw[FU.out,E9.out];exact T1
      ·rw[FU.out,E9.out,v7,List.length_append];exact Az
      ·rw[FU.out,E9.out];have:=DA.out;simp only[ma] at this;rw[show ws.length+1=(ws++ [(xi:Int)]).length by simp] at this;have t:=this.perm (R':=(b7,.cells #[.slice a0 ps.length c0,.slice a1 fs.length c1,.slice wU (ws++ [(xi:Int)]).length eO] 72 (0,0))::(b8,.cells #[P,F,O] 31 (0,0))::(b6,.cells #[.slice none 0 0,.slice none 0 0,.slice none 0 0] 72 (0,0))::((R0++(R1++AA))++(y8++Rs))) aF;exact t
     case measure=>have:=E0.out;simp[intOf];omega
  ·have k9:=hlt;obtain rfl:i=n:=by omega
   have k1:¬(i:Int)<i:=by omega
   have Ab:=HIn i J4.symm;have hmm:=HMn i (by have:=J4.out;omega);obtain⟨I4,I6,I7⟩:=nn;rw[Ab] at HD T0 T1 T2;rw[hmm] at F5;simp only at HD T0 T1 T2;have q:=HD.has.head;obtain⟨v0,v1,v2, -⟩:=ft q;have f0:=br q 0;have q:=HD.has.tail.tail.head;obtain⟨t0,t1,t2, -⟩:=ft q;obtain⟨f6,f7,f8, -⟩:=zN q;clear q e0 e1 e2 f0 Ab hmm hlt hi;go_wp2;obtain⟨Q6,J6⟩:∃Q6,((wr.setCell ⟨b6,0,none⟩ (.slice a0 I4.length c0)).setCell ⟨b6,1,none⟩ (.slice a1 I6.length c1)).setCell ⟨b6,2,none⟩ (.slice a2 I7.length c2)=Q6:=⟨_,rfl⟩
   have Q7:ag (O9++Rs) ((b6,.cells #[.slice a0 I4.length c0,.slice a1 I6.length c1,.slice a2 I7.length c2] 72 (0,0))::((b7,.cells #[.slice a0 I4.length c0,.slice a1 I6.length c1,.slice a2 I7.length c2] 72 (0,0))::(b8,.cells #[P,F,O] 31 (0,0))::((R0++(R1++R2))++(y8++Rs)))) w Q6:=by
    rw[←J6];exact (((HD.perm (R':=(b6,.cells #[.slice none 0 0,.slice none 0 0,.slice none 0 0] 72 (0,0))::((b7,.cells #[.slice a0 I4.length c0,.slice a1 I6.length c1,.slice a2 I7.length c2] 72 (0,0))::(b8,.cells #[P,F,O] 31 (0,0))::((R0++(R1++R2))++(y8++Rs)))) aF).set 0 (.slice a0 I4.length c0)).set 1 (.slice a1 I6.length c1)).set 2 (.slice a2 I7.length c2)
   rw[J6];have q:=Q7.has.head;obtain⟨q0,q1,q2, -⟩:=ft q;exact bodyPost_ret (v:= .agg #[.slice a0 I4.length c0,.slice a1 I6.length c1,.slice a2 I7.length c2]) (by simp[results,results90,go_sem,q0,q1,q2]) rfl ⟨a0,a1,a2,c0,c1,c2,rfl,R0++(R1++R2),y8,F5,⟨R0,R1,R2,rfl,T0,T1,T2⟩,Q7.tail.tail.tail⟩
end
end
def j9 (g:Nat->Nat) (L:List Nat) (a:Nat):O3:=⟨(dA g a).map (j6 L),ds g a (Hd.tp (g a)) (Hd.tf (g a)),ds g a (Hd.tp (g a)+Hd.tf (g a)) (Hd.to (g a))⟩
def u7 (g:Nat->Nat) (rs:List Nat):O4:=⟨rs.map (j6 (rF (dA g) rs)),(rF (dA g) rs).map (j9 g (rF (dA g) rs))⟩
def F6 {l:List Nat} {p:Nat} (t:List Nat) (h:p=0\/p∈l):j6 (l++t) p=j6 l p:=by
 unfold j6;by_cases h0:p=0
 ·rw[b9 h0,b9 h0]
 ·rw[b_ h0,b_ h0,List.idxOf_append,b9 (h.resolve_left h0)]
def s8:∀(ps l:List Nat) {L:List Nat},(∃t,L=ps.foldl dT l++t)->j7 l ps=ps.map (j6 L)
 | [],l,L,h=>rfl
 | p::ps,l,L,h=>by
  show j6 (dT l p) p::j7 (dT l p) ps=j6 L p::ps.map (j6 L)
  rw[s8 ps (dT l p) h];congr 1;obtain⟨t,rfl⟩:=h;obtain⟨u,hu⟩:=lC ps (dT l p);rw[List.foldl_cons,hu,List.append_assoc];refine (F6 _ ?_).symm;by_cases h0:p=0
  ·exact .inl h0
  ·exact .inr (gJ.2 (.inr ⟨rfl,h0⟩))
def F7 {g:Nat->Nat} {l L:List Nat} {a:Nat} (h:∃t,L=(dA g a).foldl dT l++t):o9 g l a=j9 g L a:=by
 unfold o9 j9;rw[s8 _ _ h]
def y9 (f:Nat->List Nat):∀(n i:Nat) (l:List Nat),∃t,lS f n i l=l++t
 | 0,i,l=>⟨[],(List.append_nil _).symm⟩
 | n+1,i,l=>by
  unfold lS
  split
  ·obtain⟨t,ht⟩:=y9 f n (i+1) ((f _).foldl dT l);obtain⟨u,hu⟩:=lC (f _) l;rw[ht,hu,List.append_assoc];exact⟨u++t,rfl⟩
  ·exact⟨[],(List.append_nil _).symm⟩
def E4 (f:Nat->List Nat) (L:List Nat) (i:Nat) (l:List Nat):Prop:=i<=l.length/\∃n,i+n=1000000/\lS f n i l=L
def E4.start (f:Nat->List Nat) (rs:List Nat):E4 f (rF f rs) 0 (rs.foldl dT []):=⟨Nat.zero_le _,1000000,rfl,rfl⟩
section
variable {f:Nat->List Nat} {L l:List Nat} {i:Nat}
def E4.pre (h:E4 f L i l):∃t,L=l++t:=by
 obtain⟨-,n, -,e⟩:=h;rw[←e];exact y9 f n i l
def E4.step (h:E4 f L i l) (hi:i<l.length) (hL:L.length<=100000):E4 f L (i+1) ((f (l.getD i 0)).foldl dT l):=by
 obtain⟨t,ht⟩:=h.pre;obtain⟨h1,n,hn,e⟩:=h;have hlen:l.length<=L.length:=by rw[ht,List.length_append];omega
 obtain⟨k,rfl⟩:∃k,n=k+1:=⟨n-1,by omega⟩
 obtain⟨u,hu⟩:=lC (f (l.getD i 0)) l;have eg:l.getD i 0=l[i]:=by rw[List.getD_eq_getElem?_getD,List.getElem?_eq_getElem hi];rfl
 refine⟨by rw[hu,List.length_append];omega,k,by omega,?_⟩;rw[←e]
 conv=>rhs;unfold lS
 rw[dif_pos hi,eg]
def E4.done (h:E4 f L i l) (hi:¬i<l.length) (hL:L.length<=100000):L=l/\i=L.length:=by
 obtain⟨t,ht⟩:=h.pre;obtain⟨h1,n,hn,e⟩:=h;have hlen:l.length<=L.length:=by rw[ht,List.length_append];omega
 obtain⟨k,rfl⟩:∃k,n=k+1:=⟨n-1,by omega⟩
 unfold lS at e;rw[dif_neg hi] at e;refine⟨e.symm,?_⟩;rw[←e];omega
def E4.at_ (h:E4 f L i l) (hi:i<l.length):i<L.length/\L.getD i 0=l.getD i 0/\l.getD i 0∈L:=by
 obtain⟨t,rfl⟩:=h.pre;have e:(l++t).getD i 0=l.getD i 0:=by rw[List.getD_eq_getElem?_getD,List.getD_eq_getElem?_getD,List.getElem?_append_left hi]
 refine⟨by rw[List.length_append];omega,e,List.mem_append_left _ ?_⟩;rw[List.getD_eq_getElem?_getD,List.getElem?_eq_getElem hi];exact List.getElem_mem hi
end
def MH.node (m:MH) (L:List Nat) (a:Nat):O3:=⟨(m.pt a).map (j6 L),(((m.ob a).w.drop (m.ob a).p).take (m.ob a).f).map λx=>((x:Nat):Int),((m.ob a).w.drop ((m.ob a).p+(m.ob a).f)).map λx=>((x:Nat):Int)⟩
def MH.graph (m:MH):O4:=⟨m.S.map (j6 m.gU),m.gU.map (m.node m.gU)⟩
section
variable {g:Nat->Nat} {rs:List Nat} {m:MH} {Q:Nat->Prop} {φ:Nat->Nat} {aa top:Nat}
def cX.J7 (h:cX g rs m Q φ aa top) {a:Nat} (ha:Q a) (k n:Nat) (hk:(m.ob a).p<=k) (hn:k+n<=(m.ob a).w.length):ds g (φ a) k n=(((m.ob a).w.drop k).take n).map λx=>((x:Nat):Int):=by
 unfold ds;apply List.ext_getElem?;intro j;rw[List.getElem?_map,List.getElem?_map,List.getElem?_take];by_cases hj:j<n
 ·rw[List.getElem?_range hj,b9 hj,Option.map_some,List.getElem?_drop,List.getElem?_eq_getElem (by omega),Option.map_some,h.Cr a (k+j) ha (by omega),cG,List.getD_eq_getElem?_getD,List.getElem?_eq_getElem (by omega)];rfl
 ·rw[b_ hj,List.getElem?_eq_none (by simpa using hj)];rfl
def s9 {L:List Nat} {p:Nat} (h0:¬0∈L) (hp:p=0\/p∈L):j6 L p=n8 L p:=by
 unfold j6 n8;by_cases e:p=0
 ·subst e;rw[b9 rfl,b_ h0]
 ·rw[b_ e,b9 (hp.resolve_left e)]
def cX.graph (h:cX g rs m Q φ aa top) (ht:top<=1000000):u7 g rs=m.graph:=by
 obtain⟨b1,b2,b3,b4⟩:=h.PK ht;have hq:∀a∈m.gU,Q a:=λa ha=>h.wD ((b2 a).1 ha)
 have h0:¬0∈m.gU:=λq=>((b2 0).1 q).ne rfl
 have Sk:¬0∈m.gU.map φ:=λq=>by
  obtain⟨a,ha,e⟩:=List.mem_map.1 q;exact h.Ct (hq a ha) e
 have key:∀p,p=0\/p∈m.gU->j6 (m.gU.map φ) (φ p)=j6 m.gU p:=λp hp=>by
  rw[s9 h0 hp,s9 Sk (hp.imp (λe=>by rw[e];exact h.zero) (λe=>List.mem_map_of_mem e))];exact h.Wl.place hq (hp.imp id (hq p))
 unfold u7 MH.graph;rw[b3];congr 1
 ·rw[h.rs,List.map_map];refine List.map_congr_left λp hp=>key p ?_
  by_cases e:p=0
  ·exact .inl e
  ·exact .inr ((b2 p).2 (.root hp e))
 ·rw[List.map_map];refine List.map_congr_left λa ha=>?_
  obtain⟨_,e1,e2,e3⟩:=h.hd a (hq a ha);have GI:=h.wl a (hq a ha);show j9 g (m.gU.map φ) (φ a)=m.node m.gU a
  unfold j9 MH.node;rw[h.Jh (hq a ha),e1,e2,e3,h.J7 (hq a ha) _ _ (Nat.le_refl _) (by omega),h.J7 (hq a ha) _ _ (Nat.le_add_right _ _) (by omega),List.map_map,List.take_of_length_le (l:=(m.ob a).w.drop ((m.ob a).p+(m.ob a).f)) (by rw[List.length_drop];omega)];congr 1;refine List.map_congr_left λp hp=>key p ?_
  by_cases e:p=0
  ·exact .inl e
  ·exact .inr ((b2 p).2 (.ptr ((b2 a).1 ha) hp e))
end
section
attribute [local go_sem] Oper.semAt_some
section
variable {hb m rb T:Nat} {S:HS} {R:BL} {w:World}
def F8 (nb mb:Nat):n9 nb [] [(nb,.cells #[.map (some mb),.slice none 0 0] 134 (0,0)),(mb,.map #[] 0)]:=by
 refine⟨mb,_,none,0,[],rfl,?_,Rw.nil _ _ _⟩;have e:G0 []=λ_=>none:=by
  funext f;unfold G0;rw[b_ (by simp)]
 rw[e];exact VM.made
def G8 (h:ak hb m rb S T R) (hg:S.Good) (hR:At R w) (hT:ax w) (P9:aD R):
  WA 29 #[Wz hb] w λe w'=>∃ar cr O6 cn,e= .returned (.agg #[.slice ar S.m.graph.rs.length cr,.slice O6 S.m.graph.ns.length cn])/\∃B,I3 0 S.m.graph ar O6 cr cn B/\ag R (B++R) w w':=by
 obtain⟨Q,φ,hr⟩:=hg.rep;have hrun:=hg.aX.run;have sx:=hg.aX.top;have PY:=hg.aX.bG;have Gs:=hg.aX.bG.fX;have hw:=hr.whole (N:=S.c.mw) (by omega);have hZ:=look_sees h hg.aX;have hro:=hr.wG;obtain⟨b1,b2,b3,b4⟩:=hr.PK (by omega);have hLl:(rF (dA S.ba) S.rs).length<=100000:=by rw[b3,List.length_map];omega
 have hLs:∀a∈rF (dA S.ba) S.rs,cX.St Q φ a:=λa ha=>by
  rw[b3] at ha;obtain⟨x,hx,rfl⟩:=List.mem_map.1 ha;exact⟨x,hr.wD ((b2 x).1 hx),rfl⟩
 have hN9:S.c.mw<=1048576:=by omega
 rw[←hr.graph (by omega)];have Cz:S.rs.length<=64:=by rw[hg.yB.1];exact PY.bV.2
 obtain⟨OV,UR, -,bu⟩:=h.cells;have gd:=a_ (λW (hA:Has R W)=>(show W.cell? ⟨hb,9,none⟩=some (.pointer (some ⟨rb,0,none⟩)) from (bu W hA).1.c9));have Lr:=a_ (λW (hA:Has R W)=>ev (hb:=hb) W (bu W hA).1.c8);have Tz:=a_ (λW (hA:Has R W)=>h.all_ hA);have HNU:=a_ (λnb l' O9 a' W (h:n9 nb l' O9) (hR:At O9 W) (ha:a'<1048576) (hl:l'.length<=100000)=>v8 h hR ha hl);have RC:=a_ (λnb l O9 W a (h:n9 nb l O9) (hR:At (O9++R) W) (hT:ax W) (P9:aD (O9++R)) (ha:cX.St Q φ a) (hl:((dA S.ba a).foldl dT l).length<=100000)=>H8 hZ hw hN9 h hR hT P9 a ha hl);have HRB:=a_ (λa (ha:a∈S.rs)=>(show a<1048576 by
  rcases hro a ha with q | q
  ·rw[q];omega
  ·have:=hw.fit _ q;have:1<=bC (S.ba a):=by unfold bC;omega
   omega))
 have HAB:=a_ (λa (ha:cX.St Q φ a)=>(show a<1048576 by
  have:=hw.fit _ ha;have:1<=bC (S.ba a):=by unfold bC;omega
  omega))
 have hMs:=E4.start (dA S.ba) S.rs;obtain⟨L0,HLS,HMS,HRL,HT,HZ⟩:=uB hLl hLs hMs Cz hT P9;have hn:=Lr w hR.1;have D0:=a_ (((ag.refl hR).box #[.slice none 0 0,.slice none 0 0] 61).box #[.slice none 0 0,.slice none 0 0] 61);unfold u7;generalize rF (dA S.ba) S.rs=L at *;generalize S.rs=rs at *;generalize S.ba=g at *;clear h hg hR hT P9 hr hrun sx PY Gs hw hZ hro b1 b2 b3 b4 hLl hLs hN9 Cz bu hMs;generalize cX.St Q φ=St at *;obtain⟨rv,L3⟩:∃rv,rs.map (j6 L)=rv:=⟨_,rfl⟩
 obtain⟨nv,L4⟩:∃nv,L.map (j9 g L)=nv:=⟨_,rfl⟩
 have J8:=a_ (show rv.length=rs.length by rw[←L3];exact List.length_map ..);have HNL:=a_ (show nv.length=L.length by rw[←L4];exact List.length_map ..);rw[L3,L4];simp only;obtain⟨HRV,N7⟩:=aO L3 L4;clear L3 L4;go_enter func29,ntmps29
 go_upto_region 2 with fail
 simp only[aU] at *;obtain⟨b2,dw⟩:∃b2,w.heap.size=b2:=⟨_,rfl⟩
 have jB:=a_ dw;simp only[dw] at D0 ⊢;clear dw;generalize (w.alloc _).alloc _=w1 at *;obtain⟨b3,qX⟩:∃b3,b2+1=b3:=⟨_,rfl⟩
 simp only[qX] at D0 ⊢;clear qX hn;have hn:=Lr w1 D0.has.tail.tail;have c9:=gd w1 D0.has.tail.tail;have hmkm:∀W:World,(Instr.makeMap 132 none).run prog W= .ok (.map (some W.heap.size)) (W.alloc (.map #[] 0)):=λW=>rfl
 go_upto_region 5 with (go_at_call 48;refine hn.kq ?_;rintro w2 rfl)
 clear hmkm hn Lr;have D1:=a_ ((D0.obj (.map #[] 0)).box #[.map (some w1.heap.size),.slice none 0 0] 134);simp only[aU] at *;obtain⟨mb,hmb⟩:∃mb,w1.heap.size=mb:=⟨_,rfl⟩
 have HMB:=a_ hmb;simp only[hmb] at D1 ⊢;clear hmb;obtain⟨nb,hnb⟩:∃nb,mb+1=nb:=⟨_,rfl⟩
 simp only[hnb] at D1 ⊢;have D2:=a_ (D1.perm (R':=(b3,.cells #[.slice none 0 0,.slice none 0 0] 61 (0,0))::(b2,.cells #[.slice none 0 0,.slice none 0 0] 61 (0,0))::([(nb,.cells #[.map (some mb),.slice none 0 0] 134 (0,0)),(mb,.map #[] 0)]++R)) aF);have Mv:=a_ (F8 nb mb);generalize (nb,Obj.cells #[.map (some mb),.slice none 0 0] 134 (0,0))=nbo at *;generalize ([nbo,(mb,Obj.map #[] 0)]:BL)=Rn0 at *;generalize World.alloc _ _=w2 at *;clear c9 D0 D1 hnb;have c9:=gd w2 D2.has.tail.tail.right
 go_upto_region 6 with (go_at_call 88;refine (Tz _ D2.has.tail.tail.right).mono ?_;rintro e w3 ⟨al,cap,rfl,Rq,row,d3⟩;have PJ:=a_ row;have D3:=a_ ((D2.bh d3).perm (R':=(b3,.cells #[.slice none 0 0,.slice none 0 0] 61 (0,0))::(b2,.cells #[.slice none 0 0,.slice none 0 0] 61 (0,0))::([]++(Rn0++(Rq++R)))) aF);clear row d3)
 clear c9 D2 Tz gd
 go_loopw [20] (λiv wr=>∃(k:Nat) (ar:Option Addr) (cr:Nat) (Rr O9:BL),iv= .int .i64 k/\k<=rs.length/\n9 nb ((rs.take k).foldl dT []) O9/\Rz 3 1 k (mJ (j7 [] (rs.take k))) ar cr Rr/\ag R ((b3,.cells #[.slice ar k cr,.slice none 0 0] 61 (0,0))::(b2,.cells #[.slice none 0 0,.slice none 0 0] 61 (0,0))::(Rr++(O9++(Rq++R)))) w wr) (λiv _=>rs.length-(intOf iv).toNat)
 case atStart=>exact⟨0,none,0,[],Rn0,rfl,by omega,Mv,Rw.nil _ _ _,D3⟩
 case round=>
  obtain⟨k,ar,cr,Rr,O9,rfl,hk,G6,hr,hD⟩:=hrel;clear D3;have HRL9:=HRL.out;obtain⟨HD,A5,Hr⟩:=dF hD G6 hr;by_cases hlt:k<rs.length
  ·have k1:(k:Int)<rs.length:=by omega
   have s1:=eH ((k:Int)+1);obtain⟨ab,hal,hel⟩:=PJ.cell hD.has.tail.tail.right.right.left (j:=k) (sM rs k hlt);subst hal;have uF:rs[k]<1048576:=HRB _ (List.getElem_mem hlt);have EE:rs.take (k+1)=rs.take k++ [rs[k]]:=by rw[List.take_add_one,List.getElem?_eq_getElem hlt];rfl
   obtain⟨t,ht⟩:=HMS.pre;have hml:((rs.take k).foldl dT []).length<=100000:=by
    have:=l8 rs [] k;have h2:(rs.foldl dT []).length<=L.length:=by rw[ht,List.length_append];omega
    have:=L0.out;omega
   have hv:=l9 (rs.take k) [] rs[k];have hf:(rs.take (k+1)).foldl dT []=dT ((rs.take k).foldl dT []) rs[k]:=by rw[EE,List.foldl_append];rfl
   rw[←EE] at hv;generalize rs[k]=x at *;obtain⟨K9,Jw,HV,HF,E0⟩:=Es uF hml hv hf hlt;clear uF hml hv hf hlt EE ht hD G6 hr hk;generalize nP:(rs.take k).foldl dT []=mk at *;clear nP;obtain⟨v,hv⟩:∃v,j6 (dT mk x) x=v:=⟨_,rfl⟩
   have TQ:=a_ (λW (h1:At O9 W)=>by
    have:=HNU nb mk O9 x W A5 h1 K9 Jw;rw[hv] at this;exact this)
   rw[hv] at HV;clear hv
   go_upto_region 8 with fail
   have D4:=a_ HD.drew;have u0:=an HD.has.head 0 (.slice ar k cr) rfl;refine aP (S:=λW=>W.cell? ⟨b3,0,none⟩=some (.slice ar k cr)) (by kernel_rfl) u0 (λhHeld=>?_);generalize wr.drew=W1 at *;clear u0 hel;refine aR 0 ?_;refine aR 1 ?_;refine aR 2 ?_;refine aR 3 ?_;simp only[aI];refine jS 4 (λK hK=>?_);go_simp
   go_at_call 89
   refine (TQ _ D4.at_.tail.tail.right.left).kq ?_;rintro w5 ⟨L5,m5,d5⟩;have M5:=a_ m5;have D5:=a_ ((D4.perm (R':=O9++((b3,.cells #[.slice ar k cr,.slice none 0 0] 61 (0,0))::(b2,.cells #[.slice none 0 0,.slice none 0 0] 61 (0,0))::(Rr++(Rq++R)))) aF).step d5);clear m5 d5 hHeld;obtain⟨j1,hj,sB,oQ,sC⟩:=info_parts fP;have HB:=a_ (D5.box #[v] 3);obtain⟨L6,I8,w6,Rr2,hrun,kz,d6⟩:=Hr.LD (K:=(b3,.cells #[.slice ar k cr,.slice none 0 0] 61 (0,0))::(b2,.cells #[.slice none 0 0,.slice none 0 0] 61 (0,0))::(L5++(Rq++R))) (D5.perm (R':=Rr++((b3,.cells #[.slice ar k cr,.slice none 0 0] 61 (0,0))::(b2,.cells #[.slice none 0 0,.slice none 0 0] 61 (0,0))::(L5++(Rq++R)))) aF) hj sB oQ sC rfl (by decide) underlying58 #[.int .i64 v] rfl (by intro u hu;simp only[List.mem_cons,List.not_mem_nil,or_false] at hu;rw[hu];rfl) (by unfold maxLen;omega) (by omega);obtain⟨et,Az,D6⟩:=dF hrun kz d6;clear hrun kz d6 j1 hj sB oQ sC;refine hK _ _ (an D5.has.right.head 0 _ rfl) (λhHeld=>?_);clear hK K
   try simp only[aI]
   refine jS 5 (λK hK=>?_);go_simp;refine hK _ _ (an HB.has.tail.right.head 0 _ rfl) (λhHeld=>?_);clear hK K
   try simp only[aI]
   refine jS 6 (λK hK=>?_);refine km _ (by rfl) (.tmp 25) (.tmp 29) 58 58 _ (by rfl) (by rfl) _ _ (by rfl) (by rfl) _ w6 et ?_;refine hK _ _ (an D6.has.right.head 0 _ rfl) (λhHeld=>?_);clear hK K
   try simp only[aI]
   refine aR 7 ?_;simp only[aI];have q:=D6.has.right.head;have u0:=an q 0 (.slice ar k cr) rfl;have f0:=br q 0;clear q;refine sD 8 (λK hK=>?_);go_simp;refine hK _ _ ?_;clear hK K
   try simp only[aI]
   have D7:=a_ ((D6.perm (R':=(b3,.cells #[.slice ar k cr,.slice none 0 0] 61 (0,0))::(b2,.cells #[.slice none 0 0,.slice none 0 0] 61 (0,0))::(Rr2++(L5++(Rq++R)))) aF).set 0 (.slice L6 (k+1) I8));clear u0 f0 hHeld D4 D5 D6 HB et TQ;generalize w6.setCell _ _=w7 at *;go_wp2
   go_roundw
   case rel=>exact⟨k+1,L6,I8,Rr2,L5,by go_num,E0,by rw[HF.out];exact M5,by rw[HV.out,u9];exact Az,D7⟩
   case measure=>have:=E0.out;simp[intOf];omega
  ·obtain rfl:k=rs.length:=by omega
   have k1:¬(rs.length:Int)<rs.length:=by omega
   rw[List.take_length] at A5 Hr;rw[s8 rs [] HMS.out.pre] at Hr;have Ax:=a_ HMS;have D8:=a_ (HD.perm (R':=(b3,.cells #[.slice ar rs.length cr,.slice none 0 0] 61 (0,0))::(b2,.cells #[.slice none 0 0,.slice none 0 0] 61 (0,0))::(Rr++([]++([]++(O9++(Rq++R)))))) aF);generalize rs.foldl dT []=l0 at *;rw[HRV.out] at Hr;generalize rs.length=Q8 at *;clear hlt hk G6 hr hD HD PJ HRB HMS HRV
   go_upto_region 11 with fail
   go_loopw [7] (λiv wr=>∃(i:Nat) (l:List Nat) (O6:Option Addr) (cn:Nat) (xs:List Value) (Q9 Rx O9:BL),iv= .int .i64 i/\E4 (dA g) L i l/\n9 nb l O9/\Rz 72 3 i xs O6 cn Q9/\F9 0 ((L.take i).map (j9 g L)) xs Rx/\ag R ((b3,.cells #[.slice ar Q8 cr,.slice O6 i cn] 61 (0,0))::(b2,.cells #[.slice none 0 0,.slice none 0 0] 61 (0,0))::(Rr++(Q9++(Rx++(O9++(Rq++R)))))) w wr) (λiv _=>L.length-(intOf iv).toNat)
   case atStart=>exact⟨0,l0,none,0,[],[],[],O9,rfl,Ax,A5,Rw.nil _ _ _,.nil,D8⟩
   case round=>
    obtain⟨i,l,O6,cn,xs,Q9,Rx,Rm,rfl,A6,G6,Oz,I9,hD⟩:=hrel;clear Ax D8 A5;have HLL9:=L0.out;obtain⟨t,ht⟩:=A6.pre;have hll:l.length<=L.length:=by rw[ht,List.length_append];omega
    have hil:=A6.1;have A5:=a_ G6;obtain⟨J0,o2,wU,eO,AA,rfl,Su,IW⟩:=G6;have c1:=an hD.has.tail.tail.right.right.right.head 1 (.slice wU l.length eO) rfl;by_cases hlt:i<l.length
    ·have k1:(i:Int)<l.length:=by omega
     have s1:=eH ((i:Int)+1);obtain⟨h1,h2,h3⟩:=A6.at_ hlt;obtain⟨ab,hal,hel⟩:=IW.cell hD.has.tail.tail.right.right.right.tail.tail.left (j:=i) (sM l i hlt);subst hal;have hgd:l[i]=l.getD i 0:=by rw[List.getD_eq_getElem?_getD,List.getElem?_eq_getElem hlt];rfl
     rw[hgd] at hel;have hst:=A6.step hlt L0;obtain⟨t2,ht2⟩:=hst.pre;have hne:=F7 (g:=g) (l:=l) (a:=l.getD i 0) ⟨t2,ht2⟩;have hfl:((dA g (l.getD i 0)).foldl dT l).length<=100000:=by
      have:((dA g (l.getD i 0)).foldl dT l).length<=L.length:=by
       have e:=congrArg List.length ht2;rw[List.length_append] at e;omega
      omega
     have Md:=HAB _ (HLS _ h3);have EE:(L.take (i+1)).map (j9 g L)=(L.take i).map (j9 g L)++ [j9 g L (l.getD i 0)]:=by
      rw[List.take_add_one,List.getElem?_eq_getElem h1,Option.toList_some,List.map_append];congr 2;rw[←h2,List.getD_eq_getElem?_getD,List.getElem?_eq_getElem h1];rfl
     have TQ:=a_ (λW h1 h2 h4=>RC nb l _ W _ A5 h1 h2 h4 (HLS _ h3) hfl);rw[hne] at TQ;obtain⟨oS,RI⟩:=aO hst EE;have E0:=a_ (And.intro h1 hlt);obtain⟨N8,N9,K9⟩:=dF Oz I9 Md;have HEL:=a_ (λW (h:Has ((nb,Obj.cells #[.map (some J0),.slice (some ⟨ab,0,none⟩) l.length eO] 134 (0,0))::(J0,o2)::AA) W)=>(show W.cell? ⟨nb,1,none⟩=some (.slice (some ⟨ab,0,none⟩) l.length eO)/\W.cell? ⟨ab,i,none⟩=some (.int .i64 (l.getD i 0:Nat)) from⟨an h.head 1 _ rfl,by
      obtain⟨b',e',hc⟩:=IW.cell h.tail.tail (sM l i hlt);rw[hgd] at hc
      cases e'
      exact hc⟩))
     generalize j9 g L (l.getD i 0)=x at *;generalize l.getD i 0=a at *;generalize ((dA g a).foldl dT l)=l' at *;have PT:∃Rm,(nb,Obj.cells #[.map (some J0),.slice (some ⟨ab,0,none⟩) l.length eO] 134 (0,0))::(J0,o2)::AA=Rm:=⟨_,rfl⟩
     obtain⟨Rm,PT⟩:=PT;rw[PT] at hD A5 TQ HEL;have HD:=a_ hD;clear A6 Su IW hD h1 h2 h3 hgd hst ht2 hne hfl Md EE Oz I9 PT ht hll hil hlt hel
     go_upto_region 13 with fail
     clear c1;have D4:=a_ HD.drew;have u1:=an D4.has.head 1 (.slice O6 i cn) rfl;obtain⟨c1,hel⟩:=HEL wr.drew D4.has.tail.tail.right.right.right.left;refine aP (S:=λW=>W.cell? ⟨b3,1,none⟩=some (.slice O6 i cn)) (by kernel_rfl) u1 (λhHeld=>?_);generalize wr.drew=W1 at *;clear HD;refine aR 0 ?_;refine aR 1 ?_;refine aR 2 ?_;refine aR 3 ?_;refine aR 4 ?_;refine aR 5 ?_;refine aR 6 ?_;refine aR 7 ?_;refine aR 8 ?_;refine aR 10 ?_;simp only[aI];refine jS 9 (λK hK=>?_);go_simp;refine hK _ _ u1 (λhHeld=>?_);clear hK K
     try simp only[aI]
     refine aR 11 ?_;simp only[aI];refine jS 12 (λK hK=>?_);go_simp;refine hK _ _ u1 (λhHeld=>?_);clear hK K
     try simp only[aI]
     clear u1 c1 hel;refine jS 13 (λK hK=>?_);go_simp;have R8:=a_ (D4.perm (R':=(Rm++R)++((b3,.cells #[.slice ar Q8 cr,.slice O6 i cn] 61 (0,0))::(b2,.cells #[.slice none 0 0,.slice none 0 0] 61 (0,0))::(Rr++(Q9++(Rx++Rq))))) aF)
     go_at_call 90
     refine (TQ _ R8.at_.left (R8.tz HT HZ) (aD.app.1 (R8.cK HT HZ)).1).mono ?_;rintro e w5 ⟨p0,p1,p2,q0,q1,q2,rfl,R5,L7,m5,⟨⟨T0,T1,T2,rfl,t0,t1,t2⟩⟩,d5⟩;have M5:=a_ m5;have HN5:=a_ (F9.snoc N9 t0 t1 t2);have D5:=a_ (R8.step d5);clear m5 d5 hHeld t0 t1 t2 D4 R8;obtain⟨j1,hj,sB,oQ,sC⟩:=info_parts BT;have HB:=a_ (D5.box #[.slice p0 x.ps.length q0,.slice p1 x.fs.length q1,.slice p2 x.ws.length q2] 72);obtain⟨L8,J1,w6,Rd2,hrun,kz,d6⟩:=N8.LD (K:=(b3,.cells #[.slice ar Q8 cr,.slice O6 i cn] 61 (0,0))::(b2,.cells #[.slice none 0 0,.slice none 0 0] 61 (0,0))::(Rr++((T0++(T1++T2))++(Rx++(L7++(Rq++R)))))) (D5.perm (R':=Q9++((b3,.cells #[.slice ar Q8 cr,.slice O6 i cn] 61 (0,0))::(b2,.cells #[.slice none 0 0,.slice none 0 0] 61 (0,0))::(Rr++((T0++(T1++T2))++(Rx++(L7++(Rq++R))))))) aF) hj sB oQ sC rfl (by decide) underlying59 #[.slice p0 x.ps.length q0,.slice p1 x.fs.length q1,.slice p2 x.ws.length q2] rfl (by intro u hu;simp only[List.mem_cons,List.not_mem_nil,or_false] at hu;rcases hu with rfl | rfl | rfl<;>rfl) (by have:=E0.out;unfold maxLen;omega) (by have:=E0.out;omega);obtain⟨et,Az,D6⟩:=dF hrun kz d6;clear hrun kz d6 j1 hj sB oQ sC;refine hK _ _ (an D5.has.right.head 1 _ rfl) (λhHeld=>?_);clear hK K
     try simp only[aI]
     refine jS 14 (λK hK=>?_);go_simp;refine hK _ _ (an HB.has.tail.right.head 1 _ rfl) (λhHeld=>?_);clear hK K
     try simp only[aI]
     refine jS 15 (λK hK=>?_);refine km _ (by rfl) (.tmp 43) (.tmp 56) 59 59 _ (by rfl) (by rfl) _ _ (by rfl) (by rfl) _ w6 et ?_;refine hK _ _ (an D6.has.right.head 1 _ rfl) (λhHeld=>?_);clear hK K
     try simp only[aI]
     refine aR 16 ?_;simp only[aI];have q:=D6.has.right.head;have u0:=an q 1 (.slice O6 i cn) rfl;have f0:=br q 1;clear q;refine sD 17 (λK hK=>?_);go_simp;refine hK _ _ ?_;clear hK K
     try simp only[aI]
     have D7:=a_ ((D6.perm (R':=(b3,.cells #[.slice ar Q8 cr,.slice O6 i cn] 61 (0,0))::(b2,.cells #[.slice none 0 0,.slice none 0 0] 61 (0,0))::(Rr++(Rd2++((T0++(T1++(T2++Rx)))++(L7++(Rq++R)))))) aF).set 1 (.slice L8 (i+1) J1));clear u0 f0 hHeld D5 D6 HB et TQ;generalize w6.setCell _ _=w7 at *;go_wp2
     go_roundw
     case rel=>exact⟨i+1,l',L8,J1,_,Rd2,T0++(T1++(T2++Rx)),L7,by go_num,oS,M5,Az,by rw[RI.out];exact HN5,D7⟩
     case measure=>have:=E0.1;simp[intOf];omega
    ·obtain⟨rfl,rfl⟩:=A6.done hlt L0;have k1:¬(L.length:Int)<L.length:=by omega
     rw[List.take_length] at I9;rw[N7.out] at I9;obtain⟨N9,N8,HD⟩:=dF I9 Oz hD;have q:=hD.has.head;obtain⟨v0,v1, -⟩:=qN q;have q:=hD.has.tail.head;obtain⟨t0,t1, -⟩:=qN q;obtain⟨f0,f1, -⟩:=Nd q;clear q Su IW A6 I9 Oz hD hlt ht hil hll;go_wp2;obtain⟨Q6,J6⟩:∃Q6,(wr.setCell ⟨b2,0,none⟩ (.slice ar Q8 cr)).setCell ⟨b2,1,none⟩ (.slice O6 L.length cn)=Q6:=⟨_,rfl⟩
     obtain⟨Rm,PT⟩:∃Rm,(nb,Obj.cells #[.map (some J0),.slice wU L.length eO] 134 (0,0))::(J0,o2)::AA=Rm:=⟨_,rfl⟩
     rw[PT] at HD;have Q7:ag R ((b2,.cells #[.slice ar Q8 cr,.slice O6 L.length cn] 61 (0,0))::((b3,.cells #[.slice ar Q8 cr,.slice O6 L.length cn] 61 (0,0))::((Rr++(Q9++Rx))++(Rm++(Rq++R))))) w Q6:=by
      rw[←J6];exact ((HD.perm (R':=(b2,.cells #[.slice none 0 0,.slice none 0 0] 61 (0,0))::((b3,.cells #[.slice ar Q8 cr,.slice O6 L.length cn] 61 (0,0))::((Rr++(Q9++Rx))++(Rm++(Rq++R))))) aF).set 0 (.slice ar Q8 cr)).set 1 (.slice O6 L.length cn)
     rw[J6];have q:=Q7.has.head;obtain⟨q0,q1, -⟩:=qN q;refine bodyPost_ret (v:= .agg #[.slice ar Q8 cr,.slice O6 L.length cn]) (by simp[results,results29,go_sem,q0,q1]) rfl ⟨ar,cr,O6,cn,?_,Rr++(Q9++Rx),?_,?_⟩
     ·simp only[J8.out,HNL.out]
     ·refine⟨Rr,Q9,xs,Rx,?_,?_,N9,rfl⟩
      ·simp only[J8.out];exact Hr
      ·simp only[HNL.out];exact N8
     ·exact ag.drop (A:=Rm++Rq) (Q7.tail.tail.perm (R':=(Rm++Rq)++((Rr++(Q9++Rx))++R)) aF)
end
end
def z8 {w:World} {a b:Option Addr} {zs:List Int} (ca cb:Nat) (ha:j0 .i64 w a zs) (hb:j0 .i64 w b zs):
  WR 91 #[.slice a zs.length ca,.slice b zs.length cb] w true λw'=>Below w.heap.size w w':=by
 have hm:=ha.many;unfold maxLen at hm;have l1:(zs.length:Int)<=9223372036854775807:=by omega
 obtain⟨HA,HB⟩:=aO ha hb;have dX:=a_ (Below.refl w.heap.size w);have VC:((zs.length:Int)==zs.length)=true:=beq_self_eq_true _;clear ha hb hm;go_enter func91,ntmps91
 go_wp2_with (fail)
 go_loopw [5] (λiv wr=>∃i:Nat,iv= .int .i64 i/\i<=zs.length/\Below w.heap.size w wr) (λiv _=>zs.length-(intOf iv).toNat)
 case atStart=>exact⟨0,rfl,by omega,dX⟩
 case round=>
  clear dX;obtain⟨i,rfl,hi,hb⟩:=hrel;by_cases hlt:i<zs.length
  ·obtain⟨b1,o1,e1,c1⟩:=(HA.below hb).cell;obtain⟨b2,o2,e2,c2⟩:=(HB.below hb).cell;obtain rfl:a=some ⟨b1,o1,none⟩:=e1.resolve_left λe=>by rw[e] at hlt;cases hlt
   obtain rfl:b=some ⟨b2,o2,none⟩:=e2.resolve_left λe=>by rw[e] at hlt;cases hlt
   have d1:=c1 i hlt;have d2:=c2 i hlt;have k1:(i:Int)<zs.length:=by omega
   have k2:(0:Int)<=i:=by omega
   have k3:((i:Int)).toNat=i:=by omega
   have Mn:=a_ (λnq=>hb.trans ((aA nq wr).mono hb.size));clear c1 c2 e1 e2 hb;generalize zs.getD i 0=z at d1 d2
   go_wp2_with (fail)
   go_quiet (fail)
   go_wp2_with (fail)
   go_roundw
   case rel=>exact⟨i+1,by go_num,by omega,Mn nq⟩
   case measure=>simp[intOf];omega
  ·obtain rfl:i=zs.length:=by omega
   have k1:¬(zs.length:Int)<zs.length:=by omega
   go_wp2_with (fail)
   go_ret;exact⟨rfl,hb⟩
def u5 {w:World} {a b:Option Addr} {zs:List Int} (ca cb:Nat) (ha:j0 .u64 w a zs) (hb:j0 .u64 w b zs):
  WR 92 #[.slice a zs.length ca,.slice b zs.length cb] w true λw'=>Below w.heap.size w w':=by
 have hm:=ha.many;unfold maxLen at hm;have l1:(zs.length:Int)<=9223372036854775807:=by omega
 obtain⟨HA,HB⟩:=aO ha hb;have dX:=a_ (Below.refl w.heap.size w);have VC:((zs.length:Int)==zs.length)=true:=beq_self_eq_true _;clear ha hb hm;go_enter func92,ntmps92
 go_wp2_with (fail)
 go_loopw [5] (λiv wr=>∃i:Nat,iv= .int .i64 i/\i<=zs.length/\Below w.heap.size w wr) (λiv _=>zs.length-(intOf iv).toNat)
 case atStart=>exact⟨0,rfl,by omega,dX⟩
 case round=>
  clear dX;obtain⟨i,rfl,hi,hb⟩:=hrel;by_cases hlt:i<zs.length
  ·obtain⟨b1,o1,e1,c1⟩:=(HA.below hb).cell;obtain⟨b2,o2,e2,c2⟩:=(HB.below hb).cell;obtain rfl:a=some ⟨b1,o1,none⟩:=e1.resolve_left λe=>by rw[e] at hlt;cases hlt
   obtain rfl:b=some ⟨b2,o2,none⟩:=e2.resolve_left λe=>by rw[e] at hlt;cases hlt
   have d1:=c1 i hlt;have d2:=c2 i hlt;have k1:(i:Int)<zs.length:=by omega
   have k2:(0:Int)<=i:=by omega
   have k3:((i:Int)).toNat=i:=by omega
   have Mn:=a_ (λnq=>hb.trans ((aA nq wr).mono hb.size));clear c1 c2 e1 e2 hb;generalize zs.getD i 0=z at d1 d2
   go_wp2_with (fail)
   go_quiet (fail)
   go_wp2_with (fail)
   go_roundw
   case rel=>exact⟨i+1,by go_num,by omega,Mn nq⟩
   case measure=>simp[intOf];omega
  ·obtain rfl:i=zs.length:=by omega
   have k1:¬(zs.length:Int)<zs.length:=by omega
   go_wp2_with (fail)
   go_ret;exact⟨rfl,hb⟩
structure L9 (w:World) (ap O8 aw:Option Addr) (x:O3):Prop where
 ps:j0 .i64 w ap x.ps
 fs:j0 .u64 w O8 x.fs
 ws:j0 .u64 w aw x.ws
def L9.below {w w':World} {ap O8 aw:Option Addr} {x:O3} (h:L9 w ap O8 aw x) (hb:Below w.heap.size w w'):L9 w' ap O8 aw x:=⟨h.ps.below hb,h.fs.below hb,h.ws.below hb⟩
def A9.at_ {w:World} {a:Option Addr} {ns:List O3} (h:A9 w a ns) {i:Nat} (hi:i<ns.length):∃b off ap O8 aw cp cf cw,a=some ⟨b,off,none⟩/\L9 w ap O8 aw (ns.getD i default)/\w.cell? ⟨b,off+i*3,none⟩=some (.slice ap (ns.getD i default).ps.length cp)/\w.cell? ⟨b,off+i*3+1,none⟩=some (.slice O8 (ns.getD i default).fs.length cf)/\w.cell? ⟨b,off+i*3+2,none⟩=some (.slice aw (ns.getD i default).ws.length cw):=by
 obtain⟨b,off,ha,hc⟩:=h.cell;obtain⟨⟨ap,cp,n0,hp⟩,⟨O8,cf,n1,hf⟩,⟨aw,cw,n2,hw⟩⟩:=hc i hi;refine⟨b,off,ap,O8,aw,cp,cf,cw,?_,⟨hp,hf,hw⟩,n0,n1,n2⟩;rcases ha with e | e
 ·rw[e] at hi;cases hi
 ·exact e
def m9 {w:World} {ar O6 S5 S6:Option Addr} {x:O4} (cr cn dr dn:Nat) (hx:K6 w ar O6 x) (hy:K6 w S5 S6 x):
  WR 30 #[.agg #[.slice ar x.rs.length cr,.slice O6 x.ns.length cn],.agg #[.slice S5 x.rs.length dr,.slice S6 x.ns.length dn]] w true λw'=>Below w.heap.size w w':=by
 have D0:=a_ (((ag.refl (At.nil (w:=w))).box #[.slice ar x.rs.length cr,.slice O6 x.ns.length cn] 61).box #[.slice S5 x.rs.length dr,.slice S6 x.ns.length dn] 61);simp only[aU] at D0;obtain⟨gb,SL⟩:∃gb,w.heap.size=gb:=⟨_,rfl⟩
 obtain⟨gc,hgc⟩:∃gc,gb+1=gc:=⟨_,rfl⟩
 obtain⟨HX,HY⟩:=aO hx hy;have hm:=hx.nodes.many;unfold maxLen at hm;have l1:(x.ns.length:Int)<=9223372036854775807:=by omega
 have VC:((x.ns.length:Int) !=x.ns.length)=false:=bne_self_eq_false _;obtain⟨E,hE⟩:∃E,[(w.heap.size+1,Obj.cells #[.slice S5 x.rs.length dr,.slice S6 x.ns.length dn] 61 (0,0)),(w.heap.size,Obj.cells #[.slice ar x.rs.length cr,.slice O6 x.ns.length cn] 61 (0,0))]=E:=⟨_,rfl⟩
 rw[hE] at D0;have HC:=a_ (λW (h:Has E W)=>(show (W.cell? ⟨gb,0,none⟩=some (.slice ar x.rs.length cr)/\W.cell? ⟨gb,1,none⟩=some (.slice O6 x.ns.length cn))/\W.cell? ⟨gc,0,none⟩=some (.slice S5 x.rs.length dr)/\W.cell? ⟨gc,1,none⟩=some (.slice S6 x.ns.length dn) by
  subst hE hgc SL;have q:=h.head;have r:=h.tail.head;exact⟨⟨an r 0 _ rfl,an r 1 _ rfl⟩,an q 0 _ rfl,an q 1 _ rfl⟩))
 obtain⟨⟨p0,p1⟩,q0,q1⟩:=HC _ D0.has;clear hx hy hm hE;go_enter func30,ntmps30
 go_wp2_with (go_at_call 91;refine (z8 cr dr (HX.roots.below D0.below) (HY.roots.below D0.below)).kq ?_;rintro w2 hb;have D1:=a_ (D0.grow hb);obtain⟨⟨p0,p1⟩,q0,q1⟩:=HC _ D1.has;clear hb)
 clear p0 p1 q0 q1 D0
 go_loopw [5] (λiv wr=>∃i:Nat,iv= .int .i64 i/\i<=x.ns.length/\ag [] E w wr) (λiv _=>x.ns.length-(intOf iv).toNat)
 case atStart=>exact⟨0,rfl,by omega,D1⟩
 case round=>
  clear D1;obtain⟨i,rfl,hi,hD⟩:=hrel;obtain⟨⟨p0,p1⟩,q0,q1⟩:=HC _ hD.has;by_cases hlt:i<x.ns.length
  ·obtain⟨b1,o1,ap,O8,aw,cp,cf,cw,uy,hx,m0,m1,m2⟩:=(HX.nodes.below hD.below).at_ hlt;obtain⟨b2,o2,S7,S8,bw,T4,T5,T6,wX,hy,n0,n1,n2⟩:=(HY.nodes.below hD.below).at_ hlt;subst uy wX;have k1:(i:Int)<x.ns.length:=by omega
   have k2:(0:Int)<=i:=by omega
   have k3:((i:Int)).toNat=i:=by omega
   generalize x.ns.getD i default=s at *;have hD1:=hD.box #[.slice ap s.ps.length cp,.slice O8 s.fs.length cf,.slice aw s.ws.length cw] 72;have oN:=hD1.box #[.slice S7 s.ps.length T4,.slice S8 s.fs.length T5,.slice bw s.ws.length T6] 72;obtain⟨⟨-,r1⟩,s0,s1⟩:=HC _ hD1.has.tail;have bp:=au wr (.cells #[.slice ap s.ps.length cp,.slice O8 s.fs.length cf,.slice aw s.ws.length cw] 72);have dw:=seq bp (au _ (.cells #[.slice S7 s.ps.length T4,.slice S8 s.fs.length T5,.slice bw s.ws.length T6] 72));have n0:=bA bp (Nat.le_refl _) n0;have n1:=bA bp (Nat.le_refl _) n1;have n2:=bA bp (Nat.le_refl _) n2;simp only[aU] at oN;obtain⟨bx,jJ⟩:∃bx,wr.heap.size=bx:=⟨_,rfl⟩
   simp only[jJ] at oN;have q:=oN.has.head;obtain⟨v0,v1,v2, -⟩:=ft q;have q:=oN.has.tail.head;obtain⟨u0,u1,u2, -⟩:=ft q;have D2:=a_ oN;have Uo:=a_ (hx.below dw);have O0:=a_ (hy.below dw);have HU:=a_ (λW (h:Has ((bx+1,WD #[.slice S7 s.ps.length T4,.slice S8 s.fs.length T5,.slice bw s.ws.length T6] 72)::(bx,WD #[.slice ap s.ps.length cp,.slice O8 s.fs.length cf,.slice aw s.ws.length cw] 72)::E) W)=>(show (W.cell? ⟨bx,1,none⟩=some (.slice O8 s.fs.length cf)/\W.cell? ⟨bx,2,none⟩=some (.slice aw s.ws.length cw))/\W.cell? ⟨bx+1,1,none⟩=some (.slice S8 s.fs.length T5)/\W.cell? ⟨bx+1,2,none⟩=some (.slice bw s.ws.length T6) from⟨⟨an h.tail.head 1 _ rfl,an h.tail.head 2 _ rfl⟩,an h.head 1 _ rfl,an h.head 2 _ rfl⟩));clear hD1 oN bp dw hx hy q hD
   go_wp2_with (first
    | (go_at_call 91;refine (z8 cp T4 Uo.ps O0.ps).kq ?_;rintro w2 hb;have D3:=a_ (D2.grow hb);have HB:=a_ hb;obtain⟨⟨u1,u2⟩,v1,v2⟩:=HU _ D3.has;clear hb D2)
    | (go_at_call 92;refine (u5 cf T5 (Uo.fs.below HB) (O0.fs.below HB)).kq ?_;rintro w3 hb;have D4:=a_ (D3.grow hb);have HE:=a_ (seq HB hb);obtain⟨⟨u1,u2⟩,v1,v2⟩:=HU _ D4.has;clear hb HB D3)
    | (go_at_call 92;refine (u5 cw T6 (Uo.ws.below HE) (O0.ws.below HE)).kq ?_;rintro w4 hb;have D5:=a_ (D4.grow hb);clear hb))
   go_roundw
   case rel=>exact⟨i+1,by go_num,by omega,D5.tail.tail⟩
   case measure=>simp[intOf];omega
  ·obtain rfl:i=x.ns.length:=by omega
   have k1:¬(x.ns.length:Int)<x.ns.length:=by omega
   have HD:=a_ hD;clear hD
   go_wp2_with (fail)
   go_ret;exact⟨rfl,by rw[←SL];exact HD.below⟩
section
attribute [local go_sem] Oper.semAt_some
section
variable {hb m rb T T':Nat} {S S':HS} {R K K':BL} {w w' W W':World} {s p f o i k:Int}
def dN.more (h:dN hb m rb S T K w W) (hT:T<=T'):dN hb m rb S T' K w W:=by
 obtain⟨hg,R,hh,d⟩:=h;exact⟨hg,R,hh.more hT,d⟩
def J9 (hg:S.Good) (h:ak hb m rb S T R) (d:ag [] R W W') (D:ag [] K w W):dN hb m rb S T K w W':=⟨hg,R,h,D.bh d⟩
end
end
def j8 (k:Int):Bool:=decide (k=4) || (decide (k=6) || (decide (10<=k) && decide (k<=17)))
def MH.A8 {m:MH} {s i k:Int} {x:Nat} (h:(m.set s i k x).2≠0):(m.set s i k x).1=m:=by
 unfold MH.set at h ⊢;by_cases q:m.slot s
 ·rw[b9 q] at h ⊢;show (if m.fe (m.sl s) i k=0 then _ else m)=m
  exact b_ h
 ·rw[b_ q]
def MH.I0 {m:MH} {sm:List Nat->Nat} {x:mU} (h:(m.op sm x).2.code≠0\/j8 x.k=true):(m.op sm x).1=m:=by
 unfold MH.op at h ⊢;unfold j8 at h;by_cases h4:x.k=4
 ·rw[b9 h4]
 rw[b_ h4] at h ⊢;by_cases h6:x.k=6
 ·rw[b9 h6]
 rw[b_ h6] at h ⊢;by_cases mV:x.k=10
 ·rw[b9 mV]
 rw[b_ mV] at h ⊢;by_cases oM:x.k=11
 ·rw[b9 oM]
 rw[b_ oM] at h ⊢;by_cases nI:x.k=12
 ·rw[b9 nI]
 rw[b_ nI] at h ⊢;by_cases qs:x.k=13
 ·rw[b9 qs]
 rw[b_ qs] at h ⊢;by_cases Nw:x.k=14
 ·rw[b9 Nw]
 rw[b_ Nw] at h ⊢;have ha:∀n:Int,n<10->n≠4->n≠6->x.k=n->j8 x.k=false:=λn h1 h2 h3 e=>by
  rw[e];unfold j8;rw[decide_eq_false h2,decide_eq_false h3,decide_eq_false (by omega:¬10<=n)];rfl
 unfold j8 at ha;by_cases h1:x.k=1
 ·rw[b9 h1] at h ⊢;have h:=h.resolve_right (by rw[ha 1 (by omega) (by omega) (by omega) h1];decide);unfold Fz.only MH.alloc at h;unfold MH.alloc
  split at h
  ·split at h
   ·split at h
    ·exact absurd rfl h
    ·rename_i q1 q2 q3;rw[b9 q1,b9 q2,b_ q3]
   ·rename_i q1 q2;rw[b9 q1,b_ q2]
  ·rename_i q1;rw[b_ q1]
 rw[b_ h1] at h ⊢;by_cases h2:x.k=2
 ·rw[b9 h2] at h ⊢;have h:=h.resolve_right (by rw[ha 2 (by omega) (by omega) (by omega) h2];decide);unfold Fz.only MH.load at h;unfold MH.load
  repeat' split at h
  all_goals first
   | exact absurd rfl h
   | (split<;>first | rfl | (split<;>first | rfl | contradiction) | contradiction)
 rw[b_ h2] at h ⊢;by_cases h3:x.k=3
 ·rw[b9 h3] at h ⊢;have h:=h.resolve_right (by rw[ha 3 (by omega) (by omega) (by omega) h3];decide);unfold Fz.only MH.store at h;unfold MH.store;by_cases q:m.slot x.a/\m.slot x.b
  ·rw[b9 q] at h ⊢;show (if m.fe (m.sl x.a) x.i 1=0 then _ else m)=m
   exact b_ h
  ·rw[b_ q]
 rw[b_ h3] at h ⊢;by_cases h5:x.k=5
 ·rw[b9 h5] at h ⊢;exact MH.A8 (h.resolve_right (by rw[ha 5 (by omega) (by omega) (by omega) h5];decide))
 rw[b_ h5] at h ⊢;by_cases h7:x.k=7
 ·rw[b9 h7] at h ⊢;exact MH.A8 (h.resolve_right (by rw[ha 7 (by omega) (by omega) (by omega) h7];decide))
 rw[b_ h7] at h ⊢;by_cases h8:x.k=8
 ·rw[b9 h8] at h ⊢;have h:=h.resolve_right (by rw[ha 8 (by omega) (by omega) (by omega) h8];decide);unfold Fz.only MH.copy at h;unfold MH.copy
  split at h
  ·exact absurd rfl h
  ·rename_i q;rw[b_ q]
 rw[b_ h8] at h ⊢;by_cases h9:x.k=9
 ·rw[b9 h9] at h ⊢;have h:=h.resolve_right (by rw[ha 9 (by omega) (by omega) (by omega) h9];decide);unfold Fz.only MH.clear at h;unfold MH.clear
  split at h
  ·exact absurd rfl h
  ·rename_i q;rw[b_ q]
 rw[b_ h9]
 split<;>rfl
def E5 {g:Nat->Nat} {rs:List Nat} (hs:∀a,g a<18446744073709551616) (hl:(rF (dA g) rs).length<=100000):K7 (u7 g rs):=by
 have hn:∀p,(Lit.int .i64 (j6 (rF (dA g) rs) p)).wf=true:=λp=>by
  refine WalkArith.wf_i64 ?_;unfold j6
  split
  ·omega
  ·have:(rF (dA g) rs).idxOf p<=(rF (dA g) rs).length:=List.idxOf_le_length;omega
 have hi:∀ps:List Nat,M0 (ps.map (j6 (rF (dA g) rs))):=λps i hi=>by
  rw[List.getD_eq_getElem?_getD,List.getElem?_eq_getElem hi,Option.getD_some,List.getElem_map];exact hn _
 have hu:∀a k n,M9 (ds g a k n):=λa k n i hi=>by
  rw[List.getD_eq_getElem?_getD,List.getElem?_eq_getElem hi,Option.getD_some];have hm:(ds g a k n)[i]∈ds g a k n:=List.getElem_mem hi;obtain⟨j, -,e⟩:=List.mem_map.1 hm;rw[←e];have:=hs (a+1+(k+j));exact WalkArith.wf_u64 (by omega)
 refine⟨hi _,λx hx=>?_⟩;obtain⟨a, -,rfl⟩:=List.mem_map.1 hx;exact⟨hi _,hu _ _ _,hu _ _ _⟩
def HS.Good.A1 {S:HS} (hg:S.Good):K7 S.m.graph:=by
 obtain⟨Q,φ,hr⟩:=hg.rep;have hrun:=hg.aX.run;have sx:=hg.aX.top;have Gs:=hg.aX.bG.fX;have PY:=hg.aX.bG.GQ;obtain⟨b1,b2,b3,b4⟩:=hr.PK (by omega);rw[←hr.graph (by omega)];exact E5 hr.small (by rw[b3,List.length_map];omega)
section
variable {hb m rb T:Nat} {S:HS} {K B:BL} {w w' W:World} {g:O4} {ar O6:Option Addr} {cr cn:Nat}
def A3 (h:dN hb m rb S T K w W) (hT:ax w):WA 29 #[Wz hb] W λe W'=>∃ar cr O6 cn,e= .returned (.agg #[.slice ar S.m.graph.rs.length cr,.slice O6 S.m.graph.ns.length cn])/\∃B,I3 0 S.m.graph ar O6 cr cn B/\dN hb m rb S T (B++K) w W':=by
 obtain⟨hg,R,hh,d⟩:=h;refine (G8 hh hg d.at_.left (d.tz hT .nil) (aD.app.1 (d.cK hT .nil)).1).mono ?_;rintro e W' ⟨ar,cr,O6,cn,rfl,B,hB,d'⟩;exact⟨ar,cr,O6,cn,rfl,B,hB,hg,R,hh,(d.step d').perm (R':=R++(B++K)) aF⟩
def dN.rd (h:dN hb m rb S T (B++K) w W) (hB:I3 0 g ar O6 cr cn B) (hok:K7 g):K6 W ar O6 g:=by
 obtain⟨hg,R,hh,d⟩:=h;exact I3.rd hB d.fkn.1 (λx hx=>List.mem_append_right _ (List.mem_append_left _ hx)) hok
end
section
attribute [local go_sem] Oper.semAt_some
section
variable {hb m rb T:Nat} {S:HS} {K:BL} {w W W':World}
def E6 (c:iL) (hi:c.rB) (a:Option Addr) (n cap:Nat) (h:rV c n=true\/¬c.ok) (hT:ax w):WR 7 #[.agg c.cells,.slice a n cap] w true λw'=>Below w.heap.size w w':=by
 have HM:=a_ (λW=>made_no c hi a n cap h W);have FV:=a_ (λW (h:ax W)=>Bt h);have HT:=a_ hT;unfold iL.cells at *;have D0:=a_ ((ag.refl (At.nil (w:=w))).box #[c.kind,c.c_,c.block,c.d_,c.bV,c.aL,c.aE,.float .f64 c.ig] 24);obtain⟨kd,pg,bk,wd,sl,st,ah,tg⟩:=c;simp only at *;have q:=D0.has.head;obtain⟨c0,c1,c2,c3,c4,c5,c6,c7, -⟩:=gD q;clear q h hi hT;go_enter func7,ntmps7
 go_upto_region 1 with fail
 generalize World.alloc _ _=w0 at *
 go_upto_region 2 with (go_at_call 10;refine (HM _).kq ?_;rintro w1 bp;have D1:=a_ (D0.grow bp);clear bp)
 clear c0 c1 c2 c3 c4 c5 c6 c7
 go_wp2_with (go_at_call 12;refine (FV _ (HT.grow D1.below)).kq ?_;rintro w2 dw;have D2:=a_ (D1.grow dw);clear dw)
 go_ret;exact⟨rfl,D2.below⟩
def A7 (c:iL) (hi:c.rB) (a:Option Addr) (cap:Nat) (xs:List mU) (hx:zJ w a xs) (hf:rV c xs.length=false) (hok:c.ok) (hT:ax w):WR 7 #[.agg c.cells,.slice a xs.length cap] w true λw'=>Below w.heap.size w w':=by
 have HM:=a_ (λW=>made_yes c hi a xs.length cap hf hok W);have FV:=a_ (λW (h:ax W)=>Bt h);have HT:=a_ hT;have hw:c.d_<=2048/\xs.length<=120:=by
  unfold rV at hf;simp only[Bool.or_eq_false_iff,decide_eq_false_iff_not] at hf;omega
 have HG:=a_ (HS.yp (hok.hc hw.1));have HX:=a_ hx;have HL:=a_ hw.2;generalize hch:c.hc=ch at *;unfold iL.cells at *;have D0:=a_ ((ag.refl (At.nil (w:=w))).box #[c.kind,c.c_,c.block,c.d_,c.bV,c.aL,c.aE,.float .f64 c.ig] 24);clear hi hf hok hch hT hw hx;obtain⟨kd,pg,bk,wd,sl,st,ah,tg⟩:=c;simp only at *;obtain⟨B,hB⟩:∃B,w.heap.size=B:=⟨_,rfl⟩
 rw[hB] at D0;have q:=D0.has.head;obtain⟨c0,c1,c2,c3,c4,c5,c6,c7, -⟩:=gD q;clear q;go_enter func7,ntmps7
 go_upto_region 1 with fail
 generalize World.alloc _ _=w0 at *
 go_upto_region 2 with (go_at_call 10;refine (HM _).mono ?_;rintro e w1 ⟨hb,m,rb,rfl,R1,h1,d1⟩;have X1:=a_ (J9 (K:= [(B,.cells #[kd,pg,bk,wd,sl,st,ah,.float .f64 tg] 24 (0,0))]) HG h1 d1 D0);clear h1 d1)
 clear c0 c1 c2 c3 c4 c5 c6 c7 HM HG D0;go_wp2
 go_loopw [19] (λiv wr=>∃(n:Nat) (S:HS) (K:BL),iv= .int .i64 n/\n<=xs.length/\dN hb m rb S (n*30000000000) K w wr) (λiv _=>xs.length-(intOf iv).toNat)
 case atStart=>exact⟨0,HS.new ch,_,rfl,by omega,by rw[Nat.zero_mul];exact X1⟩
 case round=>
  obtain⟨n,S,K,rfl,hn,h⟩:=hrel;clear X1;by_cases hlt:n<xs.length
  ·have k1:(n:Int)<xs.length:=by omega
   have hP:=HX.below h.below;obtain⟨bl,off,ha,hcell⟩:=hP.cell;obtain rfl:a=some ⟨bl,off,none⟩:=by
    rcases ha with rfl | ha
    ·simp at hlt
    ·exact ha
   have Ti:=hP.each (xs.getD n default) (by rw[List.getD_eq_getElem?_getD,List.getElem?_eq_getElem hlt];exact List.getElem_mem hlt);have hcell:=hcell n hlt;have CY:n<=120:=by have:=HL.out;omega
   have bJ:n*30000000000<=100000000000000:=Nat.le_trans (Nat.mul_le_mul_right _ CY) (by decide);have hop:=h.1.op (xs.getD n default) Ti;have hoe:=MH.I0 (m:=S.m) (sm:=jY) (x:=xs.getD n default);have HGR:=a_ (λK W (h:dN hb m rb S (n*30000000000) K w W)=>A3 h HT);have HD:=a_ (λK W (h:dN hb m rb S (n*30000000000) K w W)=>IU h HT (Nat.le_trans bJ (by decide)) _ Ti);have s1:=eH ((n:Int)+1);obtain⟨H0,HN⟩:=aO h hlt;obtain⟨S1,hS1⟩:∃S1,S.op (xs.getD n default)=S1:=⟨_,rfl⟩
   rw[hS1] at hop HD;have K3:=a_ (λK W (h:dN hb m rb S1 (n*30000000000+30000000000) K w W)=>A3 h HT);have HOK:=a_ h.1.A1;have K4:=a_ hop.1.A1;have uD:(S.m.op jY (xs.getD n default)).2.code≠0\/j8 (xs.getD n default).k=true->S1.m.graph=S.m.graph:=λq=>by rw[hop.2.1,hoe q]
   generalize S.m.graph=g1 at *;generalize S1.m.graph=g2 at *;generalize (S.m.op jY (xs.getD n default)).2=r at *;generalize xs.getD n default=x at *;obtain⟨xk,xa,xb,xi,Ph,Pe,Pf,Pm,Pd⟩:=x;obtain⟨rc,ri,rn,rw_,rp,rf,ro⟩:=r;unfold mU.val Fz.val at HD;simp only at HD uD;have PF:=a_ uD;have o0:=hcell 0 (.int .i64 xk) rfl;have o1:=hcell 1 (.int .i64 xa) rfl;have o2:=hcell 2 (.int .i64 xb) rfl;have o3:=hcell 3 (.int .i64 xi) rfl;have o4:=hcell 4 (.int .i64 Ph) rfl;have o5:=hcell 5 (.int .i64 Pe) rfl;have o6:=hcell 6 (.int .i64 Pf) rfl;have o7:=hcell 7 (.int .u64 (Pm:Nat)) rfl;have o8:=hcell 8 (.float .f64 Pd) rfl;simp only[Nat.add_zero] at o0;clear hcell hP Ti hop bJ h hlt hn CY hS1 hoe uD;have RX:=a_ (H0.box #[Wy,Wy,Wy,Wy,Wy,Wy,Wy,.int .u64 0,.float .f64 0] 49)
   go_upto_region 6 with fail
   refine wp_region_lit ?_;refine wpList_step (λK hK=>?_);go_simp;refine hK _ _ ?_;clear hK K
   try simp only[aI]
   refine wpList_step (λK hK=>?_);go_simp;refine hK _ _ ?_;clear hK K
   try simp only[aI]
   refine wpList_step (λK hK=>?_);go_simp;refine hK _ _ ?_;clear hK K
   try simp only[aI]
   generalize World.alloc _ _=w4 at *;generalize wr.heap.size=bo at *;refine wpList_step (λK hK=>?_);rw[b9 (by kernel_rfl)];refine wp_store_row 49 (.tmp 7) (.tmp 22) rfl bo #[.int .i64 xk,.int .i64 xa,.int .i64 xb,.int .i64 xi,.int .i64 Ph,.int .i64 Pe,.int .i64 Pf,.int .u64 (Pm:Nat),.float .f64 Pd] rfl rfl 49 #[.int .i64 0,.int .i64 0,.int .i64 0,.int .i64 0,.int .i64 0,.int .i64 0,.int .i64 0,.int .u64 0,.float .f64 0] RX.has.head (by kernel_rfl) rfl (by first | kernel_rfl | simp[Value.oneCell']) ?_;refine hK _ _ ?_;clear hK K
   try simp only[aI]
   have X4:=a_ (RX.row (cs':= #[.int .i64 xk,.int .i64 xa,.int .i64 xb,.int .i64 xi,.int .i64 Ph,.int .i64 Pe,.int .i64 Pf,.int .u64 (Pm:Nat),.float .f64 Pd]) rfl);generalize w4.setRow bo #[.int .i64 xk,.int .i64 xa,.int .i64 xb,.int .i64 xi,.int .i64 Ph,.int .i64 Pe,.int .i64 Pf,.int .u64 (Pm:Nat),.float .f64 Pd]=w5 at *;clear RX H0 o0 o1 o2 o3 o4 o5 o6 o7 o8;refine wpList_nil ?_
   go_upto_region 8 with (go_at_call 29;refine (HGR _ _ X4).mono ?_;rintro e w6 ⟨ar,cr,O6,cn,rfl,B1,FD,x6⟩;have Mm:=a_ FD;have X6:=a_ x6;clear x6 FD)
   generalize hbg:w6.heap.size=T7 at *;have X7:=a_ (X6.box #[.slice ar g1.rs.length cr,.slice O6 g1.ns.length cn] 61);rw[hbg] at X7;clear hbg X6 X4;generalize World.alloc _ _=w7 at *;have q:=X7.has.tail.right.head;obtain⟨d0,d1,d2,d3,d4,d5,d6,d7,d8, -⟩:=fa q;clear q
   go_upto_region 9 with (go_at_call 25;refine (HD _ _ X7).kq ?_;rintro w8 x8;have X8:=a_ x8;clear x8)
   clear d0 d1 d2 d3 d4 d5 d6 d7 d8 X7 HD HGR;generalize hbr:w8.heap.size=S5 at *;have X9:=a_ (X8.box #[rc,ri,rn,WB rw_,(rp:Nat),(rf:Nat),(ro:Nat)] 51);rw[hbr] at X9;clear hbr X8;generalize World.alloc _ _=w9 at *;have q:=X9.has.tail.tail.right.head;have d0:=an q 0 (.int .i64 xk) rfl;clear q
   go_cut [10,19] from 19 to 59 (λc iv wx=>c= .bool (j8 xk)/\iv= .int .i64 n/\wx=w9)
   case first=>
    by_cases h4:xk=4
    ·subst h4;go_wp2
     go_meet
     case rel=>exact⟨rfl,rfl,rfl⟩
    ·have b4:(xk==4)=false:=by rw[beq_eq_false_iff_ne];exact h4
     by_cases h6:xk=6
     ·subst h6;go_wp2
      go_meet
      case rel=>exact⟨rfl,rfl,rfl⟩
     ·have b6:(xk==6)=false:=by rw[beq_eq_false_iff_ne];exact h6
      have c4:decide (xk=4)=false:=decide_eq_false h4;have c6:decide (xk=6)=false:=decide_eq_false h6;by_cases mV:10<=xk
      ·have dW:decide (10<=xk)=true:=decide_eq_true mV;by_cases Kb:xk<=17
       ·have O1:decide (xk<=17)=true:=decide_eq_true Kb;go_wp2
        go_meet
        case rel=>exact⟨by unfold j8;rw[c4,c6,dW,O1];rfl,rfl,rfl⟩
       ·have O1:decide (xk<=17)=false:=decide_eq_false Kb;go_wp2
        go_meet
        case rel=>exact⟨by unfold j8;rw[c4,c6,dW,O1];rfl,rfl,rfl⟩
      ·have dW:decide (10<=xk)=false:=decide_eq_false mV;go_wp2
       go_meet
       case rel=>exact⟨by unfold j8;rw[c4,c6,dW];rfl,rfl,rfl⟩
   case rest=>
    obtain⟨rfl,rfl,rfl⟩:=hcut;clear d0
    go_upto_region 10 with fail
    by_cases h0:rc=0
    ·cases hak:j8 xk with
     | false=>
      subst h0;have q:=X9.has.head;have r0:=an q 0 (.int .i64 0) rfl;clear q
      go_quiet (fail)
      have XA:=a_ (X9.grow (Fr.aA nq _));clear r0;go_wp2
      go_roundw
      case rel=>exact⟨n+1,S1,_,by go_num,by have:=HN.out;omega,XA.more (Nat.le_of_eq (Nat.succ_mul n 30000000000).symm)⟩
      case measure=>have:=HN.out;simp[intOf];omega
     | true=>
      subst h0;have e9:=(PF (.inr hak)).symm;subst e9;clear PF;have q:=X9.has.head;have r0:=an q 0 (.int .i64 0) rfl;have q:=X9.has.tail.head;obtain⟨t0,t1, -⟩:=qN q;clear q;refine wp_region_held_drew (S:=λW=>W.cell? ⟨S5,0,none⟩=some (.int .i64 0)/\W.cell? ⟨T7,0,none⟩=some (.slice ar g1.rs.length cr)/\W.cell? ⟨T7,1,none⟩=some (.slice O6 g1.ns.length cn)) (by kernel_rfl) ⟨r0,t0,t1⟩ (λhHeld=>?_);have XA:=a_ (X9.grow (ay _));generalize wc.drew=T8 at *;clear X9 r0 t0 t1;refine bz 0 ?_;refine bz 1 ?_;refine bz 2 ?_;refine bz 3 ?_;refine bz 4 ?_;refine bz 5 ?_;refine bz 6 ?_;refine bz 7 ?_;refine bz 8 ?_;simp only[aI];refine pT 9 (λK hK=>?_);go_simp
      go_at_call 29
      refine (K3 _ _ XA).mono ?_;rintro e Wv ⟨L6,I8,L8,J1,rfl,B2,nJ,Pa⟩;obtain⟨jB,E8⟩:=aO nJ Pa;clear nJ Pa hHeld XA;have q:=E8.has.right.head;have r0:=an q 0 (.int .i64 0) rfl;have q:=E8.has.right.tail.head;obtain⟨t0,t1, -⟩:=qN q;clear q;refine hK _ _ ⟨r0,t0,t1⟩ (λhHeld=>?_);clear hK K
      try simp only[aI]
      have K5:=a_ (m9 cr cn I8 J1 (dN.rd (dN.perm E8 (K':=B1++(B2++((S5,.cells #[Wy,ri,rn,WB rw_,(rp:Nat),(rf:Nat),(ro:Nat)] 51 (0,0))::(T7,.cells #[.slice ar g1.rs.length cr,.slice O6 g1.ns.length cn] 61 (0,0))::(bo,.cells #[xk,xa,xb,xi,Ph,Pe,Pf,WB Pm,.float .f64 Pd] 49 (0,0))::K))) aF) Mm HOK) (dN.rd E8 jB K4));clear t0 t1 r0;refine pT 10 (λK hK=>?_);go_simp
      go_at_call 30
      refine K5.kq ?_;rintro Au hb;have I1:=a_ (E8.grow hb);clear hb E8 K5;have q:=I1.has.right.head;have r0:=an q 0 (.int .i64 0) rfl;have q:=I1.has.right.tail.head;obtain⟨t0,t1, -⟩:=qN q;clear q;refine hK _ _ ⟨r0,t0,t1⟩ (λhHeld=>?_);clear hK K
      try simp only[aI]
      clear r0 t0 t1;refine bz 11 ?_;refine bz 12 ?_;simp only[aI];refine wpAnyH_done (by kernel_rfl) ?_ _
      try simp only[aI]
      go_wp2
      go_roundw
      case rel=>exact⟨n+1,S1,_,by go_num,by have:=HN.out;omega,I1.more (Nat.le_of_eq (Nat.succ_mul n 30000000000).symm)⟩
      case measure=>have:=HN.out;simp[intOf];omega
    ·have n0:(rc==0)=false:=by rw[beq_eq_false_iff_ne];exact h0
     have m0:(rc !=0)=true:=by rw[bne,n0];rfl
     generalize j8 xk=T9 at *;have e9:=(PF (.inl h0)).symm;subst e9;clear PF;have q:=X9.has.head;have r0:=an q 0 (.int .i64 rc) rfl;have q:=X9.has.tail.head;obtain⟨t0,t1, -⟩:=qN q;clear q;refine wp_region_held_drew (S:=λW=>W.cell? ⟨S5,0,none⟩=some (.int .i64 rc)/\W.cell? ⟨T7,0,none⟩=some (.slice ar g1.rs.length cr)/\W.cell? ⟨T7,1,none⟩=some (.slice O6 g1.ns.length cn)) (by kernel_rfl) ⟨r0,t0,t1⟩ (λhHeld=>?_);have XA:=a_ (X9.grow (ay _));generalize wc.drew=T8 at *;clear X9 r0 t0 t1;refine bz 0 ?_;refine bz 1 ?_;refine bz 2 ?_;refine bz 3 ?_;simp only[aI];refine wpAnyH_take (i:=4) (v:=undef) rfl (by kernel_rfl) (by kernel_rfl) (by kernel_rfl) (λ_ _ _ h=>h) (Or.inr ⟨by kernel_rfl,rfl⟩) (by assumption) ?_;simp only[aI];refine bz 5 ?_;refine bz 6 ?_;refine bz 7 ?_;refine bz 8 ?_;simp only[aI];refine pT 9 (λK hK=>?_);go_simp
     go_at_call 29
     refine (K3 _ _ XA).mono ?_;rintro e Wv ⟨L6,I8,L8,J1,rfl,B2,nJ,Pa⟩;obtain⟨jB,E8⟩:=aO nJ Pa;clear nJ Pa hHeld XA;have q:=E8.has.right.head;have r0:=an q 0 (.int .i64 rc) rfl;have q:=E8.has.right.tail.head;obtain⟨t0,t1, -⟩:=qN q;clear q;refine hK _ _ ⟨r0,t0,t1⟩ (λhHeld=>?_);clear hK K
     try simp only[aI]
     have K5:=a_ (m9 cr cn I8 J1 (dN.rd (dN.perm E8 (K':=B1++(B2++((S5,.cells #[rc,ri,rn,WB rw_,(rp:Nat),(rf:Nat),(ro:Nat)] 51 (0,0))::(T7,.cells #[.slice ar g1.rs.length cr,.slice O6 g1.ns.length cn] 61 (0,0))::(bo,.cells #[xk,xa,xb,xi,Ph,Pe,Pf,WB Pm,.float .f64 Pd] 49 (0,0))::K))) aF) Mm HOK) (dN.rd E8 jB K4));clear t0 t1 r0;refine pT 10 (λK hK=>?_);go_simp
     go_at_call 30
     refine K5.kq ?_;rintro Au hb;have I1:=a_ (E8.grow hb);clear hb E8 K5;have q:=I1.has.right.head;have r0:=an q 0 (.int .i64 rc) rfl;have q:=I1.has.right.tail.head;obtain⟨t0,t1, -⟩:=qN q;clear q;refine hK _ _ ⟨r0,t0,t1⟩ (λhHeld=>?_);clear hK K
     try simp only[aI]
     clear r0 t0 t1;refine bz 11 ?_;refine bz 12 ?_;simp only[aI];refine wpAnyH_done (by kernel_rfl) ?_ _
     try simp only[aI]
     go_wp2
     go_roundw
     case rel=>exact⟨n+1,S1,_,by go_num,by have:=HN.out;omega,I1.more (Nat.le_of_eq (Nat.succ_mul n 30000000000).symm)⟩
     case measure=>have:=HN.out;simp[intOf];omega
  ·have k1:¬(n:Int)<xs.length:=by omega
   have X4:=a_ h;clear hn hlt h
   go_wp2_with (go_at_call 12;refine (FV _ (X4.tz HT)).kq ?_;rintro w2 dw;have D2:=a_ (X4.grow dw);clear dw)
   go_ret;exact⟨rfl,D2.below⟩
def G1 (c:iL) (hc:c.JT) (a:Option Addr) (cap:Nat) (xs:List mU) (hx:zJ w a xs) (hT:ax w):WR 7 #[.agg c.cells,.slice a xs.length cap] w true λw'=>Below w.heap.size w w':=by
 by_cases h:rV c xs.length=false/\c.ok
 ·exact A7 c hc.ints a cap xs hx h.1 h.2 hT
 ·refine E6 c hc.ints a xs.length cap ?_ hT;by_cases hf:rV c xs.length=true
  ·exact .inl hf
  ·exact .inr λhok=>h ⟨Bool.eq_false_iff.2 hf,hok⟩
end
end
end Go.Proofs.YtmdgfpeglgpiiaaGreatDoor

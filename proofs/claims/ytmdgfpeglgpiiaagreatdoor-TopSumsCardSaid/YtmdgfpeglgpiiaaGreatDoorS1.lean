import Derived.Deep.Slices
import Derived.OpenShut
import Derived.SizedLaws
import Derived.Deep.Strs
import Derived.Deep.QuietTactic
import Derived.Laws.CopyOwn
import Derived.Lib.Overlaps
import Derived.Lib.AppendZerosOnto
import Derived.Lib.SliceRun
import Derived.Shelf.RegionOpenPlain
import Derived.Deep.Cut
import Derived.Deep.CutRange
import Derived.Lib.QuietBelow
import Derived.Test.YtmdgfpeglgpiiaaGreatDoorB19
set_option linter.all false
set_option maxRecDepth 100000
set_option maxHeartbeats 16000000
namespace Go.Proofs.YtmdgfpeglgpiiaaGreatDoor
open Vq Oq Go.Proofs.Tryz
open Go.ChangeShapes Go.WideShapes Go.ChangeAt Go.RowKit
structure j7 (k:IntKind) (w:World) (a:Option Addr) (zs:List Int):Prop where
 many:zs.length<=maxLen
 each:∀i,i<zs.length->(Lit.int k (zs.getD i 0)).wf=true
 cell:∃b off,(zs= []\/a=some ⟨b,off,none⟩)/\∀i,i<zs.length->w.cell? ⟨b,off+i,none⟩=some (.int k (zs.getD i 0))
def o9 {H:Type} {enc:TypeId×Value->H} {P:Program} {k:IntKind} {t e:TypeId} (ht:P.underlying t=some (.slice e)) (he:P.underlying e=some (.int k)) (hc:P.cellsOf e=1) {w:World} {a:Option Addr} {len cap fuel:Nat} {x:DataW H×List MemPlace}
  (h:DataW.trod enc P w 0 (λ_=>true) true fuel t [.slice a len cap]=some x):∃zs:List Int,zs.length=len/\j7 k w a zs:=by
 rcases open_ints ht he hc h with⟨hcs,hx⟩ | ⟨ad,I3,iV,zs,hcs,_,hl,hm,hz,hx,hcell,hwz⟩
 ·simp at hcs;obtain⟨rfl,rfl,rfl⟩:=hcs;exact⟨[],rfl,⟨by simp,by simp,0,0,.inl rfl,by simp⟩⟩
 ·simp at hcs;obtain⟨rfl,rfl,rfl⟩:=hcs;simp only[if_true] at hz;have hlen:(zs.take len).length=len:=by simp;omega
  have Gw:∀i,i<len->(zs.take len).getD i 0=zs.getD i 0:=λi hi=>by simp[List.getD_eq_getElem?_getD,hi]
  refine⟨zs.take len,hlen,⟨by omega,λi hi=>?_,?_⟩⟩
  ·rw[Gw i (by omega)];refine hwz _ ?_;rw[List.getD_eq_getElem?_getD,List.getElem?_eq_getElem (by omega),Option.getD_some];exact List.getElem_mem _
  ·by_cases h0:len=0
   ·subst h0;exact⟨0,0,.inl (by simp),by simp⟩
   ·obtain⟨b,off,spot⟩:=ad;have hspot:spot=none:=by simpa [Addr.add] using World.cell?_spot (hcell 0 (by omega))
    subst hspot;refine⟨b,off,.inr rfl,λi hi=>?_⟩;rw[Gw i (by omega),←vz];exact hcell i (by omega)
def G0 {H:Type} {enc:TypeId×Value->H} {P:Program} {k:IntKind} {t e:TypeId} (ht:P.underlying t=some (.slice e)) (he:P.underlying e=some (.int k)) (hc:P.cellsOf e=1) {w:World} {c:Value} {fuel:Nat} {x:DataW H×List MemPlace}
  (h:DataW.trod enc P w 0 (λ_=>true) true fuel t [c]=some x):∃a zs cap,c= .slice a zs.length cap/\j7 k w a zs:=by
 rcases open_ints ht he hc h with⟨hcs,hx⟩ | ⟨ad,I3,iV,zs,hcs, -⟩
 ·simp at hcs;subst hcs;exact⟨none,[],0,rfl,⟨by simp,by simp,0,0,.inl rfl,by simp⟩⟩
 ·simp at hcs;subst hcs;obtain⟨zs,rfl,hz⟩:=o9 ht he hc h;exact⟨_,zs,_,rfl,hz⟩
def s8 (s:XS) (a b:Nat):fH (fH s a) b=fH (fH s b) a:=by
 unfold fH;simp only[XS.mk.injEq];refine⟨?_,?_,?_,?_,trivial,?_⟩
 ·split<;>split<;>(try split)<;>(try split)<;>omega
 ·cases s.nan<;>cases (fQ a==4)<;>cases (fQ b==4)<;>rfl
 ·cases s.plus<;>cases (fQ a==3 && !iK a)<;>cases (fQ b==3 && !iK b)<;>rfl
 ·cases s.minus<;>cases (fQ a==3 && iK a)<;>cases (fQ b==3 && iK b)<;>rfl
 ·split<;>split<;>omega
def s9 {l l':List Nat} (h:l.Perm l'):jY l=jY l':=by
 unfold jY;rw[h.foldl_eq' (λx _ y _ z=>s8 z x y)]
open Go.Maps
def v7 (n:Nat) (St:World->Prop) (F:FuncId) (caps:Array Value) (hF:∀args w,(callFunc F args).run prog w= .ok (.enter F args) w) (hn:n<=1048576)
  (hs:∀i W,i<n->St W->Calls prog F (#[.int .i64 i]++caps) W λe W'=>∃b,e= .returned (.bool b)/\St W') (w:World) (h:St w):
  WA 140 #[n,.func (.func F) #[] caps] w λe w'=>∃r:Nat,r<=n/\e= .returned r/\St w':=by
 obtain⟨HS,H⟩:=aO hs h;clear hs h;go_enter func140,ntmps140;go_wp2
 go_loopw [5,6] (λiv jv wr=>∃i j:Nat,iv= .int .i64 i/\jv= .int .i64 j/\i<=j/\j<=n/\St wr) (λiv jv _=>(intOf jv).toNat-(intOf iv).toNat)
 case atStart=>exact⟨0,n,rfl,rfl,Nat.zero_le _,Nat.le_refl _,H⟩
 case round=>
  obtain⟨i,j,rfl,rfl,hij,hj,Vk⟩:=hrel;have Ug:=a_ Vk;clear Vk H;by_cases hlt:i<j
  ·have hm:(i+j)/2<j/\i<=(i+j)/2:=by omega
   have HC:=a_ (HS ((i+j)/2) wr (by omega) Ug);have e1:((i:Int)+j)/2=(((i+j)/2:Nat):Int):=by omega
   generalize (i+j)/2=m at *;have b1:(i:Int)<=1048576:=by omega
   have b2:(j:Int)<=1048576:=by omega
   go_wp2_with (refine HC.mono ?_;rintro e w5 ⟨q,rfl,h5⟩;have H5:=a_ h5;clear h5;cases q)
   ·go_roundw
    case rel=>exact⟨m+1,j,by go_num,rfl,by omega,hj,H5⟩
    case measure=>simp[intOf];omega
   ·go_roundw
    case rel=>exact⟨i,m,rfl,rfl,hm.2,by omega,H5⟩
    case measure=>simp[intOf];omega
  ·obtain rfl:i=j:=by omega
   go_wp2;go_ret;exact⟨i,hj,rfl,Ug⟩
def C7 (b:Nat) (xs:List Nat) (R:BL):Prop:=∃al cap Ra,R=(b,.cells #[.slice al xs.length cap] 110 (0,0))::Ra/\Rz 22 1 xs.length (xs.map λx=>Value.float .f64 x) al cap Ra/\xs.length<=1000000/\∀x∈xs,x<18446744073709551616
section
variable {b:Nat} {xs:List Nat} {R K:BL} {w w':World}
def l9 (args:Array Value) (w:World):(callFunc 141 args).run prog w= .ok (.enter 141 args) w:=by kernel_rfl
def v8 (h:C7 b xs R) (hR:Has R w) (f:Nat) (hf:f<18446744073709551616) {I9 J0:Nat} (c1:w.cell? ⟨I9,0,none⟩=some (.float .f64 f)) (c2:w.cell? ⟨J0,0,none⟩=some (.pointer (some ⟨b,0,none⟩))) (i:Nat) (hi:i<xs.length):
  WA 141 #[i,Wz I9,Wz J0] w λe w'=>∃q:Bool,e= .returned q/\Below w.heap.size w w':=by
 obtain⟨al,cap,Ra,CT,hr,hl,hx⟩:=h;subst CT;obtain⟨y,hy⟩:∃y,xs[i]?=some y:=⟨_,List.getElem?_eq_getElem hi⟩
 obtain⟨rb,rfl,c3⟩:=hr.cell hR.tail (show (xs.map λx=>Value.float .f64 x)[i]?=some (.float .f64 y) by
  rw[List.getElem?_map,hy];rfl)
 have c4:w.cell? ⟨b,0,none⟩=some (.slice (some ⟨rb,0,none⟩) xs.length cap):=an hR.head 0 _ rfl;have HB:=a_ (λm=>(qo f y hf (hx _ (List.mem_of_getElem? hy)) (w.drewN m)).mono λ_ _ h=>And.intro h.1 h.2.symm);have i1:(i:Int)<=1000000:=by omega
 have i2:(i:Int)<xs.length:=by omega
 clear hx hr hR hy hl;generalize xs.length=n at *;go_enter func141,ntmps141;go_wp2
 go_quiet ((go_at_call 142;exact Calls.quiet_of_same (HB _)))
 go_wp2;go_ret;exact⟨_,rfl,fM nq w⟩
def z8 (h:C7 b xs R) (hR:Has R w) (f:Nat) (hf:f<18446744073709551616):
  WA 65 #[Wz b,.float .f64 f] w λe w'=>∃r:Nat,r<=xs.length/\e= .returned r/\Below w.heap.size w w':=by
 obtain⟨w2,hw2⟩:∃w2,(w.alloc (.cells #[Wz b] 36)).alloc (.cells #[.float .f64 f] 22)=w2:=⟨_,rfl⟩
 have nJ:Below w.heap.size w w2:=by rw[←hw2];exact seq (au w _) (au _ _)
 have jl:w2.cell? ⟨w.heap.size,0,none⟩=some (.pointer (some ⟨b,0,none⟩)):=by
  rw[←hw2];exact bA (au _ _) (Nat.le_refl _) (an (heap_alloc_new w _) 0 _ rfl)
 have wZ:w2.cell? ⟨w.heap.size+1,0,none⟩=some (.float .f64 f):=by
  rw[←hw2];have:=heap_alloc_new (w.alloc (.cells #[Wz b] 36)) (.cells #[.float .f64 f] 22);rw[World.size_alloc] at this;exact an this 0 _ rfl
 have hl:=(show xs.length<=1000000 from by obtain⟨al,cap,Ra,CT,hr,hl,hx⟩:=h;exact hl)
 have HS:=a_ (v7 xs.length (λW=>Below w2.heap.size w2 W) 141 #[.pointer (some ⟨w.heap.size+1,0,none⟩),.pointer (some ⟨w.heap.size,0,none⟩)] l9 (by omega)
  (λi W hi hW=>(v8 h ((hR.grow nJ).grow hW) f hf (bA hW (Nat.le_refl _) wZ) (bA hW (Nat.le_refl _) jl) i hi).mono λe W' ⟨q,he,hb⟩=>⟨q,he,seq hW hb⟩))
 obtain⟨al,cap,Ra,CT,hr,hl,hx⟩:=h;subst CT;have c1:w2.cell? ⟨b,0,none⟩=some (.slice al xs.length cap):=an (hR.grow nJ).head 0 _ rfl;have jB:=a_ nJ;have uz:(xs.length:Int)<=1048576:=by omega
 clear hR hr hx nJ;subst hw2;go_enter func65,ntmps65
 go_wp2_with (go_at_call 140;refine (HS _ (Below.refl _ _)).mono ?_;rintro e w4 ⟨r,h1,rfl,h4⟩;have H4:=a_ h4;have H1:=a_ h1;clear h4 h1)
 go_ret;exact⟨_,H1,rfl,seq jB H4⟩
end
def j6:(prog.info? 22).map (λi=>(i.zero,i.size,i.bytes))=some (some (.float .f64 0),1,8):=by kernel_rfl
section
variable {v:Nat} {zs:List Value} {R R0 K:BL} {w0 w w':World} {al:Option Addr} {cap:Nat}
def m9 (r:Rz 22 1 zs.length zs al cap R) (hR:At R w) (x:Value) (hx:x.oneCell'=true) (hc:w.cell? ⟨v,0,none⟩=some x) (hm:zs.length<=1000000):
  WA 64 #[.slice al zs.length cap,zs.length,.slice (some ⟨v,0,none⟩) 1 1] w λe w'=>∃Dy iV,e= .returned (.slice Dy (zs.length+1) iV)/\∃R',Rz 22 1 (zs.length+1) (zs++ [x]) Dy iV R'/\ag R R' w w':=by
 obtain⟨i1,hj,sB,oQ,sC⟩:=info_parts j6;obtain⟨Dy,iV,w5,R',hrun,hr,hN⟩:=r.RY hR hj sB oQ sC rfl (by decide) underlying108 (news:= [x]) (m:=1) rfl (a:=some ⟨v,0,none⟩) 1 (λh0=>⟨v,0,rfl,λj u hu=>by
  cases j with
  | zero=>simp at hu;rw[←hu];exact hc
  | succ j=>simp at hu⟩) (by simpa using hx) (by unfold maxLen;omega) (by omega)
 obtain⟨HR,Hr,HN⟩:=dF hrun hr hN;have hle:=r.le.1;generalize zs.length=n at *;clear hrun hr hN r hR;go_enter func64,ntmps64
 go_wp2_with (at_builtin;refine cP _ rfl (.tmp 23) (.tmp 24) 108 rfl _ _ _ _ rfl rfl HR ?_)
 all_goals
  go_ret;exact⟨_,_,rfl,_,Hr,HN⟩
end
def j0 {α:Type} (A B C cs:List α) (o:Nat) (ho:o=A.length) (hb:B.length=cs.length):splice (A++(B++C)) o cs=A++(cs++C):=by
 subst ho;unfold splice;rw[List.take_left,←hb,←List.append_assoc A B C,←List.length_append,List.drop_left]
def A1 {α:Type} {L zs:List α} {i:Nat} (x:α) (hz:L.take zs.length=zs) (hi:i<zs.length) (hr:zs.length+1<=L.length):
  (splice (splice L (i+1) (zs.drop i)) i [x]).length=L.length/\(splice (splice L (i+1) (zs.drop i)) i [x]).take (zs.length+1)=zs.take i++x::zs.drop i:=by
 obtain⟨P,Q,hP,y8,hQ⟩:∃P Q,zs=P++Q/\P.length=i/\0<Q.length:=⟨zs.take i,zs.drop i,(List.take_append_drop i zs).symm,by rw[List.length_take];omega,by rw[List.length_drop];omega⟩
 obtain⟨y,T,hT⟩:∃y T,L.drop zs.length=y::T:=by
  cases hd:L.drop zs.length with
  | nil=>have:=congrArg List.length hd;rw[List.length_drop] at this;simp at this;omega
  | cons y T=>exact⟨y,T,rfl⟩
 cases Q with
 | nil=>simp at hQ
 | cons q0 Q'=>
  have e1:zs.take i=P:=by rw[hP,←y8,List.take_left]
  have e2:zs.drop i=q0::Q':=by rw[hP,←y8,List.drop_left]
  have e3:L=(P++ [q0])++((Q'++ [y])++T):=by
   rw[←List.take_append_drop zs.length L,hz,hT,hP];simp
  have s1:splice L (i+1) (zs.drop i)=P++([q0]++((q0::Q')++T)):=by
   rw[e3,e2,j0 _ _ _ _ _ (by simp[y8]) (by simp)];simp
  have s2:splice (splice L (i+1) (zs.drop i)) i [x]=P++([x]++((q0::Q')++T)):=by rw[s1,j0 P [q0] _ [x] _ y8.symm rfl]
  have hl:zs.length+1=(P++x::q0::Q').length:=by rw[hP];simp;omega
  rw[s2,e1,e2];refine⟨by rw[e3];simp;omega,?_⟩;rw[hl,show P++([x]++((q0::Q')++T))=(P++x::q0::Q')++T by simp,List.take_left]
def A3 {α:Type} {Z zs:List α} {i:Nat} (x:α) (hi:i<zs.length) (hr:zs.length+1-i<=Z.length):
  (splice (splice (zs.take i++Z) i [x]) (i+1) (zs.drop i)).length=i+Z.length/\(splice (splice (zs.take i++Z) i [x]) (i+1) (zs.drop i)).take (zs.length+1)=zs.take i++x::zs.drop i:=by
 obtain⟨P,Q,hP,y8⟩:∃P Q,zs=P++Q/\P.length=i:=⟨zs.take i,zs.drop i,(List.take_append_drop i zs).symm,by rw[List.length_take];omega⟩
 have e1:zs.take i=P:=by rw[hP,←y8,List.take_left]
 have e2:zs.drop i=Q:=by rw[hP,←y8,List.drop_left]
 have vS:zs.length=i+Q.length:=by rw[hP,List.length_append,y8]
 cases Z with
 | nil=>simp at hr;omega
 | cons z0 Z'=>
  rw[List.length_cons] at hr;have e3:Z'=Z'.take Q.length++Z'.drop Q.length:=(List.take_append_drop _ _).symm;have hZ1:(Z'.take Q.length).length=Q.length:=by rw[List.length_take];omega
  have hZ2:Z'.length=Q.length+(Z'.drop Q.length).length:=by rw[List.length_drop];omega
  generalize Z'.take Q.length=Z1 at *;generalize Z'.drop Q.length=T at *;subst e3;rw[e1,e2];have s1:splice (P++z0::(Z1++T)) i [x]=(P++ [x])++(Z1++T):=by
   rw[show P++z0::(Z1++T)=P++([z0]++(Z1++T)) from rfl,j0 P [z0] _ [x] _ y8.symm rfl];simp
  rw[s1,j0 _ _ _ _ _ (by simp[y8]) hZ1];have hl:zs.length+1=(P++x::Q).length:=by rw[hP];simp;omega
  refine⟨by simp;omega,?_⟩;rw[hl,show (P++ [x])++(Q++T)=(P++x::Q)++T by simp,List.take_left]
def j5 {P:Program} {ops:Array Oper} {o:Oper} {a:Act} {w:World} {K:Act->World->Prop} {Q:Exit->Act->World->Prop} {E:Prop}
  (hg:o.guard=none) (d x:Operand) (J1 sT:TypeId) (hop:o.op=Op.call {callee:=Callee.builtin Builtin.copy,args:= #[d,x],argTypes:= #[J1,sT]})
  (v u:Value) (hd:a.eval d=v) (hx:a.eval x=u) {v':Value} {w':World} (hr:(Builtin.copy_ #[J1,sT] o.type #[v,u]).run P w= .ok v' w') (hK:K (a.put o.dst v') w'):
  if Region.wanted o (yielded ops a.tmps)=true then Oper.wp P o a w K Q else E:=by
 have hw:Region.wanted o (yielded ops a.tmps)=true:=by simp[Region.wanted,hg]
 rw[b9 hw];unfold Oper.wp;simp[execOp,hop,resolve,invoke,builtin,hd,hx,hr,Result.andThen];exact hK
def ds {P:Program} (w:World) {ops:Array Oper} {rest:List Oper} {o:Oper} {a:Act} {Q:Exit->Act->World->Prop} (hgd:o.guard=none) (d s:Operand) (t t':TypeId)
  (ho:o.op= .call {callee:= .builtin .copy,args:= #[d,s],argTypes:= #[t,t']}) (v u:Value) (hd:a.eval d=v) (hs:a.eval s=u) {v':Value} {w':World}
  (hr:(Builtin.copy_ #[t,t'] o.type #[v,u]).run P w= .ok v' w') (h:wpList P ops Q rest (a.put o.dst v') w'):wpList P ops Q (o::rest) a w:=by
 refine wpList_plain hgd λK hK=>?_
 unfold Oper.wp;simp[execOp,ho,resolve,invoke,builtin,hd,hs,hr,Result.andThen];exact hK _ _ h
def j8 {W:World} {g off dLen G1:Nat} {ad:Addr} {sLen sCap:Nat} {L cs:List Value} (ty:TypeId) (hg:W.heap[g]?=some (.cells L.toArray 22 (0,0))) (hn:cs.length=min sLen dLen) (KO:∀j v,cs[j]?=some v->W.cell? (ad.add j)=some v) (hfit:off+cs.length<=L.length) (h1:∀v∈cs,v.oneCell'=true):
  (Builtin.copy_ #[108,108] ty #[.slice (some ⟨g,off,none⟩) dLen G1,.slice (some ad) sLen sCap]).run prog W= .ok (goInt cs.length) (W.setRow g (splice L off cs).toArray):=by
 obtain⟨i1,hj,sB,oQ,sC⟩:=info_parts j6;have h:=run_copy_row (P:=prog) W 108 108 ty 22 g off dLen G1 ad sLen sCap L.toArray 22 cs underlying108 (by rw[hj];simp[oQ]) hg hn KO (by simpa using hfit) h1;rw[List.append_assoc] at h;exact h
section
variable {v:Nat} {zs:List Value} {R R0 K:BL} {w0 w w':World} {al:Option Addr} {cap i:Nat}
def j9 (r:Rz 22 1 zs.length zs al cap R) (x:Value) (hR:At ((v,WD #[x] 22)::R) w) (hx:x.oneCell'=true) (h1:∀u∈zs,u.oneCell'=true) (hm:zs.length<=1000000) (hi:i<zs.length) (hc:zs.length+1<=cap):
  WA 64 #[.slice al zs.length cap,i,.slice (some ⟨v,0,none⟩) 1 1] w λe w'=>∃Dy iV,e= .returned (.slice Dy (zs.length+1) iV)/\∃R',Rz 22 1 (zs.length+1) (zs.take i++x::zs.drop i) Dy iV R'/\ag R R' w w':=by
 have hcm:=r.le.2;rcases r with⟨-,h0, -⟩ | ⟨b,cur,rfl,h2,h3,h4,h5,h6,h7,rfl⟩
 ·omega
 obtain⟨L⟩:=cur;rw[Nat.mul_one] at h5 h6 h7;simp only[List.size_toArray] at h5;have h6:L.take zs.length=zs:=h6;obtain⟨q1,q2⟩:=A1 x h6 hi (by omega);have hvb:v≠b:=λe=>by have:=hR.2;simp[e] at this
 have D0:=ag.refl hR.tail;have e1:∀W:World,W.heap=w.heap->∀ty J2 sc,(Builtin.copy_ #[108,108] ty #[.slice (some ⟨b,i+1,none⟩) (zs.length-i) J2,.slice (some ⟨b,i,none⟩) (zs.length+1-i) sc]).run prog W= .ok (goInt (zs.drop i).length) (W.setRow b (splice L (i+1) (zs.drop i)).toArray):=λW hW ty J2 sc=>
  j8 ty (by rw[hW];exact hR.1.tail.head) (by rw[List.length_drop];omega) (λj u hj=>by
   have hlt:i+j<zs.length:=by have:=(List.getElem?_eq_some_iff.1 hj).1;rw[List.length_drop] at this;omega
   have hh:W.heap[b]?=some (.cells L.toArray 22 (0,0)):=by rw[hW];exact hR.1.tail.head
   rw[List.getElem?_drop] at hj;rw[Addr.add_lit];refine an hh (i+j) u ?_;rw[←h6,List.getElem?_take_of_lt hlt] at hj
   simpa using hj) (by rw[List.length_drop];omega) (λu hu=>h1 u (List.mem_of_mem_drop hu))
 have e2:∀W:World,W.heap=(w.setRow b (splice L (i+1) (zs.drop i)).toArray).heap->∀ty J2,(Builtin.copy_ #[108,108] ty #[.slice (some ⟨b,i,none⟩) (zs.length+1-i) J2,.slice (some ⟨v,0,none⟩) 1 1]).run prog W= .ok (goInt 1) (W.setRow b (splice (splice L (i+1) (zs.drop i)) i [x]).toArray):=λW hW ty J2=>
  j8 (cs:= [x]) ty (by rw[hW];exact setRow_heap w b _ _ _ _ hR.1.tail.head) (by simp only[List.length_singleton];omega) (λj u hj=>by
   cases j with
   | zero=>
    have hh:W.heap[v]?=some (.cells #[x] 22 (0,0)):=by rw[hW,setRow_other w b v _ hvb];exact hR.1.head
    obtain rfl:x=u:=by simpa using hj
    exact an hh 0 x rfl
   | succ j=>simp at hj) (by have:(splice L (i+1) (zs.drop i)).length=L.length:=length_splice _ _ _ (by rw[List.length_drop];omega);simp only[List.length_singleton];omega) (λu hu=>by simp at hu;rw[hu];exact hx)
 have LX:∀lb cb,(callFunc 138 #[.slice (some ⟨v,0,none⟩) 1 1,.slice (some ⟨b,i+1,none⟩) lb cb]).run prog w= .ok (.value (.bool false)) w:=λlb cb=>by
  obtain⟨i1,hj,sB,oQ,sC⟩:=info_parts j6;rw[run_callFunc_extern func138 (by kernel_rfl) (by kernel_rfl) (by kernel_rfl) (e:=Extern.SlicesOverlaps.overlaps #[108,108] #[4]) (by kernel_rfl),
   Lib.run_overlaps_apart w 108 4 22 underlying108 1 (λw=>by simp[sizeOf,typeInfo,hj,oQ]) ⟨v,0,none⟩ ⟨b,i+1,none⟩ 1 1 lb cb hvb 22 22 1 L.length (by simp[World.shape?,hR.1.head]) (by simp[World.shape?,hR.1.tail.head]) (by omega) (by simp[World.frozen?,hR.1.head]) (by simp[World.frozen?,hR.1.head])]
  rfl
 obtain⟨HE1,I4⟩:=aO e1 e2;have HQ:=a_ (And.intro q1 q2);have HX:=a_ (And.intro h2 (And.intro h5 h4));have HD:=a_ D0;generalize hs1:splice L (i+1) (zs.drop i)=s1 at *;generalize IX:splice s1 i [x]=s2 at *;generalize NR:(zs.drop i).length=dl at *;generalize G5:zs.take i++x::zs.drop i=J3 at *;have A4:J3.length=zs.length+1:=by rw[←G5];simp;omega
 have G6:s1.length=L.length:=by rw[←hs1];exact length_splice _ _ _ (by rw[List.length_drop];omega)
 have HL:=a_ (And.intro A4 G6);have SC:cap<=9223372036854775807:=by unfold maxLen at hcm;omega
 clear hs1 IX G5 NR hR h1 h6 h7 h2 q1 q2 e1 e2 D0 h5 A4 G6 hx hcm h4;generalize zs.length=n at *;have b1:(i:Int)<=1000000:=by omega
 have b2:(n:Int)<=1000000:=by omega
 have b3:¬((i:Int)=(n:Int)):=by omega
 have b4:¬((cap:Int)<(n:Int)+1):=by omega
 have b5:¬(cap=i+1):=by omega
 have b6:¬(cap=i):=by omega
 have kA:=eH ((i:Int)+1);have hw2:=eH ((n:Int)+1);have ht1:((i:Int)+1).toNat=i+1:=by omega
 have mixed:prog.follows .mixedOrders=true:=by kernel_rfl
 have p1:(0:Int)<=(i:Int)+1:=by omega
 have p2:i<=n:=by omega
 have p3:(i:Int)<=(n:Int)+1:=by omega
 have ht2:((n:Int)+1).toNat=n+1:=by omega
 go_enter func64,ntmps64
 go_wp2_with (simp only[LX])
 go_region_law_o (refine j5 rfl _ _ 108 108 rfl _ _ (by simp[Act.eval,Act.put]) (by simp[Act.eval,Act.put]) (HE1 _ (by rfl) _ (cap-(i+1)) (cap-i)) ?_)
 go_wp2_with (refine ds _ rfl _ _ 108 108 rfl _ _ rfl rfl (I4 _ (by rfl) _ _) ?_)
 go_ret;obtain⟨x1,x2,x3⟩:=HX.out;obtain⟨y1,y2⟩:=HL.out;obtain⟨z1,z2⟩:=HQ.out;exact⟨_,_,rfl,_,.inr ⟨b,s2.toArray,rfl,x1,hc,x3,by simp;omega,by simpa using z2,by omega,rfl⟩,(HD.drew.row (cs':=s1.toArray) (by simp[y2])).row (by simp;omega)⟩
def l8 (r:Rz 22 1 zs.length zs al cap R) (x:Value) (hR:At ((v,WD #[x] 22)::R) w) (hx:x.oneCell'=true) (h1:∀u∈zs,u.oneCell'=true) (hm:zs.length<=1000000) (hi:i<zs.length) (hc:cap<zs.length+1):
  WA 64 #[.slice al zs.length cap,i,.slice (some ⟨v,0,none⟩) 1 1] w λe w'=>∃Dy iV,e= .returned (.slice Dy (zs.length+1) iV)/\∃R',Rz 22 1 (zs.length+1) (zs.take i++x::zs.drop i) Dy iV R'/\ag R R' w w':=by
 rcases r with⟨-,h0, -⟩ | ⟨b,cur,rfl,h2,h3,h4,h5,h6,h7,rfl⟩
 ·omega
 obtain⟨L⟩:=cur;rw[Nat.mul_one] at h5 h6 h7;simp only[List.size_toArray] at h5;have h6:L.take zs.length=zs:=h6;obtain⟨i0,Kw,hz0,hzs,Mf⟩:=info_parts j6;have hb0:=hR.1.tail.head;have hv0:=hR.1.head;have F4:∀j u,zs[j]?=some u->w.cell? ⟨b,j,none⟩=some u:=λj u hj=>by
  have hlt:=(List.getElem?_eq_some_iff.1 hj).1;refine an hb0 j u ?_;rw[←h6,List.getElem?_take_of_lt hlt] at hj
  simpa using hj
 have hold:(Builtin.firstCells i0.size i (.slice (some ⟨b,0,none⟩) i cap)).run prog w.drew= .ok (zs.take i).toArray w.drew:=by
  rw[hzs];exact run_firstCells_some w.drew 1 i ⟨b,0,none⟩ i cap (zs.take i) (by rw[List.length_take];omega) (λj u hj=>by
   rw[Addr.add_lit,Nat.zero_add];rw[List.getElem?_take] at hj
   split at hj
   ·exact F4 j u hj
   ·cases hj)
 have hkk:(zs.length:Int)+1-(i:Int)=((zs.length+1-i:Nat):Int):=by omega
 have I6:i+(zs.length+1-i)=zs.length+1:=by omega
 obtain⟨G,hG⟩:∃G,G=grownCap w (zs.length+1) cap 22:=⟨_,rfl⟩
 have hGn:zs.length+1<=G:=by rw[hG];exact grownCap_ge w _ _ _
 have F6:G<=maxLen:=by rw[hG];exact grownCap_le_maxLen w _ _ _ (by unfold maxLen;omega)
 obtain⟨Z,J4,hZl⟩:∃Z:List Value,(zs.take i).toArray++Builtin.zeroCells (Value.float .f64 0).cells (zs.length+1-i)++Builtin.zeroCells (Value.float .f64 0).cells (G-(zs.length+1))=(zs.take i++Z).toArray/\Z.length=G-i:=
  ⟨(Builtin.zeroCells (Value.float .f64 0).cells (zs.length+1-i)++Builtin.zeroCells (Value.float .f64 0).cells (G-(zs.length+1))).toList,by simp,by simp[Builtin.zeroCells,Value.cells];omega⟩
 have hrz:∀ty,(Builtin.append_ #[108,3] ty #[.slice (some ⟨b,0,none⟩) i cap,.int .i64 ((zs.length:Int)+1-(i:Int))]).run prog w= .ok (.slice (some ⟨w.heap.size,0,none⟩) (zs.length+1) G) (w.drew.alloc (.cells (zs.take i++Z).toArray 22)):=λty=>by
  have h:=Lib.run_append_grow_zeros w 108 3 ty 22 i0 _ .i64 .i64 underlying108 underlying3 Kw hz0 (some ⟨b,0,none⟩) i cap (zs.take i) hold (zs.length+1-i) (by omega) (by omega) (by omega) (by omega) (by rw[Mf];omega) (by rw[Mf,I6];exact growslice_fits hc (by omega));rw[I6,←hG,J4] at h;rw[hkk];exact h
 obtain⟨q1,q2⟩:=A3 (Z:=Z) x hi (by omega);have hbg:b≠w.heap.size:=by have:=bf hb0;omega
 have hvg:v≠w.heap.size:=by have:=bf hv0;omega
 have D0:=(ag.refl hR.tail).box (zs.take i++Z).toArray 22;have hg0:=heap_alloc_new w (.cells (zs.take i++Z).toArray 22);have y8:(zs.take i).length=i:=by rw[List.length_take];omega
 have s1l:(splice (zs.take i++Z) i [x]).length=G:=by rw[length_splice _ _ _ (by simp;omega)];simp;omega
 have e1:∀W:World,W.heap=(w.alloc (.cells (zs.take i++Z).toArray 22)).heap->∀ty J2,(Builtin.copy_ #[108,108] ty #[.slice (some ⟨w.heap.size,i,none⟩) (zs.length+1-i) J2,.slice (some ⟨v,0,none⟩) 1 1]).run prog W= .ok (goInt 1) (W.setRow w.heap.size (splice (zs.take i++Z) i [x]).toArray):=λW hW ty J2=>
  j8 (cs:= [x]) ty (by rw[hW];exact hg0) (by simp only[List.length_singleton];omega) (λj u hj=>by
   cases j with
   | zero=>
    have hh:W.heap[v]?=some (.cells #[x] 22 (0,0)):=by rw[hW];exact cQ (au w _) (Nat.le_refl _) hv0
    obtain rfl:x=u:=by simpa using hj
    exact an hh 0 x rfl
   | succ j=>simp at hj) (by simp;omega) (λu hu=>by simp at hu;rw[hu];exact hx)
 have e2:∀W:World,W.heap=((w.alloc (.cells (zs.take i++Z).toArray 22)).setRow w.heap.size (splice (zs.take i++Z) i [x]).toArray).heap->∀ty J2 sc,(Builtin.copy_ #[108,108] ty #[.slice (some ⟨w.heap.size,i+1,none⟩) (zs.length-i) J2,.slice (some ⟨b,i,none⟩) (zs.length-i) sc]).run prog W= .ok (goInt (zs.drop i).length) (W.setRow w.heap.size (splice (splice (zs.take i++Z) i [x]) (i+1) (zs.drop i)).toArray):=λW hW ty J2 sc=>
  j8 ty (by rw[hW];exact setRow_heap _ _ _ _ _ _ hg0) (by rw[List.length_drop];omega) (λj u hj=>by
   have hh:W.heap[b]?=some (.cells L.toArray 22 (0,0)):=by rw[hW,setRow_other _ _ b _ hbg];exact cQ (au w _) (Nat.le_refl _) hb0
   rw[List.getElem?_drop] at hj;have hlt:=(List.getElem?_eq_some_iff.1 hj).1;rw[Addr.add_lit];refine an hh (i+j) u ?_;rw[←h6,List.getElem?_take_of_lt hlt] at hj
   simpa using hj) (by rw[List.length_drop];omega) (λu hu=>h1 u (List.mem_of_mem_drop hu))
 obtain⟨HRZ,HE1,I4⟩:=dF hrz e1 e2;have HQ:=a_ (And.intro q1 q2);have HX:=a_ (And.intro h2 (And.intro hGn (And.intro F6 hZl)));have HD:=a_ D0;generalize hs1:splice (zs.take i++Z) i [x]=s1 at *;generalize IX:splice s1 (i+1) (zs.drop i)=s2 at *;generalize NR:(zs.drop i).length=dl at *;generalize G5:zs.take i++x::zs.drop i=J3 at *;have A4:J3.length=zs.length+1:=by rw[←G5];simp;omega
 have HL:=a_ (And.intro A4 (And.intro s1l (show (zs.take i++Z).length=G by rw[List.length_append,y8];omega)));generalize zs.take i++Z=L0 at *;have hG9:G<=9223372036854775807:=by unfold maxLen at F6;omega
 clear hs1 IX G5 NR hR h1 h6 h7 h2 q1 q2 e1 e2 D0 h5 A4 s1l hx h4 hrz J4 hZl hold F4 hb0 hv0 hg0 y8 hG F6 Kw hz0 hzs Mf hkk I6 hbg hvg;generalize zs.length=n at *;have b1:(i:Int)<=1000000:=by omega
 have b2:(n:Int)<=1000000:=by omega
 have b3:¬((i:Int)=(n:Int)):=by omega
 have b4:(cap:Int)<(n:Int)+1:=by omega
 have b5:¬(cap=i):=by omega
 have b6:¬(G=i):=by omega
 have b7:¬(G=i+1):=by omega
 have b8:(i:Int)<=(n:Int):=by omega
 have kA:=eH ((i:Int)+1);have hw2:=eH ((n:Int)+1);have oP:=eH ((n:Int)+1-(i:Int));have ht1:((i:Int)+1).toNat=i+1:=by omega
 have mixed:prog.follows .mixedOrders=true:=by kernel_rfl
 have p1:(0:Int)<=(i:Int)+1:=by omega
 have p2:i<=n:=by omega
 have p3:(i:Int)<=(n:Int)+1:=by omega
 go_enter func64,ntmps64
 go_wp2_with (first
  | (at_builtin;refine Lib.wpList_append_run _ rfl _ _ _ _ rfl _ _ rfl rfl _ _ (HRZ _) ?_)
  | refine ds _ rfl _ _ 108 108 rfl _ _ rfl rfl (HE1 _ (by rfl) _ _) ?_)
 go_region_law_o (refine j5 rfl _ _ 108 108 rfl _ _ (by simp[Act.eval,Act.put]) (by simp[Act.eval,Act.put]) (I4 _ (by rfl) _ (G-(i+1)) (cap-i)) ?_)
 go_wp2;go_ret;obtain⟨x1,x2,x3,x4⟩:=HX.out;obtain⟨y1,y2,y3⟩:=HL.out;obtain⟨z1,z2⟩:=HQ.out;exact⟨_,_,rfl,_,.inr ⟨w.heap.size,s2.toArray,rfl,Nat.zero_le _,x2,x3,by simp;omega,by simpa using z2,by omega,rfl⟩,ag.bN (A:= [_]) ((HD.drew.row (cs':=s1.toArray) (by simp;omega)).drew.row (by simp;omega))⟩
end
section
variable {v b x i:Nat} {xs:List Nat} {R R0 K:BL} {w0 w w':World} {al:Option Addr} {cap:Nat}
def n8 (r:Rz 22 1 xs.length (xs.map λx=>Value.float .f64 x) al cap R) (hR:At ((v,.cells #[.float .f64 x] 22 (0,0))::R) w) (hm:xs.length<=1000000) (hi:i<=xs.length):
  WA 64 #[.slice al xs.length cap,i,.slice (some ⟨v,0,none⟩) 1 1] w λe w'=>∃Dy iV,e= .returned (.slice Dy (xs.take i++x::xs.drop i).length iV)/\∃R',Rz 22 1 (xs.take i++x::xs.drop i).length ((xs.take i++x::xs.drop i).map λx=>Value.float .f64 x) Dy iV R'/\ag R R' w w':=by
 have hl:(xs.map λx=>Value.float .f64 x).length=xs.length:=List.length_map ..;have hn:(xs.take i++x::xs.drop i).length=(xs.map λx=>Value.float .f64 x).length+1:=by simp;omega
 have zw:(xs.take i++x::xs.drop i).map (λx=>Value.float .f64 x)=(xs.map λx=>Value.float .f64 x).take i++ .float .f64 x::(xs.map λx=>Value.float .f64 x).drop i:=by rw[List.map_append,List.map_cons,List.map_take,List.map_drop]
 have h1:∀u∈xs.map (λx=>Value.float .f64 x),u.oneCell'=true:=λu hu=>by
  obtain⟨y, -,rfl⟩:=List.mem_map.1 hu;rfl
 rw[hn,zw];rw[←hl] at r hm hi ⊢;generalize xs.map (λx=>Value.float .f64 x)=zs at *;by_cases he:i=zs.length
 ·subst he;rw[List.take_length,List.drop_length];exact m9 r hR.tail _ rfl (an hR.1.head 0 _ rfl) hm
 ·by_cases hc:zs.length+1<=cap
  ·exact j9 r _ hR rfl h1 hm (by omega) hc
  ·exact l8 r _ hR rfl h1 hm (by omega) (by omega)
def A5 (w:World):WA 16 #[] w λe w'=>∃b,e= .returned (Wz b)/\∃R,C7 b [] R/\ag [] R w w':=by
 have D0:=a_ ((ag.refl (At.nil (w:=w))).box #[.slice none 0 0] 110);go_enter func16,ntmps16;go_wp2;go_ret;exact⟨_,rfl,_,⟨none,0,[],rfl,Rw.nil _ _ _,by simp,by simp⟩,D0⟩
def A6 (h:C7 b xs R) (hR:At R w) (hx:x<18446744073709551616) (hm:xs.length<1000000):
  WR 18 #[Wz b,.float .f64 x] w (.tuple #[]) λw'=>∃J5 R',C7 b J5 R'/\J5.Perm (x::xs)/\ag R R' w w':=by
 have HU:=a_ (λW (hb:Has R W)=>z8 h hb x hx);obtain⟨al,cap,Ra,rfl,hr,hl,gz⟩:=h;have HI:=a_ (λ(i v:Nat) (W:World) (hi:i<=xs.length) (hA:At ((v,.cells #[.float .f64 x] 22 (0,0))::Ra) W)=>n8 hr hA hl hi);have HP:=a_ (λi=>(show (xs.take i++x::xs.drop i).Perm (x::xs) from List.perm_middle.trans (by rw[List.take_append_drop])));have HM:=a_ (And.intro hm (And.intro hx gz));have D1:=a_ (ag.refl hR).drew;have c0:w.drew.cell? ⟨b,0,none⟩=some (.slice al xs.length cap):=an D1.has.head 0 _ rfl;obtain⟨J5,hys⟩:∃J5:Nat->List Nat,∀i,xs.take i++x::xs.drop i=J5 i:=⟨_,λ_=>rfl⟩
 simp only[hys] at HI HP;generalize hn:xs.length=n at *;clear hR hr hl hys;go_enter func18,ntmps18
 go_upto_region 1 with fail
 refine aP (S:=λW=>W.cell? ⟨b,0,none⟩=some (.slice al n cap)) (by kernel_rfl) c0 (λhHeld=>?_);generalize w.drew=w1 at *;refine aR 0 ?_;refine aR 1 ?_;refine aR 2 ?_;refine aR 3 ?_;refine aR 4 ?_;refine aR 5 ?_;refine aR 6 ?_;refine aR 8 ?_;simp only[aI];clear c0;refine ke (i:=7) (j:=9) (by decide+kernel) rfl rfl (λK hK=>?_) (λK hK=>?_);go_simp;refine (HU _ D1.has).mono ?_;rintro e w2 ⟨i,hi,rfl,b2⟩;have HJ:=a_ hi;have D2:=a_ (D1.grow b2);clear hi b2;refine hK _ _ (an D2.has.head 0 _ rfl) (λhHeld=>?_);clear hK K
 try simp only[aI]
 refine jS 9 (λK hK=>?_);go_simp;have D3:=a_ (D2.box #[.float .f64 x] 22);refine hK _ _ (an D3.has.tail.head 0 _ rfl) (λhHeld=>?_);clear hK K
 try simp only[aI]
 generalize w2.alloc _=w3 at *;generalize w2.heap.size=v at *;clear D2
 rotate_left
 go_simp;have D2:=a_ (D1.box #[.float .f64 x] 22);refine hK _ _ (an D2.has.tail.head 0 _ rfl) (λhHeld=>?_);clear hK K
 try simp only[aI]
 generalize w1.alloc _=w2 at *;generalize w1.heap.size=v at *;refine jS 7 (λK hK=>?_);go_simp;refine (HU _ D2.has.tail).mono ?_;rintro e w3 ⟨i,hi,rfl,b2⟩;have HJ:=a_ hi;have D3:=a_ (D2.grow b2);clear hi b2 D2;refine hK _ _ (an D3.has.tail.head 0 _ rfl) (λhHeld=>?_);clear hK K
 try simp only[aI]
 all_goals
  refine jS 10 (λK hK=>?_);go_simp;refine (HI i v _ HJ (D3.at_.perm (R':= [(b,.cells #[.slice al n cap] 110 (0,0))]++((v,.cells #[.float .f64 x] 22 (0,0))::Ra)) aF).right).mono ?_;rintro e w4 ⟨Dy,iV,rfl,R',GB,d4⟩;have HR:=a_ GB;have D4:=a_ (((D3.perm (R':=Ra++ [(v,.cells #[.float .f64 x] 22 (0,0)),(b,.cells #[.slice al n cap] 110 (0,0))]) aF).step d4).perm (R':=(b,.cells #[.slice al n cap] 110 (0,0))::(v,.cells #[.float .f64 x] 22 (0,0))::R') aF);clear GB d4;have f0:=br D4.has.head 0;refine hK _ _ (an D4.has.head 0 _ rfl) (λhHeld=>?_);clear hK K
  try simp only[aI]
  refine aR 11 ?_;refine aR 12 ?_;simp only[aI];refine sD 13 (λK hK=>?_);go_simp;refine hK _ _ ?_;clear hK K
  try simp only[aI]
  go_wp2
  go_end0
  have hp:=HP i;have kj:=hp.length_eq;rw[List.length_cons,hn] at kj;exact⟨rfl,J5 i,_,⟨Dy,iV,R',rfl,HR,by omega,λy hy=>(List.mem_cons.1 (hp.mem_iff.1 hy)).elim (λe=>e▸HM.2.1) (HM.2.2 y)⟩,hp,((D4.set 0 _).perm (R':=(v,WD #[.float .f64 x] 22)::_::R') aF).tail⟩
def A7 (h:C7 b xs R) (hR:Has R w):WR 23 #[Wz b] w xs.length λw'=>w=w':=by
 obtain⟨al,cap,Ra,rfl,hr,hl,gz⟩:=h;have c0:w.cell? ⟨b,0,none⟩=some (.slice al xs.length cap):=an hR.head 0 _ rfl;generalize xs.length=n at *;clear hR hr gz;go_enter func23,ntmps23;go_wp2;go_ret;exact⟨rfl,rfl⟩
def A8 (h:C7 b xs R) (hR:Has R w):WA 72 #[Wz b] w λe w'=>∃al cap,e= .returned (.slice al xs.length cap)/\w=w'/\∀i y,xs[i]?=some y->∃g,al=some ⟨g,0,none⟩/\w.cell? ⟨g,i,none⟩=some (.float .f64 y):=by
 obtain⟨al,cap,Ra,rfl,hr,hl,gz⟩:=h;have c0:w.cell? ⟨b,0,none⟩=some (.slice al xs.length cap):=an hR.head 0 _ rfl;have HC:=a_ (λi y (hy:xs[i]?=some y)=>hr.cell hR.tail (show (xs.map λx=>Value.float .f64 x)[i]?=some (.float .f64 y) by rw[List.getElem?_map,hy];rfl));generalize xs.length=n at *;clear hR hr gz;go_enter func72,ntmps72;go_wp2;go_ret;exact⟨_,_,rfl,rfl,HC⟩
def E0 (hl:xs.length<=1000000) (hx:∀y∈xs,y<18446744073709551616) (hc:∀i y,xs[i]?=some y->∃g,al=some ⟨g,0,none⟩/\w.cell? ⟨g,i,none⟩=some (.float .f64 y)):
  WA 150 #[.slice al xs.length cap] w λe w'=>∃bx,e= .returned (Wz bx)/\ag [] [(bx,XO (limb (xs.foldl fH .new).N) (xs.foldl fH .new))] w w':=by
 have Ur:=a_ (λW=>xnew_x W);have Mk:∀n,n<xs.length->∀bx W,At [(bx,XO (limb ((xs.take n).foldl fH .new).N) ((xs.take n).foldl fH .new))] W->WR 69 #[Wz bx,.float .f64 (xs.getD n 0)] W (.tuple #[]) λw'=>ag [(bx,XO (limb ((xs.take n).foldl fH .new).N) ((xs.take n).foldl fH .new))] [(bx,XO (limb ((xs.take (n+1)).foldl fH .new).N) ((xs.take (n+1)).foldl fH .new))] W w':=by
  intro n hn bx W hA;have hxg:xs[n]?=some xs[n]:=List.getElem?_eq_getElem hn;have e4:xs.take (n+1)=xs.take n++ [xs[n]]:=by rw[List.take_add_one,hxg];rfl
  have e5:xs.getD n 0=xs[n]:=by rw[List.getD_eq_getElem?_getD,hxg];rfl
  obtain⟨c1,c2⟩:=my (xs.take n) .new;have hlt:(xs.take n).length<=1000000:=by rw[List.length_take];omega
  have z1:XS.new.count=0:=rfl;have z2:XS.new.cI=0:=rfl;rw[e4,e5,List.foldl_append];exact add_x (hx _ (List.getElem_mem hn)) ⟨by omega,by omega⟩ hA
 have Mk:=a_ Mk;have HC:=a_ (λn (hn:n<xs.length)=>hc n (xs.getD n 0) (by rw[List.getD_eq_getElem?_getD,List.getElem?_eq_getElem hn];rfl));have Lm:xs.take xs.length=xs:=List.take_length;obtain⟨J6,hsx⟩:∃J6:Nat->XS,∀n,(xs.take n).foldl fH .new=J6 n:=⟨_,λn=>rfl⟩
 have KW:XS.new=J6 0:=hsx 0;have We:xs.foldl fH .new=J6 xs.length:=by rw[←hsx,Lm]
 simp only[hsx] at Mk;rw[KW] at Ur;rw[We];obtain⟨ld,VE⟩:∃ld:Nat->Nat,∀n,xs.getD n 0=ld n:=⟨_,λn=>rfl⟩
 simp only[VE] at Mk HC;clear hc hx hsx KW We VE Lm;generalize xs.length=f at *;have J7:(f:Int)<=1000000:=by omega
 go_enter func150,ntmps150
 go_wp2_with (go_at_call 67;refine (Ur _).mono ?_;rintro e w3 ⟨bx,rfl,d3⟩;have D3:=a_ d3;clear d3)
 go_loopw [9] (λiv wr=>∃n:Nat,iv= .int .i64 n/\n<=f/\ag [] [(bx,XO (limb (J6 n).N) (J6 n))] w wr) (λiv _=>f-(intOf iv).toNat)
 case atStart=>exact⟨0,rfl,by omega,D3⟩
 case round=>
  obtain⟨n,rfl,hn,hd⟩:=hrel;have D4:=a_ hd;clear hd D3;by_cases hlt:n<f
  ·obtain⟨g,rfl,bu⟩:=HC n hlt;have bu:=bA D4.below (Nat.le_refl _) bu;have k1:(n:Int)<f:=by omega
   have HN:=a_ hlt
   go_wp2_with (go_at_call 69;refine (Mk n HN bx _ D4.at_).kq ?_;rintro w6 d6;have D5:=a_ (D4.trans d6);clear d6)
   go_roundw
   case rel=>exact⟨n+1,by go_num,by omega,D5⟩
   case measure=>simp[intOf];omega
  ·obtain rfl:n=f:=by omega
   go_wp2;go_ret;exact⟨bx,rfl,D4⟩
end
section
variable {v b x i:Nat} {xs:List Nat} {R R0 K:BL} {w0 w w':World} {al:Option Addr} {cap:Nat}
def E4 (hl:xs.length<=1000000) (hx:∀y∈xs,y<18446744073709551616) (hc:∀i y,xs[i]?=some y->∃g,al=some ⟨g,0,none⟩/\w.cell? ⟨g,i,none⟩=some (.float .f64 y)):
  WR 71 #[.slice al xs.length cap] w (.float .f64 (jY xs)) λw'=>Below w.heap.size w w':=by
 have HO:=a_ (E0 (cap:=cap) hl hx hc);have HW:∀bx W,At [(bx,XO (limb (xs.foldl fH .new).N) (xs.foldl fH .new))] W->WR 70 #[Wz bx] W (.float .f64 (jY xs)) λw'=>Below W.heap.size W w':=by
  intro bx W hA;obtain⟨c1,c2⟩:=my xs .new;have z1:XS.new.count=0:=rfl;exact whole_x (by omega) hA
 have HW:=a_ HW;generalize jY xs=J6 at *;generalize xs.foldl fH .new=S at *;generalize xs.length=n at *;clear hc hx;go_enter func71,ntmps71
 go_wp2_with (first
  | (go_at_call 150;refine HO.mono ?_;rintro e w1 ⟨bx,rfl,d1⟩;have D1:=a_ d1;clear d1)
  | (go_at_call 70;refine (HW bx _ D1.at_).kq ?_;rintro w2 b2;have B2:=a_ b2;clear b2))
 go_ret;exact⟨rfl,(D1.grow B2).below⟩
def A9 (h:C7 b xs R) (hR:Has R w):WR 22 #[Wz b] w (.float .f64 (jY xs)) λw'=>Below w.heap.size w w':=by
 have HA:=a_ (A8 h hR);have HO:=a_ (λal cap (hc:∀i y,xs[i]?=some y->∃g,al=some ⟨g,0,none⟩/\w.cell? ⟨g,i,none⟩=some (.float .f64 y))=>(show WR 71 #[.slice al xs.length cap] w (.float .f64 (jY xs)) λw'=>Below w.heap.size w w' from by
  obtain⟨Dy,iV,Ra,CT,hr,hl,hx⟩:=h;exact E4 hl hx hc))
 clear h hR;generalize jY xs=J6 at *;go_enter func22,ntmps22
 go_wp2_with (first
  | (go_at_call 72;refine HA.mono ?_;rintro e w1 ⟨al,cap,rfl,rfl,hc⟩;have HC:=a_ hc;clear hc)
  | (go_at_call 71;refine (HO al cap HC).kq ?_;rintro w2 b2;have B2:=a_ b2;clear b2))
 go_ret;exact⟨rfl,B2⟩
def B0 (x:Nat) (w:World):WR 21 #[.float .f64 x,.float .f64 x] w true λw'=>w=w':=by
 have HB:=a_ (λW=>dY x W);go_enter func21,ntmps21
 go_wp2_with (go_at_call 44;refine (HB _).kq ?_;rintro w1 rfl)
 go_ret;exact⟨rfl,rfl⟩
end
open Go.Sort
section
variable {S S' S2:HS} {k:wR} {y:aJ} {s:ml}
def HS.Good.G8 (h:S.Good):S.step.Good:=by
 cases hk:S.bX with
 | none=>
  have e:S.step=S:=by unfold HS.step;rw[hk]
  rw[e];exact h
 | some k=>exact (h.step hk).2.2.1
end
section
attribute [local go_sem] Oper.semAt_some
section
variable {hb m rb T T':Nat} {S S':HS} {R K K':BL} {w w' W W':World} {s p f o i k:Int}
def dN.more (h:dN hb m rb S T K w W) (hT:T<=T'):dN hb m rb S T' K w W:=by
 obtain⟨hg,R,hh,d⟩:=h;exact⟨hg,R,hh.more hT,d⟩
def dN.at_ (h:dN hb m rb S T K w W):At K W:=by
 obtain⟨hg,R,hh,d⟩:=h;exact d.at_.right
def G9 (hg:S.Good) (h:ak hb m rb S T R) (d:ag [] R W W') (D:ag [] K w W):dN hb m rb S T K w W':=⟨hg,R,h,D.bh d⟩
def B7 (h:dN hb m rb S T K w W) (hT:ax w) (bJ:T<=600000000000000):WR 15 #[Wz hb] W (.tuple #[]) λW'=>dN hb m rb S.dJ (T+10000000000) K w W':=
 vP h hT h.1.dJ.1 λR hh hR lT hN=>start_h hh h.1 hR lT hN bJ
def E5 (h:dN hb m rb S T K w W) (hT:ax w) (bJ:T<=800000000000000):WR 19 #[Wz hb] W (.bool S.bX.isSome) λW'=>dN hb m rb S.step (T+2000000) K w W':=
 vP h hT h.1.G8 λR hh hR lT hN=>Aq hh h.1 hR lT hN bJ
end
end
structure n9 (m:MH) (L:List Nat):Prop where
 slot:m.slot 0
 pos:1<=m.sl 0
 le:m.sl 0<=m.L.length
 ob:m.ob (m.sl 0)=⟨0,L.length,0,L⟩
 jn:L.length<=255
section
variable {m:MH} {L:List Nat} {n i x:Nat}
def n9.fe (h:n9 m L) (hi:i<L.length):m.fe (m.sl 0) i 2=0:=by
 have:=h.pos;have hl:=h.jn;unfold MH.fe;rw[cG,h.ob,b9];unfold Hd.kindOf Hd.Ok;simp only;rw[b9 ⟨by omega,by omega,by omega⟩,cG,iY]
def n9.get (h:n9 m L) (hi:i<L.length):m.get 0 i 2=(L.getD i 0,0):=by
 unfold MH.get MH.fw;rw[b9 h.slot,h.fe hi,b9 rfl,h.ob];rfl
def n9.sum (h:n9 m L) (sm:List Nat->Nat):m.sum sm 0=(sm L,0):=by
 have:=h.pos;unfold MH.sum;rw[b9 h.slot,cG,h.ob];unfold MO.fl;simp
def n9.set (h:n9 m L) (hi:i<L.length):(m.set 0 i 2 x).2=0/\n9 (m.set 0 i 2 x).1 (L.set i x):=by
 have e:m.set 0 i 2 x=(m.kZ (m.sl 0) i x,0):=by
  unfold MH.set;rw[b9 h.slot,h.fe hi,b9 rfl];rfl
 rw[e];refine⟨rfl,h.slot,h.pos,?_,?_,by rw[List.length_set];exact h.jn⟩
 ·show m.sl 0<=(m.L.set _ _).length
  rw[List.length_set];exact h.le
 ·show (m.kZ (m.sl 0) i x).ob (m.sl 0)=_
  rw[MH.EU h.pos h.le _ h.pos,b9 rfl,h.ob,List.length_set]
def n9.alloc (hs:m.slot 0) (h:(m.alloc 0 0 n 0).2=0):n9 (m.alloc 0 0 n 0).1 (List.replicate n 0):=by
 unfold MH.alloc at h ⊢;rw[b9 hs] at h ⊢;by_cases hk:Hd.Ok 0 n 0
 ·rw[b9 hk] at h ⊢
  split at h
  ·next hl=>
   rw[b9 hl];have hsl:((m.new (Int.toNat 0) (Int.toNat n) (Int.toNat 0)).ic (Int.toNat 0) (m.L.length+1)).sl 0=m.L.length+1:=by
    unfold MH.sl MH.ic MH.new;have h0:0<m.S.length:=by have:=hs.2;omega
    rw[List.getD_eq_getElem?_getD];simp[h0]
   refine⟨?_,?_,?_,?_,?_⟩
   ·refine⟨by decide,?_⟩;show (0:Int)<((m.S.set _ _).length:Nat)
    rw[List.length_set];exact hs.2
   ·rw[hsl];omega
   ·rw[hsl];show _<=(m.L++_).length
    simp
   ·rw[hsl];show (m.new (Int.toNat 0) (Int.toNat n) (Int.toNat 0)).ob (m.L.length+1)=_
    rw[MH.ob_last];simp
   ·rw[List.length_replicate];unfold Hd.Ok at hk;omega
  ·cases h
 ·rw[b_ hk] at h
  cases h
end
def E6 (bs:List Nat) {i:Nat} (hi:i<bs.length):(bs.take i++List.replicate (bs.length-i) 0).set i (bs.getD i 0)=bs.take (i+1)++List.replicate (bs.length-(i+1)) 0:=by
 obtain⟨P,x,Q,rfl,rfl⟩:∃P x Q,bs=P++x::Q/\P.length=i:=⟨bs.take i,bs[i],bs.drop (i+1),by rw[←List.drop_eq_getElem_cons hi,List.take_append_drop],by rw[List.length_take];omega⟩
 have e1:(P++x::Q).take P.length=P:=List.take_left;have e2:(P++x::Q).take (P.length+1)=P++ [x]:=by
  rw[show P++x::Q=(P++ [x])++Q by simp,show P.length+1=(P++ [x]).length by simp,List.take_left]
 have e3:(P++x::Q).length-P.length=Q.length+1:=by simp
 have e4:(P++x::Q).length-(P.length+1)=Q.length:=by simp;omega
 have e5:(P++x::Q).getD P.length 0=x:=by simp[List.getD_eq_getElem?_getD]
 rw[e1,e2,e3,e4,e5,List.replicate_succ,List.set_append_right _ _ (Nat.le_refl _),Nat.sub_self,List.set_cons_zero];simp
section
attribute [local go_sem] Oper.semAt_some
def iL.one (c:iL):iL:={c with bV:=max c.bV 1}
section
variable {hb m rb T x:Nat} {S:HS} {K:BL} {w W W':World} {s i:Int}
def dN.kst {R R':BL} (h:dN hb m rb S T (R++K) w W) (d:ag R R' W W'):dN hb m rb S T (R'++K) w W':=by
 obtain⟨hg,J8,hh,D⟩:=h;exact⟨hg,J8,hh,((D.perm (R':=R++(J8++K)) aF).step d).perm aF⟩
def B9 {a:Option Addr} {zs:List Int} (h:j7 .u64 w a zs):(zs.map Int.toNat).length=zs.length/\∀i,i<zs.length->(zs.map Int.toNat).getD i 0<18446744073709551616/\∃b off,a=some ⟨b,off,none⟩/\w.cell? ⟨b,off+i,none⟩=some (.int .u64 ((zs.map Int.toNat).getD i 0:Nat)):=by
 refine⟨List.length_map ..,λi hi=>?_⟩;obtain⟨b,off,ha,hc⟩:=h.cell;have hw:=bounds_u64 (h.each i hi);have e:(zs.map Int.toNat).getD i 0=(zs.getD i 0).toNat:=by
  rw[List.getD_eq_getElem?_getD,List.getD_eq_getElem?_getD,List.getElem?_map,List.getElem?_eq_getElem hi];rfl
 rw[e,Int.toNat_of_nonneg hw.1];refine⟨by omega,b,off,ha.resolve_left λq=>?_,hc i hi⟩;rw[q] at hi;simp at hi
def HS.Good.H8 (h:S.Good):S.step.m=S.m:=by
 cases hk:S.bX with
 | none=>
  have e:S.step=S:=by unfold HS.step;rw[hk]
  rw[e]
 | some k=>exact (h.step hk).2.2.2.1.m
def E8 (h:dN hb m rb S T K w W) (hT:ax w) (bJ:T<=700000000000000) (s i:Int):WR 17 #[Wz hb,s,i] W (.tuple #[.float .f64 (S.m.get s i 2).1,.int .i64 (S.m.get s i 2).2]) λW'=>dN hb m rb (S.get s i 2) (T+2000000) K w W':=
 vP h hT (h.1.get _ _ _).1 λR hh hR lT hN=>iO hh h.1 hR lT hN bJ s i
def E9 (h:dN hb m rb S T K w W) (hT:ax w) (bJ:T<=700000000000000) (s i:Int) (hx:x<18446744073709551616):WR 13 #[Wz hb,s,i,.float .f64 x] W (.int .i64 (S.m.set s i 2 x).2) λW'=>dN hb m rb (S.set s i 2 x x) (T+2000000) K w W':=
 vP h hT (h.1.set (by decide) (by decide) hx _ _).1 λR hh hR lT hN=>hSetFloat_h hh h.1 hR lT hN bJ s i hx
def F7 (h:dN hb m rb S T K w W) (hT:ax w) (bJ:T<=600000000000000) (s:Int):WR 20 #[Wz hb,s] W (.tuple #[.float .f64 (S.m.sum jY s).1,.int .i64 (S.m.sum jY s).2]) λW'=>dN hb m rb (S.sum s) (T+1000000000) K w W':=
 vP h hT (h.1.sum _).1 λR hh hR lT hN=>hSum_h hh h.1 hR lT hN bJ s
def F2 (c:iL) (hi:c.rB) (a:Option Addr) (n cap:Nat) (h:rV c.one 0=true\/¬c.one.ok) (hT:ax w):WR 3 #[.agg c.cells,.slice a n cap] w true λw'=>Below w.heap.size w w':=by
 have HM:=a_ (λW=>made_no c.one hi none 0 0 h W);have FV:=a_ (λW (h:ax W)=>Bt h);have HT:=a_ hT;unfold iL.cells at *;have D0:=a_ ((ag.refl (At.nil (w:=w))).box #[c.kind,c.c_,c.block,c.d_,c.bV,c.aL,c.aE,.float .f64 c.ig] 24);unfold iL.one at HM;obtain⟨kd,pg,bk,wd,sl,st,ah,tg⟩:=c;simp only at *;obtain⟨B,hB⟩:∃B,w.heap.size=B:=⟨_,rfl⟩
 have HB:=a_ hB;rw[hB] at D0;have u4:=an D0.has.head 4 (.int .i64 sl) rfl;have f4:=br D0.has.head 4;have D1:=a_ (D0.set 4 (max sl 1:Int));simp only[ma] at D1;clear h hi hT;go_enter func3,ntmps3
 go_upto_region 1 with fail
 clear hB;generalize World.alloc _ _=w0 at *
 go_upto_region 2 with fail
 generalize World.setCell _ _ _=w1 at *;have q:=D1.has.head;obtain⟨c0,c1,c2,c3,c4,c5,c6,c7, -⟩:=gD q;clear q f4 u4 D0
 go_upto_region 3 with (go_at_call 10;refine (HM _).kq ?_;rintro w2 bp;have D2:=a_ (D1.grow bp);clear bp)
 clear c0 c1 c2 c3 c4 c5 c6 c7
 go_wp2_with (go_at_call 12;refine (FV _ (HT.grow D2.below)).kq ?_;rintro w3 dw;have D3:=a_ (D2.grow dw);clear dw)
 go_ret;exact⟨rfl,HB.out▸D3.below⟩
def C3 (c:iL) (hi:c.rB) (a:Option Addr) (cap:Nat) (zs:List Int) (hz:j7 .u64 w a zs) (hf:rV c.one 0=false) (hok:c.one.ok) (hT:ax w):WR 3 #[.agg c.cells,.slice a zs.length cap] w true λw'=>Below w.heap.size w w':=by
 have HM:=a_ (λW=>made_yes c.one hi none 0 0 hf hok W);have FV:=a_ (λW (h:ax W)=>Bt h);have HT:=a_ hT;have hw:c.one.d_<=2048:=by
  unfold rV at hf;simp only[Bool.or_eq_false_iff,decide_eq_false_iff_not] at hf;omega
 have I7:=hok.hc hw;have HG:=a_ (HS.yp I7);have HS0:=a_ (show (HS.new c.one.hc).m.slot 0 from⟨by decide,by
  show (0:Int)<((List.replicate c.one.hc.bV 0).length:Nat)
  rw[List.length_replicate];have:=I7.bV.1;omega⟩)
 have HZ:=a_ hz;generalize HS.new c.one.hc=S0 at *;unfold iL.cells at *;have D0:=a_ ((ag.refl (At.nil (w:=w))).box #[c.kind,c.c_,c.block,c.d_,c.bV,c.aL,c.aE,.float .f64 c.ig] 24);unfold iL.one at HM;clear hok hf hw I7 hi hT hz;obtain⟨kd,pg,bk,wd,sl,st,ah,tg⟩:=c;simp only at *;obtain⟨B,hB⟩:∃B,w.heap.size=B:=⟨_,rfl⟩
 have HB:=a_ hB;rw[hB] at D0;have u4:=an D0.has.head 4 (.int .i64 sl) rfl;have f4:=br D0.has.head 4;have D1:=a_ (D0.set 4 (max sl 1:Int));simp only[ma] at D1;go_enter func3,ntmps3
 go_upto_region 1 with fail
 clear hB;generalize World.alloc _ _=w0 at *
 go_upto_region 2 with fail
 generalize World.setCell _ _ _=w1 at *;have q:=D1.has.head;obtain⟨c0,c1,c2,c3,c4,c5,c6,c7, -⟩:=gD q;clear q f4 u4 D0
 go_upto_region 3 with (go_at_call 10;refine (HM _).mono ?_;rintro e w2 ⟨hb,m,rb,rfl,R1,h1,d1⟩;have X1:=a_ (G9 (K:= [(B,.cells #[kd,pg,bk,wd,(max sl 1:Int),st,ah,.float .f64 tg] 24 (0,0))]) HG h1 d1 D1);clear h1 d1)
 clear c0 c1 c2 c3 c4 c5 c6 c7 D1 HG HM;have Tz:=a_ (hp_alloc X1 HT (by decide) 0 0 zs.length 0);have hfo:=λh=>n9.alloc (n:=zs.length) HS0 h
 have uD:=(X1.1.alloc S0.c.nC 0 0 zs.length 0).2.1;rw[←uD] at hfo;have HFO:=a_ hfo;generalize (S0.m.alloc 0 0 zs.length 0).2=ac at *;generalize S0.alloc S0.c.nC 0 0 zs.length 0=S1 at *;clear uD hfo HS0;by_cases y9:zs.length<=200
 rotate_left
 ·have k1:¬(zs.length:Int)<=200:=by omega
  have k2:decide (200<(zs.length:Int))=true:=kr;clear y9
  go_wp2_with (go_at_call 12;refine (FV _ (X1.tz HT)).kq ?_;rintro w3 dw;have X2:=a_ (X1.grow dw);clear dw)
  go_ret;exact⟨rfl,X2.below⟩
 have k1:(zs.length:Int)<=200:=by omega
 have k2:decide (200<(zs.length:Int))=false:=dP;by_cases hac:ac=0
 rotate_left
 ·have k3:(ac !=0)=true:=by rw[bne,beq_eq_false_iff_ne.2 hac];rfl
  go_wp2_with (first
   | (go_at_call 11;refine Tz.kq ?_;rintro w3 x2;have X2:=a_ x2;clear x2)
   | (go_at_call 12;refine (FV _ (X2.tz HT)).kq ?_;rintro w4 dw;have X3:=a_ (X2.grow dw);clear dw))
  go_ret;exact⟨rfl,X3.below⟩
 subst hac;have C6:=a_ y9;have F1:=a_ (HFO rfl);have TR:=a_ (λx W=>pM x W);have jB:=a_ (B9 HZ);generalize Vn:zs.map Int.toNat=bs at *;clear HFO HZ y9 k2;generalize hn:zs.length=n at *;clear hn
 go_wp2_with (go_at_call 11;refine Tz.kq ?_;rintro w3 x2;have X2:=a_ x2;clear x2)
 clear Tz X1
 go_loopw [38] (λiv wr=>∃(i:Nat) (S:HS),iv= .int .i64 i/\i<=n/\n9 S.m (bs.take i++List.replicate (n-i) 0)/\dN hb m rb S (30000000000+i*2000000) [(B,.cells #[kd,pg,bk,wd,(max sl 1:Int),st,ah,.float .f64 tg] 24 (0,0))] w wr) (λiv _=>n-(intOf iv).toNat)
 case atStart=>exact⟨0,S1,rfl,by omega,by simpa using F1.out,by rw[Nat.zero_mul];exact X2⟩
 case round=>
  obtain⟨i,S,rfl,hi,hF,hX⟩:=hrel;obtain⟨HF,X3⟩:=aO hF hX;have dX:=jB.1;have y9:=C6.out;clear hF hX X2 F1;by_cases hlt:i<n
  ·obtain⟨F8,CQ,off,rfl,bu⟩:=jB.2 i hlt;have bu:=bA X3.below (Nat.le_refl _) bu;have FZ:=a_ (E9 X3 HT (by omega) 0 i F8);obtain⟨-,Kh⟩:=HF.set (i:=i) (x:=bs.getD i 0) (by rw[List.length_append,List.length_take,List.length_replicate];omega);have hs:=E6 bs (i:=i) (by omega);rw[dX] at hs;rw[hs,←(X3.out.1.set (k:=2) (by decide) (by decide) F8 0 i).2.1] at Kh;have Lj:=a_ Kh;have k3:(i:Int)<n:=by omega
   have HI:=a_ hlt;generalize bs.getD i 0=x at *;clear Kh hs F8 hlt y9 dX
   go_wp2_with (first
    | (go_at_call 14;refine (TR _ _).kq ?_;rintro w4 rfl)
    | (go_at_call 13;refine FZ.kq ?_;rintro w5 x5;have X5:=a_ x5;clear x5))
   go_roundw
   case rel=>exact⟨i+1,_,by go_num,HI,Lj,X5.more (by omega)⟩
   case measure=>have:=HI.out;simp[intOf];omega
  ·have e:i=n:=by omega
   subst e;have Kh:=HF.out;rw[Nat.sub_self,List.replicate_zero,List.append_nil,←dX,List.take_length] at Kh;have Lj:=a_ Kh;have oS:=a_ (B7 (X3.more (T':=31000000000) (by omega)) HT (by decide));have F9:=Kh;rw[←(X3.out.1.dJ).2.1] at F9;have I0:=a_ F9;have JB:=a_ (λW=>A5 W);have k3:¬(i:Int)<i:=by omega
   have s1:=eH ((i:Int)-1);generalize S.dJ=S2 at *;clear Kh F9 hlt HF Lj y9
   go_wp2_with (first
    | (go_at_call 15;refine oS.kq ?_;rintro w4 x4;have X4:=a_ x4;clear x4)
    | (go_at_call 16;refine (JB _).mono ?_;rintro e w5 ⟨J9,rfl,Rr,hr,d5⟩;have HR:=a_ hr;have X5:=a_ (dN.kst (R:= []) X4 d5);clear hr d5))
   clear oS X3 X4
   go_loopw [9] (λiv wr=>∃(v:Int) (j:Nat) (S:HS) (J5:List Nat) (R:BL),iv= .int .i64 v/\v=(j:Int)-1/\j<=i/\n9 S.m bs/\C7 J9 J5 R/\J5.Perm (bs.drop j)/\dN hb m rb S (41000000000+(i-j)*4000000) (R++ [(B,.cells #[kd,pg,bk,wd,(max sl 1:Int),st,ah,.float .f64 tg] 24 (0,0))]) w wr) (λiv _=>(intOf iv+1).toNat)
   case atStart=>exact⟨_,i,S2,[],Rr,rfl,rfl,Nat.le_refl _,I0,HR,by rw[←dX,List.drop_length],by rw[Nat.sub_self,Nat.zero_mul];exact X5⟩
   case round=>
    obtain⟨v,j,S,J5,R,rfl,hv,hj,hF,hr,hp,hX⟩:=hrel;obtain⟨HF,X6,RE,HPY⟩:=qx hF hX hr hp;have kj:=hp.length_eq;rw[List.length_drop] at kj;clear I0 HR X5 hF hr hp hX;by_cases hj0:0<j
    ·obtain⟨j,rfl⟩:∃j',j=j'+1:=⟨j-1,by omega⟩
     obtain rfl:v=(j:Int):=by omega
     have bJ:41000000000+(i-(j+1))*4000000<=100000000000:=by have:=C6.out;omega
     have I1:=E8 X6 HT (by omega) 0 j;rw[HF.out.get (i:=j) (by omega)] at I1;have I1:=a_ I1;have sy:=(jB.2 j (by omega)).1;have Mk:=a_ (λW (hA:At R W)=>A6 RE hA sy (by have:=C6.out;omega));have I8:=HF.out;obtain⟨hgg,hga⟩:=X6.1.get 0 j 2;rw[←hga.m] at I8;have F9:=I8;rw[←hgg.H8] at F9;have I0:=a_ F9;have FW:=a_ (λK W (x:dN hb m rb (S.get 0 j 2) (41000000000+(i-(j+1))*4000000+2000000) K w W)=>E5 x HT (by omega));have hdr:bs.drop j=bs.getD j 0::bs.drop (j+1):=by
      rw[List.drop_eq_getElem_cons (by omega),List.getD_eq_getElem?_getD,List.getElem?_eq_getElem (by omega)];rfl
     obtain⟨GZ,HJ⟩:=aO hdr hj;have k3:(0:Int)<=j:=by omega
     have s2:=eH ((j:Int)-1) (by have:=C6.out;omega);generalize bs.getD j 0=x at *;generalize S.get 0 j 2=S3 at *;clear I8 F9 hga hgg hdr sy bJ kj hv hj hj0 dX
     go_wp2_with (first
      | (go_at_call 17;refine I1.kq ?_;rintro w6 x7;have X7:=a_ x7;clear x7)
      | (go_at_call 18;refine (Mk _ X7.at_.left).kq ?_;rintro w7 ⟨ys',R',GB,VP,d'⟩;have HR3:=a_ GB;have lZ:=a_ VP;have X8:=a_ (X7.kst d');clear GB VP d')
      | (go_at_call 19;refine (FW _ _ X8).kq ?_;rintro w8 x9;have X9:=a_ x9;clear x9))
     go_roundw
     case rel=>exact⟨_,j,_,ys',R',rfl,rfl,by have:=HJ.out;omega,I0,HR3,by rw[GZ.out];exact lZ.trans (HPY.cons x),X9.more (by have:=HJ.out;omega)⟩
     case measure=>simp[intOf]
    ·obtain rfl:j=0:=by omega
     obtain rfl:v= -1:=by omega
     have bJ:41000000000+(i-0)*4000000<=100000000000:=by have:=C6.out;omega
     have JE:=F7 X6 HT (by omega) 0;rw[HF.out.sum] at JE;have JE:=a_ JE;have I2:=HPY.out;rw[List.drop_zero] at I2;have e1:=s9 I2;have e2:J5.length=i:=I2.length_eq.trans dX;have MF:=λW (hR:Has R W)=>A9 RE hR
     have HRL:=λW (hR:Has R W)=>A7 RE hR
     rw[e1] at MF;rw[e2] at HRL;obtain⟨MF,HRL⟩:=aO MF HRL;have PF:=a_ (λW=>B0 (jY bs) W);generalize jY bs=J6 at *;clear e1 e2 I2 kj hv hj0 hj dX bJ
     go_wp2_with (first
      | (go_at_call 20;refine JE.kq ?_;rintro w6 x7;have X7:=a_ x7;clear x7)
      | (go_at_call 22;refine (MF _ X7.has.left).kq ?_;rintro w7 b8;have X8:=a_ (X7.grow b8);clear b8)
      | (go_at_call 21;refine (PF _).kq ?_;rintro w8 rfl)
      | (go_at_call 23;refine (HRL _ X8.has.left).kq ?_;rintro w9 rfl)
      | (go_at_call 12;refine (FV _ (X8.tz HT)).kq ?_;rintro w3 dw;have X9:=a_ (X8.grow dw);clear dw))
     go_ret;exact⟨rfl,X9.below⟩
def F5 (c:iL) (hc:c.JT) (a:Option Addr) (zs:List Int) (cap:Nat) (hz:j7 .u64 w a zs) (hT:ax w):WR 3 #[.agg c.cells,.slice a zs.length cap] w true λw'=>Below w.heap.size w w':=by
 by_cases h:rV c.one 0=false/\c.one.ok
 ·exact C3 c hc.ints a cap zs hz h.1 h.2 hT
 ·refine F2 c hc.ints a zs.length cap ?_ hT;by_cases hf:rV c.one 0=true
  ·exact .inl hf
  ·exact .inr λhok=>h ⟨Bool.eq_false_iff.2 hf,hok⟩
end
end
end Go.Proofs.YtmdgfpeglgpiiaaGreatDoor

import Derived.Test.YtmdgfpeglgpiiaaGreatDoorB05
import Derived.Test.YtmdgfpeglgpiiaaGreatDoorB11
set_option linter.all false
set_option maxRecDepth 100000
set_option maxHeartbeats 16000000
namespace Go.Proofs.YtmdgfpeglgpiiaaGreatDoor
open Go.ChangeShapes Go.WideShapes Go.ChangeAt Go.RowKit Go.Maps Go.Sort
open Vq Oq Go.Proofs.Tryz
section
variable {σ:Type} {step:σ->Nat->σ×Nat}
variable {b:Nat} {zs:List Nat} {R R0 Rst K:BL} {w0 w w':World}
def pW {F:FuncId} {first caps:Array Value} (hF:∀args w,(callFunc F args).run prog w= .ok (.enter F args) w) {I:σ->BL->Prop} {st:σ}
  (hd:∀s x E Rst W,x∈zs->x≠0->I s Rst->ag R0 (E++Rst) w0 W->Calls prog F (first++ #[.int .i64 (x:Nat)]++caps) W λe W'=>e= .returned ((step s x).2:Nat)/\∃Ci,I (step s x).1 Ci/\ag R0 (E++Ci) w0 W')
  (h:dO b zs R) (hI:I st Rst) (hD:ag R0 (R++Rst) w0 w):
  WR 166 #[Wz b,.func (.func F) first caps] w (.tuple #[]) λw'=>∃R' Ci,dO b (aZ step st zs).2 R'/\I (aZ step st zs).1 Ci/\ag R0 (R'++Ci) w0 w':=by
 obtain⟨h1,h2,g,rfl⟩:=h;have c0:=an hD.has.head 0 _ rfl;obtain⟨HI,HDd,HD⟩:=dF hI hd hD;clear hI hd hD;go_enter func166,ntmps166;go_wp2;clear c0
 go_loopw [13] (λiv wr=>∃(m:Nat) (Lx:BL),iv= .int .i64 m/\m<=zs.length/\I (aZ step st (zs.take m)).1 Lx/\ag R0 ((b,WD #[.slice (some ⟨g,0,none⟩) zs.length zs.length] 197)::(g,.cells (ez (nY step st zs m)).toArray 3 (0,0))::Lx) w0 wr) (λiv _=>zs.length-(intOf iv).toNat)
 case atStart=>exact⟨0,Rst,rfl,Nat.zero_le _,HI,HD⟩
 case round=>
  clear HD HI;obtain⟨m,Lx,rfl,hm,hI,hD⟩:=hrel;obtain⟨HI,HD⟩:=aO hI hD;by_cases hlt:m<zs.length
  ·have c0:=an hD.has.head 0 _ rfl;have cm:=an hD.has.tail.head m (.int .i64 (zs[m]:Nat)) (by
    have:=yn (step:=step) st zs m hlt;simp[ez,mJ,this])
   have fm:=br hD.has.tail.head m;have hz:=midT_zero (step:=step) st zs m hlt;have hs:=midT_step (step:=step) st zs m hlt;have hmem:zs[m]∈zs:=List.getElem_mem hlt;clear hI hD;have FK:=yn (step:=step) st zs m hlt;generalize zs[m]=x at *;have JK:=a_ FK;clear FK;have s1:=eH ((m:Int)+1);by_cases h0:x=0
   ·obtain⟨e1,e2⟩:=hz h0;subst h0;obtain⟨E1,E2⟩:=aO e1 e2;clear e1 e2 hz hs;go_wp2
    go_roundw
    case rel=>exact⟨m+1,Lx,by go_num,hlt,by rw[E2.out];exact HI,by rw[E1.out];exact HD⟩
    case measure=>simp[intOf];omega
   ·obtain⟨e1,e2⟩:=hs h0;obtain⟨E1,E2⟩:=aO e1 e2;have g0:((x:Int) !=0)=true:=by simp;omega
    clear e1 e2 hz hs;have E2':=E2;have GX:=a_ (λE W hW=>HDd (aZ step st (zs.take m)).1 x E Lx W hmem h0 HI hW);generalize hst:(aZ step st (zs.take m)).1=sm at *;have CP:=a_ hst;clear hst hmem HI;obtain⟨y,hy⟩:∃y,(step sm x).2=y:=⟨_,rfl⟩
    have gy:(if (y:Int)<0 then (0:Int) else (y:Int))=y:=cG;have Hy:=a_ hy;rw[hy] at GX E1;clear hy
    go_wp2_with (fail)
    have qU:=a_ HD.drew;refine aP (S:=λW=>W.cell? ⟨b,0,none⟩=some (.slice (some ⟨g,0,none⟩) zs.length zs.length)) (by kernel_rfl) c0 (λhHeld=>?_);generalize wr.drew=W1 at *;refine aR 0 ?_;refine aR 1 ?_;refine aR 2 ?_;refine aR 3 ?_;refine aR 4 ?_;refine aR 5 ?_;refine aR 6 ?_;simp only[aI];refine jS 7 (λK hK=>?_);go_simp;refine (GX ((b,WD #[.slice (some ⟨g,0,none⟩) zs.length zs.length] 197)::(g,.cells (ez (nY step st zs m)).toArray 3 (0,0)):: []) W1 qU).kq ?_;rintro w2 ⟨R2,i2,d2⟩;obtain⟨FU,gq⟩:=aO i2 d2;clear i2 d2;refine hK _ _ (an gq.has.head 0 _ rfl) (λhHeld=>?_);clear hK K
    try simp only[aI]
    refine aR 8 ?_;refine aR 9 ?_;simp only[aI];have b1:=an gq.has.tail.head m (.int .i64 (x:Nat)) (by
     have:=JK.out;simp[ez,mJ,this])
    have f1:=br gq.has.tail.head m;refine sD 10 (λK hK=>?_);go_simp;refine hK _ _ ?_;clear hK K
    try simp only[aI]
    have Jt:=a_ (gq.tj.set m (.int .i64 (y:Nat)));clear b1 f1 hHeld gq qU c0 cm fm;have OB:((ez (nY step st zs m)).toArray.setIfInBounds m (.int .i64 (y:Nat)))=(ez ((nY step st zs m).set m y)).toArray:=by
     simp[ez,mJ,List.map_set]
    rw[OB,←E1.out] at Jt;generalize w2.setCell ⟨g,m,none⟩ (.int .i64 (y:Nat))=w3 at *;have Ry:=FU.out;rw[←E2.out] at Ry;have HI4:=a_ Ry;clear Ry OB;go_wp2
    go_roundw
    case rel=>exact⟨m+1,R2,by go_num,hlt,HI4,Jt.tj⟩
    case measure=>simp[intOf];omega
  ·obtain rfl:m=zs.length:=by omega
   have e1:nY step st zs zs.length=(aZ step st zs).2:=by
    unfold nY;rw[List.take_length,List.drop_length,List.append_nil]
   rw[List.take_length] at HI;rw[e1] at HD;have hl:=ka (step:=step) zs st;have Hl:=a_ hl;clear hI hD e1 hl;go_wp2
   go_end0
   refine⟨rfl,(b,WD #[.slice (some ⟨g,0,none⟩) zs.length zs.length] 197):: [(g,.cells (ez (aZ step st zs).2).toArray 3 (0,0))],Lx,⟨by rw[Hl.out];exact h1,by rw[Hl.out];exact h2,g,by rw[Hl.out]⟩,HI,HD⟩
end
def wO (f:Nat->Bool) (c_ q:Nat):Nat->Bool:=λa=>f a && decide (a/c_=q)
def gQ (pre:List (Nat×Nat)) (x j:Nat):Nat->Bool:=λb=>ek pre b || (decide (x<=b) && decide (b<x+j))
def Fi (f:Nat->Bool) (s b:Nat):bj f s b=true↔b=s\/f b=true:=by
 unfold bj;by_cases e:b=s
 ·simp[e]
 ·simp[e]
def cnt_nil (c_ q N:Nat):aG (wO (ek []) c_ q) N=0:=by
 have:wO (ek []) c_ q=λ_=>false:=funext λb=>by unfold wO ek;rfl
 rw[this]
 induction N with
 | zero=>rfl
 | succ n ih=>rw[bM,ih];rfl
section
variable {pre post:List (Nat×Nat)} {x j z c_ N q:Nat} {E:Nat->Nat} {f g:Nat->Bool}
def oY (pre:List (Nat×Nat)) (x:Nat):gQ pre x 0=ek pre:=funext λb=>by
 unfold gQ;rw[Bool.eq_iff_iff];simp only[Bool.or_eq_true,Bool.and_eq_true,decide_eq_true_eq];constructor
 ·rintro (h | h)
  ·exact h
  ·omega
 ·exact .inl
def oX (pre:List (Nat×Nat)) (x z:Nat):gQ pre x z=ek (pre++ [(x,z)]):=funext λb=>by
 unfold gQ ek;rw[List.any_append];simp
def nh (pre:List (Nat×Nat)) (x j:Nat):gQ pre x (j+1)=bj (gQ pre x j) (x+j):=funext λb=>by
 rw[Bool.eq_iff_iff,Fi];unfold gQ;simp only[Bool.or_eq_true,Bool.and_eq_true,decide_eq_true_eq];constructor
 ·rintro (h | h)
  ·exact .inr (.inl h)
  ·by_cases e:b=x+j
   ·exact .inl e
   ·exact .inr (.inr (by omega))
 ·rintro (h | h | h)
  ·exact .inr (by omega)
  ·exact .inl h
  ·exact .inr (by omega)
def addB_step (h:ek pre (x+j)=false) (hN:x+j<N) (q:Nat):aG (wO (gQ pre x (j+1)) c_ q) N=aG (wO (gQ pre x j) c_ q) N+if q=(x+j)/c_ then 1 else 0:=by
 have h0:gQ pre x j (x+j)=false:=by
  unfold gQ;rw[h,Bool.false_or,Bool.and_eq_false_iff];exact .inr dP
 by_cases e:q=(x+j)/c_
 ·rw[b9 e];have e1:wO (gQ pre x (j+1)) c_ q=bj (wO (gQ pre x j) c_ q) (x+j):=funext λb=>by
   rw[Bool.eq_iff_iff,Fi];unfold wO;rw[nh,Bool.and_eq_true,Fi,Bool.and_eq_true,decide_eq_true_eq];constructor
   ·rintro⟨a | a,c⟩
    ·exact .inl a
    ·exact .inr ⟨a,c⟩
   ·rintro (a | ⟨a,c⟩)
    ·exact⟨.inl a,by rw[a,e]⟩
    ·exact⟨.inr a,c⟩
  rw[e1,gu (by unfold wO;rw[h0];rfl),b9 hN]
 ·rw[b_ e,Nat.add_zero];refine cB λb _=>?_
  unfold wO;rw[nh];by_cases eb:b=x+j
  ·subst eb;have:decide ((x+j)/c_=q)=false:=decide_eq_false λz=>e z.symm
   rw[this,Bool.and_false,Bool.and_false]
  ·unfold bj;simp[eb]
def um (h:bS E N) (e:dU E N=pre++(x,z)::post) (hj:j<z):ek pre (x+j)=false:=by
 obtain⟨e1,e2,e3⟩:=eC h e;simp only at e1 e2 e3
 cases hc:ek pre (x+j) with
 | false=>rfl
 | true=>
  unfold ek at hc;rw[List.any_eq_true] at hc;obtain⟨p,hp,hq⟩:=hc;rw[Bool.and_eq_true,decide_eq_true_eq,decide_eq_true_eq] at hq;have hm:p∈dU E N:=by rw[e];exact List.mem_append_left _ hp
  unfold dU at hm e;obtain⟨s,hs,rfl⟩:=List.mem_map.1 hm;have hsx:s=x:=bS.one h (a:=s) (b:=x) (x:=x+j) ⟨hq.1,hq.2⟩ ⟨by omega,by rw[←e1];omega⟩;have Ku:=congrArg (List.map Prod.fst) e;rw[List.map_map,List.map_append,List.map_cons] at Ku;have a_:(cN (gL E) N).map (Prod.fst ∘ λs=>(s,E s))=cN (gL E) N:=by
   have:(Prod.fst ∘ λs:Nat=>(s,E s))=id:=rfl;rw[this,List.map_id]
  rw[a_] at Ku;have hnd:(cN (gL E) N).Nodup:=List.Nodup.sublist List.filter_sublist List.nodup_range;rw[Ku,List.nodup_append] at hnd;exact absurd rfl (hnd.2.2 x (by rw[←hsx];exact List.mem_map_of_mem (f:=Prod.fst) hp) x (List.mem_cons_self ..))
def DN (f g:Nat->Bool) (N:Nat):∀M,M<=N->aG (λi=>g (qR f N i)) (aG f M)=aG (λa=>f a && g a) M
 | 0,_=>rfl
 | M+1,hM=>by
  have ih:=DN f g N M (by omega);rw[bM (f:=f),bM (f:=λa=>f a && g a),←ih]
  cases hf:f M with
  | false=>simp
  | true=>
   have hlt:aG f M<aG f N:=by
    have h1:aG f (M+1)<=aG f N:=cT f hM;rw[bM,hf] at h1;simp only[if_true] at h1;omega
   obtain⟨p1,p2,p3⟩:=rq (f:=f) (n:=N) hlt;have hp:qR f N (aG f M)=M:=by
    rcases Nat.lt_trichotomy (qR f N (aG f M)) M with q | q | q
    ·have h1:aG f (qR f N (aG f M)+1)<=aG f M:=cT f q;rw[bM,p2,p3] at h1;simp only[if_true] at h1;omega
    ·exact q
    ·have h1:aG f (M+1)<=aG f (qR f N (aG f M)):=cT f q;rw[bM,hf,p3] at h1;simp only[if_true] at h1;omega
   simp only[if_true,Bool.true_and];rw[bM,hp]
def Ar (f:Nat->Nat):∀zs:List Nat,(aZ (λ(_:Unit) x=>((),f x)) () zs).2=zs.map λx:Nat=>if x=0 then 0 else f x
 | []=>rfl
 | x::l=>by
  rw[aZ,List.map_cons,←Ar f l];by_cases h:x=0
  ·rw[b9 h,b9 h]
  ·rw[b_ h,b_ h]
def rN:∀n,aG (λ_=>false) n=0
 | 0=>rfl
 | n+1=>by rw[bM,rN n];rfl
def nxt_first (n:Nat):dV (λ_=>true) 0 n=0:=by
 cases n<;>rfl
def DS (y:aJ) (h:bS y.E y.d_) (q:Nat):y.cw (λ_=>true) q=aG (wO (ek (dU y.E y.d_)) y.c_ q) y.d_:=by
 rw[vF h];have:=DN (dI y.E) (λa=>decide (a/y.c_=q)) y.d_ y.d_ (Nat.le_refl _);unfold aJ.cw wO;rw[←this];rfl
def cyc_new {cb m pb ob vb wb sb nb nw ns:Nat} {mw ms:Int->Option Value} {ow os:Obj} {Rp Ro:BL} (y:aJ) (hnb:y.nb=nb) (kj:fK pb y.d_ y.c.block y.E y.c.to Rp) (ho:dg ob y.d_ y.E Ro) (hw:VM nw mw ow) (hn:nw<=1048576)
  (hm:∀q:Nat,q<=y.d_->(mw q).getD (.int .i64 0)= .int .i64 (aG (wO (ek (dU y.E y.d_)) y.c_ q) y.d_:Nat)) (hs:VM ns ms os)
  (hh:∀p∈dU y.E y.d_,ms ((p.1:Nat):Int)=some (Hd.hv (Hd.tp (y.g p.1)) (Hd.tf (y.g p.1)) (Hd.to (y.g p.1)))):
  mW cb m y (λ_=>false) ((cb,.cells #[.pointer (some ⟨m,0,none⟩),.int .i64 y.c.cq,.int .i64 y.c.top,.int .i64 y.c.to,.int .i64 y.c.aT,.int .i64 y.c.block,.int .i64 y.c.aL,.int .i64 y.c.aE,
    .pointer (some ⟨pb,0,none⟩),.pointer (some ⟨ob,0,none⟩),.slice (some ⟨vb,0,none⟩) nb nb,.int .i64 nb,.int .i64 0,.int .i64 0,.map (some wb),.map (some sb)] 219 (0,0))::
   (vb,.cells (aK (λ_=>false) nb).toArray 4 (0,0))::(wb,ow)::(sb,os)::(Rp++Ro)):=by
 have e1:y.nb-aG (λ_=>false) y.nb=nb:=by rw[rN,hnb];rfl
 have e2:y.fr (λ_=>false)=0:=by unfold aJ.fr;exact nxt_first _
 have e3:y.ah (λ_=>false)=0:=by unfold aJ.ah;rw[rN,e2]
 have e4:y.un (λ_=>false)=λ_=>true:=rfl
 unfold mW;rw[e1,e2,e3,e4];refine⟨pb,ob,vb,wb,sb,nw,mw,ow,ns,ms,os,Rp,Ro,by rw[hnb];rfl,kj,ho,⟨hw,?_,λq hq=>?_⟩,hs,λs h=>?_⟩
 ·have h1:=bE (λ_=>true) y.aq;have h2:y.aq<=y.d_:=eE _ _;have:=ho.ij.2;omega
 ·rw[hm q hq,←DS y ho.ok]
 ·have hmem:(s,y.E s)∈dU y.E y.d_:=by
   unfold dU cN;refine List.mem_map.2 ⟨s,List.mem_filter.2 ⟨List.mem_range.2 ?_,(dR).2 h⟩,rfl⟩;have:=ho.ok.fits s h;omega
  exact hh _ hmem
end
section
attribute [local go_sem] Oper.semAt_some
def aC {f:Nat->Bool} {i j:Nat} (h:f j=true):GN f i j=true:=by
 unfold GN
 split
 ·rfl
 ·exact h
def iB {c:Bool} (h:¬c=true):c=false:=by simpa using h
def bl (c:Bool) (x:Nat×Obj):BL:=if c=true then [x] else []
abbrev xy (m F T O L B S A pb ob vb nb wb sb:Nat):Array Value:= #[.pointer (some ⟨m,0,none⟩),.int .i64 F,.int .i64 T,.int .i64 O,.int .i64 L,.int .i64 B,.int .i64 S,.int .i64 A,
 .pointer (some ⟨pb,0,none⟩),.pointer (some ⟨ob,0,none⟩),.slice (some ⟨vb,0,none⟩) nb nb,.int .i64 nb,.int .i64 0,.int .i64 0,.map (some wb),.map (some sb)]
def JO (R0 K:BL) (w0:World) (m F T O L B S A pb ob nb:Nat) (A0:Act) (f:Nat->Bool) (a:Act) (W:World):Prop:=
 ∃(vo yW yX yY yZ za zb zc ze zf zg zh zi zj:Value) (vb wb sb cb yb:Nat),a=((((((((((((((A0.put (some 13) vo).put (some 55) yW).put (some 56) yX).put (some 57) yY).put (some 58) yZ).put (some 59) za).put (some 60) zb).put (some 61) zc).put (some 62) ze).put (some 63) zf).put (some 64) zg).put (some 65) zh).put (some 66) zi).put (some 67) zj)/\(f 0=true->yW= .pointer (some ⟨m,0,none⟩))/\(f 1=true->yX= .agg #[F,T,O,L,B,S,A])/\(f 2=true->yY= .pointer (some ⟨pb,0,none⟩))/\(f 3=true->yZ= .pointer (some ⟨ob,0,none⟩))/\(f 4=true->za= .pointer (some ⟨pb,0,none⟩))/\(f 5=true->zb= .int .i64 nb)/\(f 6=true->zc= .slice (some ⟨vb,0,none⟩) nb nb)/\(f 7=true->ze= .pointer (some ⟨pb,0,none⟩))/\(f 8=true->zf= .int .i64 nb)/\(f 9=true->zg= .map (some wb))/\(f 10=true->zh= .map (some sb))/\(f 11=true->zi= .agg (xy m F T O L B S A pb ob vb nb wb sb))/\(f 12=true->zj= .pointer (some ⟨cb,0,none⟩))/\(f 13=true->vo= .pointer (some ⟨yb,0,none⟩))/\((f 11=true->f 6=true/\f 9=true/\f 10=true)/\(f 12=true->f 11=true)/\(f 14=true->f 12=true/\f 13=true))/\
  ag R0 (bl (f 6) (vb,.cells (aK (λ_=>false) nb).toArray 4 (0,0))++(bl (f 9) (wb,.map #[] 0)++(bl (f 10) (sb,.map #[] 0)++(bl (f 12) (cb,.cells (xy m F T O L B S A pb ob vb nb wb sb) 219 (0,0))++(bl (f 13) (yb,.cells #[if f 14=true then .pointer (some ⟨cb,0,none⟩) else .pointer none] 95 (0,0))++K))))) w0 W
def bool_info':(prog.info? 4).map (λi=>(i.zero,i.size,i.bytes))=some (some (.bool false),1,1):=by kernel_rfl
def made_bools (n:Nat):madeCells (Value.bool false).cells (n*1)=(aK (λ_=>false) n).toArray:=by
 apply Array.toList_inj.1;rw[Nat.mul_one];show (madeCells #[Value.bool false] n).toList=_
 rw[toList_madeCells_one];unfold aK;apply List.ext_getElem?;intro i;rw[List.getElem?_replicate,List.getElem?_map];by_cases h:i<n
 ·rw[b9 h,List.getElem?_range h];rfl
 ·rw[b_ h,List.getElem?_eq_none (by simpa using h)];rfl
def nbl_leQ (n:Nat) {z:Nat} (hz:1<=z):gY n z<=n:=by
 unfold gY;have h:(n+z-1)/z<n+1:=by
  rw[Nat.div_lt_iff_lt_mul (by omega),Nat.add_mul,Nat.one_mul];have:=Nat.le_mul_of_pos_right n (show 0<z by omega);omega
 omega
def gl {P:Program} {f:FuncId} {args:Array Value} {w:World} {n:Nat} {v:Value} (h:Calls P f args (w.drewN n) λe w'=>e= .returned v/\w.drewN n=w'):
  Calls P f args (w.drewN n) λe Mi=>e= .returned v/\∃m,Mi=w.drewN m:=h.mono λ_ _ ⟨he,hm⟩=>⟨he,n,hm.symm⟩
def pfwd_c {pb fb:Nat} (w:World) (c0:w.cell? ⟨pb,0,none⟩=some (.pointer (some ⟨fb,0,none⟩))):
  WR 217 #[Wz pb] w (Wz fb) λw'=>w=w':=by
 go_enter func217,ntmps217;go_wp2;go_ret;exact⟨rfl,rfl⟩
section
variable {m d_ c_ e_ t rb:Nat} {v:VS} {Rm Rr:BL} {zs:List Nat} {St:Nat->Prop} {w w':World} {c:eZ}
def open_s (h:aH m d_ c_ e_ t v Rm) (hr:dO rb zs Rr) (hw:Whole v.wd St (cR d_ c_ v) d_) (hz:∀a∈zs,a=0\/St a) (hfit:∀a,St a->c.cq<=a/\a+bC (v.wd a)<=c.top)
  (hc:c.Ok c_ d_) (hp:Fr.dp c_) (tN:1<=c_) (fZ:1<=d_/\d_<=1000000) (oO:c.to<2147483648) (Cv:bB (aj v.wd zs) d_<=c.aT-c.to) (hR:At (Rm++Rr) w) (hT:ax w) (hg:aD (Rm++Rr)):
  WA 133 #[Wz m,Wz rb,.agg c.cells] w λe w'=>∃cb,e= .returned (.tuple #[Wz cb,Wy])/\∃bI fG Rc,
   aH m d_ c_ e_ t (fA (d_/c_) (λq=>decide ((⟨d_,c_,e_,c,aj v.wd zs,v.wd⟩:aJ).cw (λ_=>true) q=0)) (c.cq/c_) ((c.top+c_-1)/c_-c.cq/c_) v) bI/\
   dO rb (zs.map λx:Nat=>if x=0 then 0 else (⟨d_,c_,e_,c,aj v.wd zs,v.wd⟩:aJ).to x) fG/\mW cb m ⟨d_,c_,e_,c,aj v.wd zs,v.wd⟩ (λ_=>false) Rc/\ag (Rm++Rr) (bI++(fG++Rc)) w w':=by
 have hst:=hc.aL;have zE:=a_ (λW (hW:Has Rr W)=>wI (w:=W) hr hW);have vS:1<=zs.length:=hr.1;have qT:=a_ (λK W (hd:ag (Rm++Rr) (Rm++K) w W)=>AM (w:=W) h hd.at_.left ⟨tN,fZ.2⟩ hp hc);have Fw:=a_ (λK W (hd:ag (Rm++Rr) ((Rm++Rr)++K) w W)=>reached_s (w:=W) h hr hw hz hfit hst ⟨fZ.1,Nat.le_trans fZ.2 (by decide)⟩ hd.at_.left (hd.tz hT hg) hg);have CE:(zs.length:Int)≠0:=by omega
 have Mf:((zs.length:Int)==0)=false:=by rw[beq_eq_false_iff_ne];exact CE
 have D0:=a_ ((((ag.refl hR).box #[Wz m] 92).box c.cells 126).perm (R':=Rm++(Rr++ [((w.alloc (.cells #[Wz m] 92)).heap.size,.cells c.cells 126 (0,0)),(w.heap.size,.cells #[Wz m] 92 (0,0))])) aF);have kj:∀(ob:Nat) (Ro K:BL) (W:World) (ho:dg ob d_ (aj v.wd zs) Ro) (hd:ag (Rm++Rr) (Ro++K) w W),WA 216 #[Wz ob,c.block,c.to] W λe w'=>∃b,e= .returned (.tuple #[Wz b,Wy])/\∃R',fK b d_ c.block (aj v.wd zs) c.to R'/\ag Ro (R'++Ro) W w':=
  λob Ro K W ho hd=>plan_new ho hd.at_.left (hd.tz hT hg) (aD.app.1 (hd.cK hT hg)).1 hc.CQ oO
 have Ho:=a_ kj;have JB:=a_ hR.left.2;obtain⟨HT,Hg,H,Hr,Hw,Hz,Hc⟩:=Et hT hg h hr hw hz hc;have ey:=hc.to.2.1;have hlims:=hc.to.2.2;obtain⟨E,hE⟩:∃E,aj v.wd zs=E:=⟨_,rfl⟩
 rw[hE] at Cv Fw Ho;have HE:=a_ hE;have g1:decide (((c.aT:Int)-c.to)<(bB E d_:Nat))=false:=dP;have Nv:¬((c.aT:Int)-c.to)<(bB E d_:Nat):=by omega
 have s1:=eH ((c.aT:Int)-c.to);obtain⟨F,T,O,L,B,S,A⟩:=c;unfold eZ.cells at *;simp only at *;rw[hE];have Hh:=a_ (And.intro fZ (And.intro oO Cv));clear h hr hw hz hfit hc hT hg hR hst kj hE fZ oO Cv ey hlims vS;rw[aU] at D0;refine (callsIn_wide (n:=3)).1 ?_;refine callsIn_of_wp_marks func133 rfl trivial ?_ rfl;simp only[ntmps133,List.size_toArray,List.length_cons,List.length_nil,Nat.reduceAdd,Nat.reduceSub,Array.replicate_succ,Array.replicate_zero,List.push_toArray,List.append_toArray,List.nil_append,List.cons_append];refine wpIn_wide.2 ?_
 go_wp2_with (first
  | (go_at_call 213;refine (zE _ D0.has.right.left).kq ?_;rintro w1 rfl)
  | (go_at_call 214;refine (qT _ _ D0).kq ?_;rintro w1 hb;have D1:=a_ (D0.grow hb);clear hb;have a0:w1.cell? ⟨w.heap.size+1,0,none⟩=some (.int .i64 F):=an D1.has.right.right.head 0 _ rfl;have a1:w1.cell? ⟨w.heap.size+1,1,none⟩=some (.int .i64 T):=an D1.has.right.right.head 1 _ rfl;have a2:w1.cell? ⟨w.heap.size+1,2,none⟩=some (.int .i64 O):=an D1.has.right.right.head 2 _ rfl;have a3:w1.cell? ⟨w.heap.size+1,3,none⟩=some (.int .i64 L):=an D1.has.right.right.head 3 _ rfl;have a4:w1.cell? ⟨w.heap.size+1,4,none⟩=some (.int .i64 B):=an D1.has.right.right.head 4 _ rfl;have a5:w1.cell? ⟨w.heap.size+1,5,none⟩=some (.int .i64 S):=an D1.has.right.right.head 5 _ rfl;have a6:w1.cell? ⟨w.heap.size+1,6,none⟩=some (.int .i64 A):=an D1.has.right.right.head 6 _ rfl;have am:w1.cell? ⟨w.heap.size,0,none⟩=some (.pointer (some ⟨m,0,none⟩)):=an D1.has.right.right.tail.head 0 _ rfl)
  | (go_at_call 215;refine (Fw [(w.heap.size+1,.cells #[F,T,O,L,B,S,A] 126 (0,0)),(w.heap.size,.cells #[Wz m] 92 (0,0))] _ (D1.perm aF)).mono ?_;rintro e w2 ⟨ob,rfl,Ro,o2,d2⟩;have O2:=a_ o2;have D2:=a_ (D1.bh d2);clear o2 d2 a0 a1 a2 a3 a4 a5 a6 am;have b0:w2.cell? ⟨w.heap.size+1,0,none⟩=some (.int .i64 F):=an D2.has.right.right.right.head 0 _ rfl;have b1:w2.cell? ⟨w.heap.size+1,1,none⟩=some (.int .i64 T):=an D2.has.right.right.right.head 1 _ rfl;have b2:w2.cell? ⟨w.heap.size+1,2,none⟩=some (.int .i64 O):=an D2.has.right.right.right.head 2 _ rfl;have b3:w2.cell? ⟨w.heap.size+1,3,none⟩=some (.int .i64 L):=an D2.has.right.right.right.head 3 _ rfl;have b4:w2.cell? ⟨w.heap.size+1,4,none⟩=some (.int .i64 B):=an D2.has.right.right.right.head 4 _ rfl;have b5:w2.cell? ⟨w.heap.size+1,5,none⟩=some (.int .i64 S):=an D2.has.right.right.right.head 5 _ rfl;have b6:w2.cell? ⟨w.heap.size+1,6,none⟩=some (.int .i64 A):=an D2.has.right.right.right.head 6 _ rfl;have bm:w2.cell? ⟨w.heap.size,0,none⟩=some (.pointer (some ⟨m,0,none⟩)):=an D2.has.right.right.right.tail.head 0 _ rfl)
  | (go_at_call 216;refine (Ho ob Ro _ _ O2 D2).mono ?_;rintro e w3 ⟨pb,rfl,Rp,p3,d3⟩;have P3:=a_ p3;have D3:=a_ (D2.step d3);clear p3 d3 b0 b1 b2 b3 b4 b5 b6 bm;have e0:w3.cell? ⟨w.heap.size+1,0,none⟩=some (.int .i64 F):=an D3.has.right.right.right.head 0 _ rfl;have e1:w3.cell? ⟨w.heap.size+1,1,none⟩=some (.int .i64 T):=an D3.has.right.right.right.head 1 _ rfl;have e2:w3.cell? ⟨w.heap.size+1,2,none⟩=some (.int .i64 O):=an D3.has.right.right.right.head 2 _ rfl;have e3:w3.cell? ⟨w.heap.size+1,3,none⟩=some (.int .i64 L):=an D3.has.right.right.right.head 3 _ rfl;have e4:w3.cell? ⟨w.heap.size+1,4,none⟩=some (.int .i64 B):=an D3.has.right.right.right.head 4 _ rfl;have e5:w3.cell? ⟨w.heap.size+1,5,none⟩=some (.int .i64 S):=an D3.has.right.right.right.head 5 _ rfl;have e6:w3.cell? ⟨w.heap.size+1,6,none⟩=some (.int .i64 A):=an D3.has.right.right.right.head 6 _ rfl;have em:w3.cell? ⟨w.heap.size,0,none⟩=some (.pointer (some ⟨m,0,none⟩)):=an D3.has.right.right.right.tail.head 0 _ rfl))
 obtain⟨fb,Rf,sd,hf⟩:=P3.out;have Mr:=a_ (λW (hW:Has Rp W)=>pfwd_c (pb:=pb) (fb:=fb) W (by rw[sd] at hW;exact an hW.head 0 _ rfl));have TH:=a_ (λW (hW:At Rp W)=>rY (w:=W) hf (by rw[sd] at hW;exact hW.tail));clear hf sd
 go_quiet ((first | (go_at_call 217;exact gl (Mr _ (D3.grow (Fr.aA _ _)).has.left.left)) | (go_at_call 218;exact gl (TH _ (D3.grow (Fr.aA _ _)).at_.left.left))))
 go_wp2;have D4:=a_ ((D3.grow (Fr.aA nq w3)).perm (R':=Rp++(Ro++(Rm++(Rr++ [(w.heap.size+1,.cells #[F,T,O,L,B,S,A] 126 (0,0)),(w.heap.size,.cells #[Wz m] 92 (0,0))])))) aF);clear e0 e1 e2 e3 e4 e5 e6 em D3 D2 D1 D0 qT Fw zE Mr TH g1 s1 Nv;generalize w3.drewN nq=w4 at *;obtain⟨bm,Kn⟩:∃bm,w.heap.size=bm:=⟨_,rfl⟩
 obtain⟨bc,SC⟩:∃bc,w.heap.size+1=bc:=⟨_,rfl⟩
 rw[SC,Kn] at D4;rw[SC,Kn];obtain⟨nb,hnb⟩:∃nb,gY (bB E d_) B=nb:=⟨_,rfl⟩
 have Mn:=a_ (λW (hW:At (Rp++(Ro++(Rm++(Rr++ [(bc,.cells #[F,T,O,L,B,S,A] 126 (0,0)),(bm,.cells #[Wz m] 92 (0,0))])))) W)=>(show WR 219 #[Wz pb] W nb λw'=>Below W.heap.size W w' from by
  have:=qE (w:=W) P3 hW.left;rw[hnb] at this;exact this))
 have RP:=a_ hnb;have hnb2:nb<=1048576:=by
  have h1:=nbl_leQ (bB E d_) Hc.CQ.le.1;have h2:=eE E d_;have h3:=Hh.1.2;have Ka:gY (bB E d_) B<=bB E d_:=h1;omega
 obtain⟨i0,Kw,hz0,vR,OM⟩:=info_parts bool_info';have nP:∀W:World,(Instr.makeSlice 216 (.int .i64 nb) (.int .i64 nb)).run prog W= .ok (.slice (some ⟨W.heap.size,0,none⟩) nb nb) (W.alloc (.cells (aK (λ_=>false) nb).toArray 4)):=λW=>by
  have h:=run_make (P:=prog) W 216 4 i0 (.bool false) underlying216 Kw hz0 .i64 .i64 (nb:Int) (nb:Int) (by omega) (by omega) (by rw[OM];omega) (by omega);rw[vR,Int.toNat_natCast,made_bools] at h;exact h
 clear hnb Kn SC;refine wp_region_invA (J:=JO (Rm++Rr) (Rp++(Ro++(Rm++(Rr++ [(bc,.cells #[F,T,O,L,B,S,A] 126 (0,0)),(bm,.cells #[Wz m] 92 (0,0))])))) w m F T O L B S A pb ob nb) (by kernel_rfl) (by decide+kernel) ?start ?step ?fin
 case start=>
  refine⟨undef,undef,undef,undef,undef,undef,undef,undef,undef,undef,undef,undef,undef,undef,0,0,0,0,0,by (simp only[aI]<;>rfl),(λq=>by cases q),(λq=>by cases q),(λq=>by cases q),(λq=>by cases q),(λq=>by cases q),(λq=>by cases q),(λq=>by cases q),(λq=>by cases q),(λq=>by cases q),(λq=>by cases q),(λq=>by cases q),(λq=>by cases q),(λq=>by cases q),(λq=>by cases q),⟨λq=>(by cases q),λq=>(by cases q),λq=>(by cases q)⟩,?_⟩;exact D4.drew
 case step=>
  intro i f a' W hi hJ uA nL;obtain⟨vo,yW,yX,yY,yZ,za,zb,zc,ze,zf,zg,zh,zi,zj,vb,wb,sb,cb,yb,rfl,h0,h1,h2,h3,h4,h5,h6,h7,h8,h9,mV,oM,nI,qs,bu,hD⟩:=hJ;have qw:i<15:=hi;have:i=0\/i=1\/i=2\/i=3\/i=4\/i=5\/i=6\/i=7\/i=8\/i=9\/i=10\/i=11\/i=12\/i=13\/i=14:=by omega
  clear hi qw;replace h0:=a_ h0;replace h1:=a_ h1;replace h2:=a_ h2;replace h3:=a_ h3;replace h4:=a_ h4;replace h5:=a_ h5;replace h6:=a_ h6;replace h7:=a_ h7;replace h8:=a_ h8;replace h9:=a_ h9;replace mV:=a_ mV;replace oM:=a_ oM;replace nI:=a_ nI;replace qs:=a_ qs;replace bu:=a_ bu;rcases this with rfl | rfl | rfl | rfl | rfl | rfl | rfl | rfl | rfl | rfl | rfl | rfl | rfl | rfl | rfl
  ·refine wpOp_step rfl (λK' hK=>?_);have cm:W.cell? ⟨bm,0,none⟩=some (.pointer (some ⟨m,0,none⟩)):=an (hD.has.right.right.right.right.right.right.right.right.right.tail.head) 0 _ rfl;go_simp;refine hK _ _ ⟨vo,(.pointer (some ⟨m,0,none⟩)),yX,yY,yZ,za,zb,zc,ze,zf,zg,zh,zi,zj,vb,wb,sb,cb,yb,by (simp only[aI]<;>rfl),(λ_=>rfl),(aB h1.out),(aB h2.out),(aB h3.out),(aB h4.out),(aB h5.out),(aB h6.out),(aB h7.out),(aB h8.out),(aB h9.out),(aB mV),(aB oM),(aB nI),(aB qs),⟨λq=>(by rw[ao (show 11≠0 by decide)] at q;exact⟨aC (bu.1 q).1,aC (bu.1 q).2.1,aC (bu.1 q).2.2⟩),λq=>(by rw[ao (show 12≠0 by decide)] at q;exact aC (bu.2.1 q)),λq=>(by rw[ao (show 14≠0 by decide)] at q;exact⟨aC (bu.2.2 q).1,aC (bu.2.2 q).2⟩)⟩,?_⟩;rw[WC 6 0];rw[WC 9 0];rw[WC 10 0];rw[WC 12 0];rw[WC 13 0];rw[WC 14 0];exact hD
  ·refine wpOp_step rfl (λK' hK=>?_);have c0:W.cell? ⟨bc,0,none⟩=some (.int .i64 F):=an (hD.has.right.right.right.right.right.right.right.right.right.head) 0 _ rfl;have c1:W.cell? ⟨bc,1,none⟩=some (.int .i64 T):=an (hD.has.right.right.right.right.right.right.right.right.right.head) 1 _ rfl;have c2:W.cell? ⟨bc,2,none⟩=some (.int .i64 O):=an (hD.has.right.right.right.right.right.right.right.right.right.head) 2 _ rfl;have c3:W.cell? ⟨bc,3,none⟩=some (.int .i64 L):=an (hD.has.right.right.right.right.right.right.right.right.right.head) 3 _ rfl;have c4:W.cell? ⟨bc,4,none⟩=some (.int .i64 B):=an (hD.has.right.right.right.right.right.right.right.right.right.head) 4 _ rfl;have c5:W.cell? ⟨bc,5,none⟩=some (.int .i64 S):=an (hD.has.right.right.right.right.right.right.right.right.right.head) 5 _ rfl;have c6:W.cell? ⟨bc,6,none⟩=some (.int .i64 A):=an (hD.has.right.right.right.right.right.right.right.right.right.head) 6 _ rfl;go_simp;refine hK _ _ ⟨vo,yW,(.agg #[F,T,O,L,B,S,A]),yY,yZ,za,zb,zc,ze,zf,zg,zh,zi,zj,vb,wb,sb,cb,yb,by (simp only[aI]<;>rfl),(aB h0.out),(λ_=>rfl),(aB h2.out),(aB h3.out),(aB h4.out),(aB h5.out),(aB h6.out),(aB h7.out),(aB h8.out),(aB h9.out),(aB mV),(aB oM),(aB nI),(aB qs),⟨λq=>(by rw[ao (show 11≠1 by decide)] at q;exact⟨aC (bu.1 q).1,aC (bu.1 q).2.1,aC (bu.1 q).2.2⟩),λq=>(by rw[ao (show 12≠1 by decide)] at q;exact aC (bu.2.1 q)),λq=>(by rw[ao (show 14≠1 by decide)] at q;exact⟨aC (bu.2.2 q).1,aC (bu.2.2 q).2⟩)⟩,?_⟩;rw[WC 6 1];rw[WC 9 1];rw[WC 10 1];rw[WC 12 1];rw[WC 13 1];rw[WC 14 1];exact hD
  ·refine wpOp_step rfl (λK' hK=>?_);go_simp;refine hK _ _ ⟨vo,yW,yX,(.pointer (some ⟨pb,0,none⟩)),yZ,za,zb,zc,ze,zf,zg,zh,zi,zj,vb,wb,sb,cb,yb,by (simp only[aI]<;>rfl),(aB h0.out),(aB h1.out),(λ_=>rfl),(aB h3.out),(aB h4.out),(aB h5.out),(aB h6.out),(aB h7.out),(aB h8.out),(aB h9.out),(aB mV),(aB oM),(aB nI),(aB qs),⟨λq=>(by rw[ao (show 11≠2 by decide)] at q;exact⟨aC (bu.1 q).1,aC (bu.1 q).2.1,aC (bu.1 q).2.2⟩),λq=>(by rw[ao (show 12≠2 by decide)] at q;exact aC (bu.2.1 q)),λq=>(by rw[ao (show 14≠2 by decide)] at q;exact⟨aC (bu.2.2 q).1,aC (bu.2.2 q).2⟩)⟩,?_⟩;rw[WC 6 2];rw[WC 9 2];rw[WC 10 2];rw[WC 12 2];rw[WC 13 2];rw[WC 14 2];exact hD
  ·refine wpOp_step rfl (λK' hK=>?_);go_simp;refine hK _ _ ⟨vo,yW,yX,yY,(.pointer (some ⟨ob,0,none⟩)),za,zb,zc,ze,zf,zg,zh,zi,zj,vb,wb,sb,cb,yb,by (simp only[aI]<;>rfl),(aB h0.out),(aB h1.out),(aB h2.out),(λ_=>rfl),(aB h4.out),(aB h5.out),(aB h6.out),(aB h7.out),(aB h8.out),(aB h9.out),(aB mV),(aB oM),(aB nI),(aB qs),⟨λq=>(by rw[ao (show 11≠3 by decide)] at q;exact⟨aC (bu.1 q).1,aC (bu.1 q).2.1,aC (bu.1 q).2.2⟩),λq=>(by rw[ao (show 12≠3 by decide)] at q;exact aC (bu.2.1 q)),λq=>(by rw[ao (show 14≠3 by decide)] at q;exact⟨aC (bu.2.2 q).1,aC (bu.2.2 q).2⟩)⟩,?_⟩;rw[WC 6 3];rw[WC 9 3];rw[WC 10 3];rw[WC 12 3];rw[WC 13 3];rw[WC 14 3];exact hD
  ·refine wpOp_step rfl (λK' hK=>?_);go_simp;refine hK _ _ ⟨vo,yW,yX,yY,yZ,(.pointer (some ⟨pb,0,none⟩)),zb,zc,ze,zf,zg,zh,zi,zj,vb,wb,sb,cb,yb,by (simp only[aI]<;>rfl),(aB h0.out),(aB h1.out),(aB h2.out),(aB h3.out),(λ_=>rfl),(aB h5.out),(aB h6.out),(aB h7.out),(aB h8.out),(aB h9.out),(aB mV),(aB oM),(aB nI),(aB qs),⟨λq=>(by rw[ao (show 11≠4 by decide)] at q;exact⟨aC (bu.1 q).1,aC (bu.1 q).2.1,aC (bu.1 q).2.2⟩),λq=>(by rw[ao (show 12≠4 by decide)] at q;exact aC (bu.2.1 q)),λq=>(by rw[ao (show 14≠4 by decide)] at q;exact⟨aC (bu.2.2 q).1,aC (bu.2.2 q).2⟩)⟩,?_⟩;rw[WC 6 4];rw[WC 9 4];rw[WC 10 4];rw[WC 12 4];rw[WC 13 4];rw[WC 14 4];exact hD
  ·refine wpOp_step rfl (λK' hK=>?_);have q4:f 4=true:=nL 4 (by decide+kernel);obtain rfl:=h4.out q4;go_simp;refine (Mn W (hD.at_.right.right.right.right.right)).kq ?_;rintro W2 hb;have hD:=hD.grow hb;refine hK _ _ ⟨vo,yW,yX,yY,yZ,(.pointer (some ⟨pb,0,none⟩)),(.int .i64 nb),zc,ze,zf,zg,zh,zi,zj,vb,wb,sb,cb,yb,by (simp only[aI]<;>rfl),(aB h0.out),(aB h1.out),(aB h2.out),(aB h3.out),(aB h4.out),(λ_=>rfl),(aB h6.out),(aB h7.out),(aB h8.out),(aB h9.out),(aB mV),(aB oM),(aB nI),(aB qs),⟨λq=>(by rw[ao (show 11≠5 by decide)] at q;exact⟨aC (bu.1 q).1,aC (bu.1 q).2.1,aC (bu.1 q).2.2⟩),λq=>(by rw[ao (show 12≠5 by decide)] at q;exact aC (bu.2.1 q)),λq=>(by rw[ao (show 14≠5 by decide)] at q;exact⟨aC (bu.2.2 q).1,aC (bu.2.2 q).2⟩)⟩,?_⟩;rw[WC 6 5];rw[WC 9 5];rw[WC 10 5];rw[WC 12 5];rw[WC 13 5];rw[WC 14 5];exact hD
  ·refine wpOp_step rfl (λK' hK=>?_);have q5:f 5=true:=nL 5 (by decide+kernel);obtain rfl:=h5.out q5;have Ik:f 11=false:=iB λq=>(by have:=(bu.1 q).1;rw[uA] at this;cases this)
   have Il:f 12=false:=iB λq=>(by have:=bu.2.1 q;rw[Ik] at this;cases this)
   have Gf:f 14=false:=iB λq=>(by have:=(bu.2.2 q).1;rw[Il] at this;cases this)
   go_simp;refine hK _ _ ⟨vo,yW,yX,yY,yZ,za,(.int .i64 nb),(.slice (some ⟨W.heap.size,0,none⟩) nb nb),ze,zf,zg,zh,zi,zj,W.heap.size,wb,sb,cb,yb,by (simp only[aI]<;>rfl),(aB h0.out),(aB h1.out),(aB h2.out),(aB h3.out),(aB h4.out),(aB h5.out),(λ_=>rfl),(aB h7.out),(aB h8.out),(aB h9.out),(aB mV),(λq=>(by rw[ao (show 11≠6 by decide),Ik] at q;cases q)),(aB nI),(aB qs),⟨λq=>(by rw[ao (show 11≠6 by decide)] at q;exact⟨aC (bu.1 q).1,aC (bu.1 q).2.1,aC (bu.1 q).2.2⟩),λq=>(by rw[ao (show 12≠6 by decide)] at q;exact aC (bu.2.1 q)),λq=>(by rw[ao (show 14≠6 by decide)] at q;exact⟨aC (bu.2.2 q).1,aC (bu.2.2 q).2⟩)⟩,?_⟩;rw[iG];rw[WC 9 6];rw[WC 10 6];rw[WC 12 6];rw[WC 13 6];rw[WC 14 6];rw[uA] at hD;rw[Il,Gf] at hD ⊢;exact (hD.box (aK (λ_=>false) nb).toArray 4).perm (by unfold bl;simp only[if_true,Bool.false_eq_true,if_false,List.nil_append,List.cons_append];exact aF)
  ·refine wpOp_step rfl (λK' hK=>?_);go_simp;refine hK _ _ ⟨vo,yW,yX,yY,yZ,za,zb,zc,(.pointer (some ⟨pb,0,none⟩)),zf,zg,zh,zi,zj,vb,wb,sb,cb,yb,by (simp only[aI]<;>rfl),(aB h0.out),(aB h1.out),(aB h2.out),(aB h3.out),(aB h4.out),(aB h5.out),(aB h6.out),(λ_=>rfl),(aB h8.out),(aB h9.out),(aB mV),(aB oM),(aB nI),(aB qs),⟨λq=>(by rw[ao (show 11≠7 by decide)] at q;exact⟨aC (bu.1 q).1,aC (bu.1 q).2.1,aC (bu.1 q).2.2⟩),λq=>(by rw[ao (show 12≠7 by decide)] at q;exact aC (bu.2.1 q)),λq=>(by rw[ao (show 14≠7 by decide)] at q;exact⟨aC (bu.2.2 q).1,aC (bu.2.2 q).2⟩)⟩,?_⟩;rw[WC 6 7];rw[WC 9 7];rw[WC 10 7];rw[WC 12 7];rw[WC 13 7];rw[WC 14 7];exact hD
  ·refine wpOp_step rfl (λK' hK=>?_);have q7:f 7=true:=nL 7 (by decide+kernel);obtain rfl:=h7.out q7;go_simp;refine (Mn W (hD.at_.right.right.right.right.right)).kq ?_;rintro W2 hb;have hD:=hD.grow hb;refine hK _ _ ⟨vo,yW,yX,yY,yZ,za,zb,zc,(.pointer (some ⟨pb,0,none⟩)),(.int .i64 nb),zg,zh,zi,zj,vb,wb,sb,cb,yb,by (simp only[aI]<;>rfl),(aB h0.out),(aB h1.out),(aB h2.out),(aB h3.out),(aB h4.out),(aB h5.out),(aB h6.out),(aB h7.out),(λ_=>rfl),(aB h9.out),(aB mV),(aB oM),(aB nI),(aB qs),⟨λq=>(by rw[ao (show 11≠8 by decide)] at q;exact⟨aC (bu.1 q).1,aC (bu.1 q).2.1,aC (bu.1 q).2.2⟩),λq=>(by rw[ao (show 12≠8 by decide)] at q;exact aC (bu.2.1 q)),λq=>(by rw[ao (show 14≠8 by decide)] at q;exact⟨aC (bu.2.2 q).1,aC (bu.2.2 q).2⟩)⟩,?_⟩;rw[WC 6 8];rw[WC 9 8];rw[WC 10 8];rw[WC 12 8];rw[WC 13 8];rw[WC 14 8];exact hD
  ·refine wpOp_step rfl (λK' hK=>?_);have Ik:f 11=false:=iB λq=>(by have:=(bu.1 q).2.1;rw[uA] at this;cases this)
   have Il:f 12=false:=iB λq=>(by have:=bu.2.1 q;rw[Ik] at this;cases this)
   have Gf:f 14=false:=iB λq=>(by have:=(bu.2.2 q).1;rw[Il] at this;cases this)
   go_simp;refine hK _ _ ⟨vo,yW,yX,yY,yZ,za,zb,zc,ze,zf,(.map (some W.heap.size)),zh,zi,zj,vb,W.heap.size,sb,cb,yb,by (simp only[aI]<;>rfl),(aB h0.out),(aB h1.out),(aB h2.out),(aB h3.out),(aB h4.out),(aB h5.out),(aB h6.out),(aB h7.out),(aB h8.out),(λ_=>rfl),(aB mV),(λq=>(by rw[ao (show 11≠9 by decide),Ik] at q;cases q)),(aB nI),(aB qs),⟨λq=>(by rw[ao (show 11≠9 by decide)] at q;exact⟨aC (bu.1 q).1,aC (bu.1 q).2.1,aC (bu.1 q).2.2⟩),λq=>(by rw[ao (show 12≠9 by decide)] at q;exact aC (bu.2.1 q)),λq=>(by rw[ao (show 14≠9 by decide)] at q;exact⟨aC (bu.2.2 q).1,aC (bu.2.2 q).2⟩)⟩,?_⟩;rw[WC 6 9];rw[iG];rw[WC 10 9];rw[WC 12 9];rw[WC 13 9];rw[WC 14 9];rw[uA] at hD;rw[Il,Gf] at hD ⊢;exact (hD.obj (.map #[] 0)).perm (by unfold bl;simp only[if_true,Bool.false_eq_true,if_false,List.nil_append,List.cons_append];exact aF)
  ·refine wpOp_step rfl (λK' hK=>?_);have Ik:f 11=false:=iB λq=>(by have:=(bu.1 q).2.2;rw[uA] at this;cases this)
   have Il:f 12=false:=iB λq=>(by have:=bu.2.1 q;rw[Ik] at this;cases this)
   have Gf:f 14=false:=iB λq=>(by have:=(bu.2.2 q).1;rw[Il] at this;cases this)
   go_simp;refine hK _ _ ⟨vo,yW,yX,yY,yZ,za,zb,zc,ze,zf,zg,(.map (some W.heap.size)),zi,zj,vb,wb,W.heap.size,cb,yb,by (simp only[aI]<;>rfl),(aB h0.out),(aB h1.out),(aB h2.out),(aB h3.out),(aB h4.out),(aB h5.out),(aB h6.out),(aB h7.out),(aB h8.out),(aB h9.out),(λ_=>rfl),(λq=>(by rw[ao (show 11≠10 by decide),Ik] at q;cases q)),(aB nI),(aB qs),⟨λq=>(by rw[ao (show 11≠10 by decide)] at q;exact⟨aC (bu.1 q).1,aC (bu.1 q).2.1,aC (bu.1 q).2.2⟩),λq=>(by rw[ao (show 12≠10 by decide)] at q;exact aC (bu.2.1 q)),λq=>(by rw[ao (show 14≠10 by decide)] at q;exact⟨aC (bu.2.2 q).1,aC (bu.2.2 q).2⟩)⟩,?_⟩;rw[WC 6 10];rw[WC 9 10];rw[iG];rw[WC 12 10];rw[WC 13 10];rw[WC 14 10];rw[uA] at hD;rw[Il,Gf] at hD ⊢;exact (hD.obj (.map #[] 0)).perm (by unfold bl;simp only[if_true,Bool.false_eq_true,if_false,List.nil_append,List.cons_append];exact aF)
  ·refine wpOp_step rfl (λK' hK=>?_);have q0:f 0=true:=nL 0 (by decide+kernel);obtain rfl:=h0.out q0;have q1:f 1=true:=nL 1 (by decide+kernel);obtain rfl:=h1.out q1;have q2:f 2=true:=nL 2 (by decide+kernel);obtain rfl:=h2.out q2;have q3:f 3=true:=nL 3 (by decide+kernel);obtain rfl:=h3.out q3;have q6:f 6=true:=nL 6 (by decide+kernel);obtain rfl:=h6.out q6;have q8:f 8=true:=nL 8 (by decide+kernel);obtain rfl:=h8.out q8;have q9:f 9=true:=nL 9 (by decide+kernel);obtain rfl:=h9.out q9;have Wn:f 10=true:=nL 10 (by decide+kernel);obtain rfl:=mV Wn;go_simp;refine hK _ _ ⟨vo,(.pointer (some ⟨m,0,none⟩)),(.agg #[F,T,O,L,B,S,A]),(.pointer (some ⟨pb,0,none⟩)),(.pointer (some ⟨ob,0,none⟩)),za,zb,(.slice (some ⟨vb,0,none⟩) nb nb),ze,(.int .i64 nb),(.map (some wb)),(.map (some sb)),(.agg (xy m F T O L B S A pb ob vb nb wb sb)),zj,vb,wb,sb,cb,yb,by (simp only[aI]<;>rfl),(aB h0.out),(aB h1.out),(aB h2.out),(aB h3.out),(aB h4.out),(aB h5.out),(aB h6.out),(aB h7.out),(aB h8.out),(aB h9.out),(aB mV),(λ_=>rfl),(aB nI),(aB qs),⟨λ_=>⟨aC q6,aC q9,aC Wn⟩,λq=>(by rw[ao (show 12≠11 by decide)] at q;exact aC (bu.2.1 q)),λq=>(by rw[ao (show 14≠11 by decide)] at q;exact⟨aC (bu.2.2 q).1,aC (bu.2.2 q).2⟩)⟩,?_⟩;rw[WC 6 11];rw[WC 9 11];rw[WC 10 11];rw[WC 12 11];rw[WC 13 11];rw[WC 14 11];exact hD
  ·refine wpOp_step rfl (λK' hK=>?_);have Wo:f 11=true:=nL 11 (by decide+kernel);obtain rfl:=oM Wo;have Gf:f 14=false:=iB λq=>(by have:=(bu.2.2 q).1;rw[uA] at this;cases this)
   go_simp;refine hK _ _ ⟨vo,yW,yX,yY,yZ,za,zb,zc,ze,zf,zg,zh,(.agg (xy m F T O L B S A pb ob vb nb wb sb)),(.pointer (some ⟨W.heap.size,0,none⟩)),vb,wb,sb,W.heap.size,yb,by (simp only[aI]<;>rfl),(aB h0.out),(aB h1.out),(aB h2.out),(aB h3.out),(aB h4.out),(aB h5.out),(aB h6.out),(aB h7.out),(aB h8.out),(aB h9.out),(aB mV),(aB oM),(λ_=>rfl),(aB qs),⟨λq=>(by rw[ao (show 11≠12 by decide)] at q;exact⟨aC (bu.1 q).1,aC (bu.1 q).2.1,aC (bu.1 q).2.2⟩),λ_=>aC Wo,λq=>(by rw[ao (show 14≠12 by decide)] at q;exact⟨aC (bu.2.2 q).1,aC (bu.2.2 q).2⟩)⟩,?_⟩;rw[WC 6 12];rw[WC 9 12];rw[WC 10 12];rw[iG];rw[WC 13 12];rw[WC 14 12];rw[uA] at hD;rw[Gf] at hD ⊢;exact (hD.box (xy m F T O L B S A pb ob vb nb wb sb) 219).perm (by unfold bl;simp only[if_true,Bool.false_eq_true,if_false,List.nil_append,List.cons_append];exact aF)
  ·refine wpOp_step rfl (λK' hK=>?_);have Gf:f 14=false:=iB λq=>(by have:=(bu.2.2 q).2;rw[uA] at this;cases this)
   go_simp;refine hK _ _ ⟨(.pointer (some ⟨W.heap.size,0,none⟩)),yW,yX,yY,yZ,za,zb,zc,ze,zf,zg,zh,zi,zj,vb,wb,sb,cb,W.heap.size,by (simp only[aI]<;>rfl),(aB h0.out),(aB h1.out),(aB h2.out),(aB h3.out),(aB h4.out),(aB h5.out),(aB h6.out),(aB h7.out),(aB h8.out),(aB h9.out),(aB mV),(aB oM),(aB nI),(λ_=>rfl),⟨λq=>(by rw[ao (show 11≠13 by decide)] at q;exact⟨aC (bu.1 q).1,aC (bu.1 q).2.1,aC (bu.1 q).2.2⟩),λq=>(by rw[ao (show 12≠13 by decide)] at q;exact aC (bu.2.1 q)),λq=>(by rw[ao (show 14≠13 by decide)] at q;exact⟨aC (bu.2.2 q).1,aC (bu.2.2 q).2⟩)⟩,?_⟩;rw[WC 6 13];rw[WC 9 13];rw[WC 10 13];rw[WC 12 13];rw[iG];rw[WC 14 13];rw[uA] at hD;rw[Gf] at hD ⊢;exact (hD.box #[.pointer none] 95).perm (by unfold bl;simp only[if_true,Bool.false_eq_true,if_false,List.nil_append,List.cons_append];exact aF)
  ·refine wpOp_step rfl (λK' hK=>?_);have Wp:f 12=true:=nL 12 (by decide+kernel);obtain rfl:=nI Wp;have QG:f 13=true:=nL 13 (by decide+kernel);obtain rfl:=qs QG;rw[QG,uA] at hD;have yc:W.cell? ⟨yb,0,none⟩=some (.pointer none):=an (hD.has.right.right.right.right.left.head) 0 _ rfl;have yf:=br (hD.has.right.right.right.right.left.head) 0;go_simp;refine hK _ _ ⟨(.pointer (some ⟨yb,0,none⟩)),yW,yX,yY,yZ,za,zb,zc,ze,zf,zg,zh,zi,(.pointer (some ⟨cb,0,none⟩)),vb,wb,sb,cb,yb,by (simp only[aI]<;>rfl),(aB h0.out),(aB h1.out),(aB h2.out),(aB h3.out),(aB h4.out),(aB h5.out),(aB h6.out),(aB h7.out),(aB h8.out),(aB h9.out),(aB mV),(aB oM),(aB nI),(aB qs),⟨λq=>(by rw[ao (show 11≠14 by decide)] at q;exact⟨aC (bu.1 q).1,aC (bu.1 q).2.1,aC (bu.1 q).2.2⟩),λq=>(by rw[ao (show 12≠14 by decide)] at q;exact aC (bu.2.1 q)),λ_=>⟨aC Wp,aC QG⟩⟩,?_⟩;rw[WC 6 14];rw[WC 9 14];rw[WC 10 14];rw[WC 12 14];rw[WC 13 14];rw[iG];rw[QG];exact ((hD.perm (R':=(yb,.cells #[.pointer none] 95 (0,0))::(bl (f 6) (vb,.cells (aK (λ_=>false) nb).toArray 4 (0,0))++(bl (f 9) (wb,.map #[] 0)++(bl (f 10) (sb,.map #[] 0)++(bl (f 12) (cb,.cells (xy m F T O L B S A pb ob vb nb wb sb) 219 (0,0))++(Rp++(Ro++(Rm++(Rr++ [(bc,.cells #[F,T,O,L,B,S,A] 126 (0,0)),(bm,.cells #[Wz m] 92 (0,0))]))))))))) (by unfold bl;simp only[if_true,Bool.false_eq_true,if_false,List.nil_append,List.cons_append];exact aF)).set 0 (Wz cb)).perm (by unfold bl;simp only[if_true,Bool.false_eq_true,if_false,List.nil_append,List.cons_append];exact aF)
 case fin=>
  intro f a' W hJ hall;obtain⟨vo,yW,yX,yY,yZ,za,zb,zc,ze,zf,zg,zh,zi,zj,vb,wb,sb,cb,yb,rfl,h0,h1,h2,h3,h4,h5,h6,h7,h8,h9,mV,oM,nI,qs,bu,hD⟩:=hJ;obtain rfl:=h0 (hall 0 (by decide+kernel));obtain rfl:=h1 (hall 1 (by decide+kernel));obtain rfl:=h2 (hall 2 (by decide+kernel));obtain rfl:=h3 (hall 3 (by decide+kernel));obtain rfl:=h4 (hall 4 (by decide+kernel));obtain rfl:=h5 (hall 5 (by decide+kernel));obtain rfl:=h6 (hall 6 (by decide+kernel));obtain rfl:=h7 (hall 7 (by decide+kernel));obtain rfl:=h8 (hall 8 (by decide+kernel));obtain rfl:=h9 (hall 9 (by decide+kernel));obtain rfl:=mV (hall 10 (by decide+kernel));obtain rfl:=oM (hall 11 (by decide+kernel));obtain rfl:=nI (hall 12 (by decide+kernel));obtain rfl:=qs (hall 13 (by decide+kernel));rw[hall 6 (by decide+kernel),hall 9 (by decide+kernel),hall 10 (by decide+kernel),hall 12 (by decide+kernel),hall 13 (by decide+kernel),hall 14 (by decide+kernel)] at hD;have D5:=a_ (show ag (Rm++Rr) ((vb,.cells (aK (λ_=>false) nb).toArray 4 (0,0))::(wb,.map #[] 0)::(sb,.map #[] 0)::(cb,.cells (xy m F T O L B S A pb ob vb nb wb sb) 219 (0,0))::(yb,.cells #[Wz cb] 95 (0,0))::(Rp++(Ro++(Rm++(Rr++ [(bc,.cells #[F,T,O,L,B,S,A] 126 (0,0)),(bm,.cells #[Wz m] 92 (0,0))]))))) w W from hD);clear h0 h1 h2 h3 h4 h5 h6 h7 h8 h9 mV oM nI qs bu hD hall Mn nP Kw hz0 vR OM D4;simp only[aI]
  go_wp2_with (go_at_call 175;refine (all_mk _ _).kq ?_;rintro w8 rfl)
  have QL:=D5.box #[Wz ob] 215;obtain⟨Bm,rZ⟩:∃Bm,W.heap.size=Bm:=⟨_,rfl⟩
  simp only[rZ] at QL ⊢;generalize W.alloc (.cells #[Wz ob] 215)=w8 at *;have D6:=a_ (QL.perm (R':= [(wb,.map #[] 0),(sb,.map #[] 0)]++((Bm,.cells #[Wz ob] 215 (0,0))::(Ro++((vb,.cells (aK (λ_=>false) nb).toArray 4 (0,0))::(cb,.cells (xy m F T O L B S A pb ob vb nb wb sb) 219 (0,0))::(yb,.cells #[Wz cb] 95 (0,0))::(Rp++(Rm++(Rr++ [(bc,.cells #[F,T,O,L,B,S,A] 126 (0,0)),(bm,.cells #[Wz m] 92 (0,0))]))))))) aF);clear D5 rZ QL;refine (wpIn_wide (n:=3)).1 ?_;have gv:=eM (λ(pre:List (Nat×Nat)) (Rl:BL)=>∃(nw:Nat) (mw:Int->Option Value) (ow:Obj) (ns:Nat) (ms:Int->Option Value) (os:Obj),Rl= [(wb,ow),(sb,os)]/\VM nw mw ow/\nw<=aG (ek pre) d_/\(∀q:Nat,q<=d_->(mw q).getD (.int .i64 0)= .int .i64 (aG (wO (ek pre) c_ q) d_:Nat))/\VM ns ms os/\ns<=pre.length/\∀p∈pre,ms ((p.1:Nat):Int)=some (Hd.hv (Hd.tp (v.wd p.1)) (Hd.tf (v.wd p.1)) (Hd.to (v.wd p.1)))) (Rm++Rr) w HT Hg;refine dC (gf:=254) (lb:= #[.pointer (some ⟨Bm,0,none⟩)]) rfl dS (fL (Bm:=Bm) (T:=215) O2) (λ_=>rfl) ((Bm,.cells #[Wz ob] 215 (0,0))::(Ro++((vb,.cells (aK (λ_=>false) nb).toArray 4 (0,0))::(cb,.cells (xy m F T O L B S A pb ob vb nb wb sb) 219 (0,0))::(yb,.cells #[Wz cb] 95 (0,0))::(Rp++(Rm++(Rr++ [(bc,.cells #[F,T,O,L,B,S,A] 126 (0,0)),(bm,.cells #[Wz m] 92 (0,0))]))))))
   (λx hx=>by
    rcases List.mem_cons.1 hx with rfl | hx
    ·exact List.mem_cons_self ..
    ·exact List.mem_cons_of_mem _ (List.mem_append_left _ hx))
   (λpre K W=>∃Rl:BL,(∃(nw:Nat) (mw:Int->Option Value) (ow:Obj) (ns:Nat) (ms:Int->Option Value) (os:Obj),Rl= [(wb,ow),(sb,os)]/\VM nw mw ow/\nw<=aG (ek pre) d_/\(∀q:Nat,q<=d_->(mw q).getD (.int .i64 0)= .int .i64 (aG (wO (ek pre) c_ q) d_:Nat))/\VM ns ms os/\ns<=pre.length/\∀p∈pre,ms ((p.1:Nat):Int)=some (Hd.hv (Hd.tp (v.wd p.1)) (Hd.tf (v.wd p.1)) (Hd.to (v.wd p.1))))/\ag (Rm++Rr) (Rl++K) w W) (λc pre K W=>False/\∃Rl:BL,(∃(nw:Nat) (mw:Int->Option Value) (ow:Obj) (ns:Nat) (ms:Int->Option Value) (os:Obj),Rl= [(wb,ow),(sb,os)]/\VM nw mw ow/\nw<=aG (ek pre) d_/\(∀q:Nat,q<=d_->(mw q).getD (.int .i64 0)= .int .i64 (aG (wO (ek pre) c_ q) d_:Nat))/\VM ns ms os/\ns<=pre.length/\∀p∈pre,ms ((p.1:Nat):Int)=some (Hd.hv (Hd.tp (v.wd p.1)) (Hd.tf (v.wd p.1)) (Hd.to (v.wd p.1))))/\ag (Rm++Rr) (Rl++K) w W) gv (λc=>gv.and _) ⟨_,⟨0,_,_,0,_,_,rfl,VM.made,Nat.zero_le _,λq _=>(by rw[cnt_nil];rfl),VM.made,Nat.zero_le _,λp hp=>(by cases hp)⟩,D6.out⟩ ?Nb ?jE ?rG ?rR ?th
  case jE=>
   intro l x W K hK;simp only[gg,eK,List.setIfInBounds_toArray,List.set_cons_zero,List.set_cons_succ]
   gi_wp2
   exact hK
  case rG=>
   clear D6;intro l' pre x post K' W gz hsub hi;obtain⟨e1,e2,e3⟩:=eC O2.ok gz;have nM:=λj=>um (j:=j) O2.ok gz
   obtain⟨x,z0⟩:=x;simp only at e1 e2 e3 nM;obtain⟨Rl,⟨nw,mw,ow,ns,ms,os,rfl,v1,v2,v3,s1,s2,s3⟩,hD⟩:=hi;have Qt:fF v.wd zs x:=cA.1 (by rw[HE.out];exact e2);have hst:=fF.st Hw Hz Qt;have gd:=a_ (λW2 (h:Has K' W2)=>(show (W2.cell? ⟨yb,0,none⟩=some (.pointer (some ⟨cb,0,none⟩))/\W2.cell? ⟨cb,15,none⟩=some (.map (some sb))/\W2.cell? ⟨cb,14,none⟩=some (.map (some wb))/\W2.cell? ⟨bm,0,none⟩=some (.pointer (some ⟨m,0,none⟩)))/\At Rm W2 from
    ⟨⟨an (h.one (hsub (yb,.cells #[Wz cb] 95 (0,0)) (by simp))) 0 _ rfl,an (h.one (hsub (cb,.cells (xy m F T O L B S A pb ob vb nb wb sb) 219 (0,0)) (by simp))) 15 _ rfl,an (h.one (hsub (cb,.cells (xy m F T O L B S A pb ob vb nb wb sb) 219 (0,0)) (by simp))) 14 _ rfl,an (h.one (hsub (bm,.cells #[Wz m] 92 (0,0)) (by simp))) 0 _ rfl⟩,⟨λy hy=>h y (hsub y (by simp[hy])),JB⟩⟩))
   have NF:d_<=1048576:=by have:=Hh.1.2;omega
   have qf:=a_ (λW2 (h:Has K' W2) (hT:ax W2)=>(show WR 98 #[.iface 92 (.pointer (some ⟨m,0,none⟩)),(x:Nat)] W2 (.tuple #[.agg #[(Hd.tp (v.wd x):Nat),(Hd.tf (v.wd x):Nat),(Hd.to (v.wd x):Nat)],Wy]) λw'=>Below W2.heap.size W2 w' from wE (nX H) Hw NF (gd W2 h).2 hT x hst));have zm:=a_ (λW2 (h:Has K' W2)=>lG H (gd W2 h).2.1);have zo:=a_ (λW2 A2 (hd:ag (Rm++Rr) A2 w W2)=>hd.tz HT Hg);have hplen:pre.length<=1048576:=by have:=AF gz;omega
   have vS:z0<=1048576:=by omega
   obtain⟨UF,UD,UG,UH,UE,RS,qg,HD⟩:=xZ v1 s1 v2 v3 s2 s3 nM hD;have He3:=a_ e3;have x1:(x:Int)<=1048576:=by omega
   have x2:(z0:Int)<=1048576:=by omega
   obtain⟨⟨k1,k2,k3,k4⟩, -⟩:=gd W hD.has.right;clear v1 v2 v3 s1 s2 s3 nM hD e1 e2 e3 gz hsub Qt hst gv;generalize VA:Hd.tp (v.wd x)=hp1 at *;generalize Vy:Hd.tf (v.wd x)=Ks at *;generalize Vz:Hd.to (v.wd x)=Qp at *;have HHx:=a_ (And.intro VA (And.intro Vy Vz));clear VA Vy Vz
   gi_wp2
   refine wpIn_region_heldH (S:=λW=>W.cell? ⟨yb,0,none⟩=some (.pointer (some ⟨cb,0,none⟩))/\W.cell? ⟨cb,15,none⟩=some (.map (some sb))/\W.cell? ⟨bm,0,none⟩=some (.pointer (some ⟨m,0,none⟩))) (by kernel_rfl) (by rintro⟨_,_,q⟩;exact q) (by decide+kernel) ⟨k1,k2,k4⟩ (λhHeld=>?_);refine bz 0 ?_;refine bz 1 ?_;refine bz 2 ?_;refine bz 3 ?_;refine bz 4 ?_;refine bz 5 ?_;refine bz 6 ?_;refine bz 7 ?_;simp only[aI];refine pT 8 (λK hK=>?_);go_simp;refine (qf _ HD.drew.has.right (zo _ _ HD.drew)).kq ?_;rintro w9 hb;have Rd:=a_ (HD.drew.grow hb);clear hb k1 k2 k3 k4;obtain⟨⟨k1,k2,k3,k4⟩, -⟩:=gd w9 Rd.has.right;refine hK _ _ ⟨k1,k2,k4⟩ (λhHeld=>?_);clear hK K
   try simp only[aI]
   refine bz 9 ?_;refine bz 10 ?_;refine bz 11 ?_;simp only[aI];obtain⟨FN,BD,hrun,EG,oN⟩:=UD.uc (f:=(x:Int)) (t:=217) (e:=31) (K:=(wb,ow)::K') (by unfold maxLen;have:=UE.out;omega) (by kernel_rfl) (Rd.perm (R':=(sb,os)::(wb,ow)::K') aF) (by constructor<;>omega) (.agg #[hp1,Ks,Qp]);have V10:=a_ EG;have iJ:=a_ (oN.perm (R':=(wb,ow)::(sb,BD)::K') aF);clear EG oN;refine pT 12 (λK hK=>?_);go_simp;clear k1 k2 k3 k4;obtain⟨⟨k1,k2,k3,k4⟩, -⟩:=gd FN iJ.has.tail.tail;refine hK _ _ ⟨k1,k2,k4⟩ (λhHeld=>?_);clear hK K
   try simp only[aI]
   refine wpAnyH_done (by kernel_rfl) ?_ _
   try simp only[aI]
   clear HD Rd hHeld k1 k2 k3 k4 hrun qf UD
   gi_wp2
   gi_loopw [16] (λav wr=>∃(j nw:Nat) (mw:Int->Option Value) (ow:Obj),av= .int .i64 ((x:Int)+j)/\j<=z0/\VM nw mw ow/\nw<=aG (gQ pre x j) d_/\(∀q:Nat,q<=d_->(mw q).getD (.int .i64 0)= .int .i64 (aG (wO (gQ pre x j) c_ q) d_:Nat))/\ag (Rm++Rr) ((wb,ow)::(sb,BD)::K') w wr) (λav _=>(x+z0)-(intOf av).toNat)
   case atStart=>exact⟨0,nw,mw,ow,by simp,Nat.zero_le _,UF,by rw[oY];exact UG,by rw[oY];exact UH,iJ⟩
   case round=>
    clear iJ UF UG UH nw mw ow;obtain⟨j,nw,mw,ow,rfl,hj,v1,v2,v3,hD⟩:=hrel;have Wx:=He3.out;by_cases hlt:j<z0
    ·have SJ:=qg j hlt;have KX:x+j<d_:=by omega
     obtain⟨z,hz⟩:∃z,(x+j)/c_=z:=⟨_,rfl⟩
     have Tj:z<=d_:=by rw[←hz];exact Nat.le_trans (Nat.div_le_self _ _) (by omega)
     have hst:=addB_step (c_:=c_) SJ KX;rw[hz] at hst;have uz:aG (gQ pre x (j+1)) d_=aG (gQ pre x j) d_+1:=by
      have h0:gQ pre x j (x+j)=false:=by
       unfold gQ;rw[SJ,Bool.false_or,Bool.and_eq_false_iff];exact .inr dP
      rw[nh,gu h0,b9 KX]
     obtain⟨c0,ks⟩:∃c0,aG (wO (gQ pre x j) c_ z) d_=c0:=⟨_,rfl⟩
     have hc0l:c0<=1048576:=by rw[←ks];exact Nat.le_trans (bE _ _) NF
     have hnwl:nw<=1048576:=Nat.le_trans v2 (Nat.le_trans (bE _ _) NF);have Tq:=v3 z Tj;rw[ks] at Tq;have ht1:((x:Int)+j).tdiv (c_:Int)=(z:Int):=by
      rw[Int.tdiv_eq_ediv_of_nonneg (by omega),←hz];have:((x+j:Nat):Int)=(x:Int)+j:=by omega
      rw[←this];rfl
     have ht2:IntKind.i64.wrap (z:Int)=z:=IntWalk.i64_in _ (by omega);have KQ:((c_:Int)==0)=false:=by rw[beq_eq_false_iff_ne];omega
     have KR:¬(c_:Int)=0:=by omega
     have KS:¬c_=0:=by omega
     have t1:=eH ((x:Int)+z0);have t2:=eH ((x:Int)+j+1);have t3:=eH ((c0:Int)+1);have g1:decide ((x:Int)+j<(x:Int)+z0)=true:=kr;have g2:(x:Int)+j<(x:Int)+z0:=by omega
     have HD:=a_ hD.drew;obtain⟨⟨k1,k2,k3,k4⟩, -⟩:=gd wr.drew HD.has.tail.tail;have L1:=v1.look (w:=wr.drew) (b:=wb) (f:=(z:Int)) (t:=132) (e:=3) (by kernel_rfl) (oL wr.drew) HD.has.head (by constructor<;>omega);rw[Tq] at L1;obtain⟨w2,EW,hrun,EG,oN⟩:=v1.uc (f:=(z:Int)) (t:=132) (e:=3) (K:=(sb,BD)::K') (by unfold maxLen;omega) (by kernel_rfl) HD (by constructor<;>omega) (.int .i64 ((c0:Int)+1));have HV:=a_ EG;have gq:=a_ oN;have HA:=a_ (show nw+1<=aG (gQ pre x (j+1)) d_ from by omega);have HB:=a_ (show ∀q:Nat,q<=d_->((λg:Int=>if g=(z:Int) then some (Value.int .i64 ((c0:Int)+1)) else mw g) (q:Nat)).getD (.int .i64 0)= .int .i64 (aG (wO (gQ pre x (j+1)) c_ q) d_:Nat) from λq hq=>by
      show (if (q:Int)=(z:Int) then some (Value.int .i64 ((c0:Int)+1)) else mw q).getD (.int .i64 0)=_
      by_cases e:q=z
      ·subst e;rw[b9 rfl,hst,b9 rfl,ks];rfl
      ·rw[cG,v3 q hq,hst q,b_ e,Nat.add_zero])
     clear v1 v2 v3 Tq hD EG oN hst uz ks SJ hz Wx
     gi_wp2
     refine wpIn_region_heldL (S:=λW=>W.cell? ⟨yb,0,none⟩=some (.pointer (some ⟨cb,0,none⟩))/\W.cell? ⟨cb,14,none⟩=some (.map (some wb))/\W.cell? ⟨bm,0,none⟩=some (.pointer (some ⟨m,0,none⟩))) (by kernel_rfl) (by rintro⟨_,_,q⟩;exact q) (by decide+kernel) ⟨k1,k3,k4⟩ (λhHeld=>?_);refine aR 0 ?_;refine aR 1 ?_;refine aR 2 ?_;refine aR 3 ?_;refine aR 4 ?_;refine aR 5 ?_;simp only[aI];refine jS 6 (λK hK=>?_);go_simp;refine (zm _ HD.has.tail.tail).kq ?_;rintro w9 rfl;refine hK _ _ ⟨k1,k3,k4⟩ (λhHeld=>?_);clear hK K
     try simp only[aI]
     refine jS 7 (λK hK=>?_);go_simp;refine hK _ _ ⟨k1,k3,k4⟩ (λhHeld=>?_);clear hK K
     try simp only[aI]
     refine jS 8 (λK hK=>?_);go_simp;refine hK _ _ ⟨k1,k3,k4⟩ (λhHeld=>?_);clear hK K
     try simp only[aI]
     refine jS 9 (λK hK=>?_);go_simp;refine hK _ _ ⟨k1,k3,k4⟩ (λhHeld=>?_);clear hK K
     try simp only[aI]
     refine sD 10 (λK hK=>?_);go_simp;refine hK _ _ ?_;clear hK K
     try simp only[aI]
     clear hHeld k1 k2 k3 k4 L1 hrun
     gi_wp2
     go_roundw
     case rel=>exact⟨j+1,nw+1,_,EW,by go_num,hlt,HV,HA,HB,gq⟩
     case measure=>simp[intOf];omega
    ·obtain rfl:j=z0:=by omega
     have t1:=eH ((x:Int)+j);have HD:=a_ hD;have Hv:=a_ (And.intro v1 (And.intro v2 v3));clear hD v1 v2 v3 Wx
     gi_wp2
     refine⟨[(wb,ow),(sb,BD)],⟨nw,mw,ow,ns+1,_,BD,rfl,Hv.1,?_,?_,V10,?_,?_⟩,HD⟩
     ·rw[←oX];exact Hv.2.1
     ·rw[←oX];exact Hv.2.2
     ·rw[List.length_append];have:=UE.out;show ns+1<=pre.length+1
      omega
     ·intro p hp;obtain⟨h1,h2,h3⟩:=HHx.out;rcases List.mem_append.1 hp with q | q
      ·show (if ((p.1:Nat):Int)=(x:Int) then some (Value.agg #[hp1,Ks,Qp]) else ms ((p.1:Nat):Int))=_
       by_cases e:p.1=x
       ·rw[iY,e,h1,h2,h3];rfl
       ·rw[cG];exact RS p q
      ·rw[List.mem_singleton] at q;subst q;show (if ((x:Nat):Int)=(x:Int) then some (Value.agg #[hp1,Ks,Qp]) else ms ((x:Nat):Int))=_
       rw[b9 rfl,h1,h2,h3];rfl
  case rR=>
   intro D W hi;obtain⟨Rl,⟨nw,mw,ow,ns,ms,os,rfl,v1,v2,v3,s1,s2,s3⟩,hD⟩:=hi;have Gr:=cyc_new (cb:=cb) (m:=m) (pb:=pb) (ob:=ob) (vb:=vb) (wb:=wb) (sb:=sb) (⟨d_,c_,e_,⟨F,T,O,L,B,S,A⟩,E,v.wd⟩:aJ) RP P3 O2 v1 (Nat.le_trans v2 (Nat.le_trans (bE _ _) (by have:=Hh.1.2;omega))) v3 s1 s3;have Kq:∀q:Nat,q<=d_->(mw q).getD (.int .i64 0)= .int .i64 ((⟨d_,c_,e_,⟨F,T,O,L,B,S,A⟩,E,v.wd⟩:aJ).cw (λ_=>true) q:Nat):=λq hq=>by
    rw[v3 q hq,DS _ O2.out.ok]
   simp only at Gr;obtain⟨y,hy⟩:∃y:aJ,(⟨d_,c_,e_,⟨F,T,O,L,B,S,A⟩,E,v.wd⟩:aJ)=y:=⟨_,rfl⟩
   rw[hy] at Gr Kq;have HY:=a_ hy;clear hy;obtain⟨Uu,Hu,Hvm⟩:=dF Gr Kq v1;clear Gr Kq v1 v2 v3 s1 s2 s3 gv D6;have D7:=a_ (hD.perm (R':=Rr++((cb,.cells (xy m F T O L B S A pb ob vb nb wb sb) 219 (0,0))::(vb,.cells (aK (λ_=>false) nb).toArray 4 (0,0))::(wb,ow)::(sb,os)::(Rp++Ro))++(Rm++((D,.deferred (some []))::(Bm,.cells #[Wz ob] 215 (0,0))::(yb,.cells #[Wz cb] 95 (0,0)):: [(bc,.cells #[F,T,O,L,B,S,A] 126 (0,0)),(bm,.cells #[Wz m] 92 (0,0))]))) aF);have q1:=D7.has.right.right.tail.tail.head;have k0:=an q1 0 (.pointer (some ⟨cb,0,none⟩)) rfl;clear hD q1;have JF:=a_ (pW (w:=W) (step:=λ(_:Unit) x=>((),y.to x)) (first:= #[.pointer (some ⟨cb,0,none⟩)]) (caps:= #[]) (F:=220) (λargs w=>(by kernel_rfl))
    (I:=λ(_:Unit) Rst=>Rst=(((cb,.cells (xy m F T O L B S A pb ob vb nb wb sb) 219 (0,0))::(vb,.cells (aK (λ_=>false) nb).toArray 4 (0,0))::(wb,ow)::(sb,os)::(Rp++Ro))++(Rm++((D,.deferred (some []))::(Bm,.cells #[Wz ob] 215 (0,0))::(yb,.cells #[Wz cb] 95 (0,0)):: [(bc,.cells #[F,T,O,L,B,S,A] 126 (0,0)),(bm,.cells #[Wz m] 92 (0,0))])))) (st:=()) (λs x E Rst W2 _ _ hI hd=>by
     subst hI;refine (OY (w:=W2) (x:Nat) Uu hd.at_.right.left).kq ?_;rintro W3 hb;exact⟨rfl,_,rfl,hd.grow hb⟩) Hr rfl (D7.perm (by simp only[List.append_assoc];exact List.Perm.refl _)))
   rw[Ar λx:Nat=>y.to x] at JF
   gi_wp2
   go_wp2_with (go_at_call 166;refine JF.kq ?_;rintro w9 ⟨zK,Rst9,r9,rfl,d9⟩;have RR:=a_ r9;have D9:=a_ d9;clear r9 d9)
   clear JF D7 k0;have iJ:=a_ (D9.perm (R':=Rm++(zK++(((cb,.cells (xy m F T O L B S A pb ob vb nb wb sb) 219 (0,0))::(vb,.cells (aK (λ_=>false) nb).toArray 4 (0,0))::(wb,ow)::(sb,os)::(Rp++Ro))++((D,.deferred (some []))::(Bm,.cells #[Wz ob] 215 (0,0))::(yb,.cells #[Wz cb] 95 (0,0)):: [(bc,.cells #[F,T,O,L,B,S,A] 126 (0,0)),(bm,.cells #[Wz m] 92 (0,0))])))) aF);clear D9;have gd:=a_ (λRx W2 (h:Has (Rx++(zK++(((cb,.cells (xy m F T O L B S A pb ob vb nb wb sb) 219 (0,0))::(vb,.cells (aK (λ_=>false) nb).toArray 4 (0,0))::(wb,ow)::(sb,os)::(Rp++Ro))++((D,.deferred (some []))::(Bm,.cells #[Wz ob] 215 (0,0))::(yb,.cells #[Wz cb] 95 (0,0)):: [(bc,.cells #[F,T,O,L,B,S,A] 126 (0,0)),(bm,.cells #[Wz m] 92 (0,0))])))) W2)=>
    (show W2.cell? ⟨yb,0,none⟩=some (.pointer (some ⟨cb,0,none⟩))/\W2.cell? ⟨cb,14,none⟩=some (.map (some wb))/\W2.cell? ⟨bm,0,none⟩=some (.pointer (some ⟨m,0,none⟩))/\W2.cell? ⟨bc,0,none⟩=some (.int .i64 F)/\W2.cell? ⟨bc,1,none⟩=some (.int .i64 T)/\W2.heap[wb]?=some ow from
    ⟨an h.right.right.right.tail.tail.head 0 _ rfl,an h.right.right.left.head 14 _ rfl,an h.right.right.right.tail.tail.tail.tail.head 0 _ rfl,an h.right.right.right.tail.tail.tail.head 0 _ rfl,an h.right.right.right.tail.tail.tail.head 1 _ rfl,h.right.right.left.tail.tail.head⟩))
   obtain⟨k1,k2,k3,k4,k5,k6⟩:=gd Rm w9 iJ.has;have zm:=a_ (λvv Rx W2 (h:aH m d_ c_ e_ t vv Rx) (hA:Has Rx W2)=>lG h hA);have Vf:F<=T:=Hc.cq.2.1;have PW:T<=d_:=Hc.cq.2.2;have Iy:F%c_=0:=Hc.whole.1;have NF:d_<=1000000:=Hh.1.2;obtain⟨qF,Bj⟩:∃qF,F/c_=qF:=⟨_,rfl⟩
   obtain⟨n,hn⟩:∃n,(T+c_-1)/c_-qF=n:=⟨_,rfl⟩
   have Iw:F=qF*c_:=by rw[←Bj,Nat.div_mul_cancel (Nat.dvd_of_mod_eq_zero Iy)]
   have Ad:∀x,x<(T+c_-1)/c_↔x*c_<T:=λx=>tx tN
   have qz:qF+n=(T+c_-1)/c_:=by
    have:qF<=(T+c_-1)/c_:=by
     rw[Nat.le_div_iff_mul_le (by omega),←Iw];omega
    omega
   have qy:∀j,j<n↔(qF+j)*c_<T:=λj=>by
    rw[←Ad];omega
   have sa:=a_ qy;have ht1:(F:Int).tdiv (c_:Int)=(qF:Int):=by
    rw[Int.tdiv_eq_ediv_of_nonneg (by omega),←Bj];rfl
   have ht2:IntKind.i64.wrap (qF:Int)=qF:=IntWalk.i64_in _ (by have:=Nat.div_le_self F c_;omega);have KQ:((c_:Int)==0)=false:=by rw[beq_eq_false_iff_ne];omega
   have KR:¬(c_:Int)=0:=by omega
   have KS:¬c_=0:=by omega
   have Ib:=a_ (And.intro Bj (And.intro hn qz));clear Bj hn qz Iw Ad qy Iy
   go_quiet ((go_at_call 169;exact gl (zm _ _ _ H (iJ.grow (Fr.aA _ _)).has.left)))
   have rA:=a_ (iJ.grow (Fr.aA nq w9));generalize w9.drewN nq=FN at *;clear k1 k2 k3 k4 k5 k6 iJ ht1 ht2;go_wp2
   go_loopw [17] (λqv wr=>∃(j:Nat) (Rx:BL),qv= .int .i64 ((qF:Int)+j)/\j<=n/\aH m d_ c_ e_ t (fA (d_/c_) (λq=>decide (y.cw (λ_=>true) q=0)) qF j v) Rx/\ag (Rm++Rr) (Rx++(zK++(((cb,.cells (xy m F T O L B S A pb ob vb nb wb sb) 219 (0,0))::(vb,.cells (aK (λ_=>false) nb).toArray 4 (0,0))::(wb,ow)::(sb,os)::(Rp++Ro))++((D,.deferred (some []))::(Bm,.cells #[Wz ob] 215 (0,0))::(yb,.cells #[Wz cb] 95 (0,0)):: [(bc,.cells #[F,T,O,L,B,S,A] 126 (0,0)),(bm,.cells #[Wz m] 92 (0,0))])))) w wr) (λqv _=>(qF+n)-(intOf qv).toNat)
   case atStart=>exact⟨0,Rm,by simp,Nat.zero_le _,H,rA⟩
   case round=>
    clear rA;obtain⟨j,Rx,rfl,hj,hM,hD⟩:=hrel;obtain⟨-, -,qz⟩:=Ib.out;have NG:(qF+j)*c_<=2000000:=by
     have h1:(qF+j)*c_<=(qF+n)*c_:=Nat.mul_le_mul_right _ (by omega);rw[qz] at h1;have h2:=Nat.div_mul_le_self (T+c_-1) c_;have h3:c_<=256:=by rcases hp with q | q | q | q | q | q | q | q | q<;>omega
     omega
    have KM:qF+j<=d_:=by
     have h1:qF+n<=T:=by
      rw[qz];have:(T+c_-1)/c_<T+1:=by
       rw[Nat.div_lt_iff_lt_mul (by omega),Nat.add_mul,Nat.one_mul];have:=Nat.le_mul_of_pos_right T (show 0<c_ by omega);omega
      omega
     omega
    obtain⟨Pq,Eg⟩:∃Pq,(qF+j)*c_=Pq:=⟨_,rfl⟩
    have tM:IntKind.i64.wrap (((qF:Int)+j)*c_)=(Pq:Int):=by
     have e:((qF:Int)+j)*c_=(Pq:Int):=by
      rw[←Eg]
      push_cast
      rfl
     rw[e];exact IntWalk.i64_in _ (by omega)
    have kO:=sa j;rw[Eg] at kO NG;obtain⟨HM,HD⟩:=aO hM hD;obtain⟨k1,k2,k3,k4,k5,k6⟩:=gd Rx wr hD.has;clear hM hD qz Eg;by_cases hlt:j<n
    ·have gR:=kO.1 hlt;have g1:decide ((Pq:Int)<T)=true:=kr;clear kO;go_wp2
     go_quiet ((go_at_call 169;exact gl (zm _ _ _ HM (HD.grow (Fr.aA _ _)).has.left)))
     have gq:=a_ (HD.grow (Fr.aA nq wr));generalize wr.drewN nq=Au at *;clear k1 k2 k3 k4 k5 k6 g1 tM HD;obtain⟨k1,k2,k3,k4,k5,k6⟩:=gd Rx Au gq.has;obtain⟨c0,ks⟩:∃c0,y.cw (λ_=>true) (qF+j)=c0:=⟨_,rfl⟩
     have L1:=Hvm.look (w:=Au) (b:=wb) (f:=(qF:Int)+j) (t:=132) (e:=3) (by kernel_rfl) (oL Au) k6 (by constructor<;>omega);have LP:=Hu (qF+j) KM;rw[ks,show ((qF+j:Nat):Int)=(qF:Int)+j from by omega] at LP;rw[LP] at L1;have Fy:=a_ (oE (w:=Au) HM gq.at_.left ((qF+j:Nat):Int));rw[show ((qF+j:Nat):Int)=(qF:Int)+j from by omega] at Fy;have nK:fA (d_/c_) (λq=>decide (y.cw (λ_=>true) q=0)) qF (j+1) v=if c0=0 then bY (d_/c_) (fA (d_/c_) (λq=>decide (y.cw (λ_=>true) q=0)) qF j v) ((qF:Int)+j) else fA (d_/c_) (λq=>decide (y.cw (λ_=>true) q=0)) qF j v:=by
      rw[fA,show ((qF+j:Nat):Int)=(qF:Int)+j from by omega,ks];by_cases e:c0=0
      ·rw[b9 e,b9 (decide_eq_true e)]
      ·rw[b_ e,b_ (by rw[decide_eq_false e];decide)]
     have t2:=eH ((qF:Int)+j+1);have zH:=a_ nK;clear nK LP ks gR;by_cases hz0:c0=0
     ·have g3:((c0:Int)==0)=true:=by rw[beq_iff_eq];omega
      have JL:=a_ hz0;clear hz0
      go_wp2_with (go_at_call 170;refine Fy.kq ?_;rintro Ww ⟨Ly,m3,d3⟩;have M3:=a_ m3;have D3:=a_ (gq.step d3);clear m3 d3)
      go_roundw
      case rel=>exact⟨j+1,Ly,by go_num,hlt,by rw[zH.out,b9 JL.out];exact M3,D3⟩
      case measure=>simp[intOf];omega
     ·have g3:((c0:Int)==0)=false:=by rw[beq_eq_false_iff_ne];omega
      have JL:=a_ hz0;clear hz0 Fy;go_wp2
      go_roundw
      case rel=>exact⟨j+1,Rx,by go_num,hlt,by rw[zH.out,b_ JL.out];exact HM,gq⟩
      case measure=>simp[intOf];omega
    ·obtain rfl:j=n:=by omega
     have g2:¬Pq<T:=λq=>hlt (kO.2 q)
     have g1:decide ((Pq:Int)<T)=false:=dP;clear kO;go_wp2
     go_quiet ((go_at_call 169;exact gl (zm _ _ _ HM (HD.grow (Fr.aA _ _)).has.left)))
     have gq:=a_ (HD.grow (Fr.aA nq wr));generalize wr.drewN nq=Au at *;clear k1 k2 k3 k4 k5 k6 tM HD;obtain⟨k1,k2,k3,k4,k5,k6⟩:=gd Rx Au gq.has;go_wp2;obtain⟨h1,h2,h3⟩:=Ib.out;have qe:=(gq.perm (R':=(D,.deferred (some []))::(Bm,.cells #[Wz ob] 215 (0,0))::(yb,.cells #[Wz cb] 95 (0,0))::(bc,.cells #[F,T,O,L,B,S,A] 126 (0,0))::(bm,.cells #[Wz m] 92 (0,0))::(Rx++(zK++((cb,.cells (xy m F T O L B S A pb ob vb nb wb sb) 219 (0,0))::(vb,.cells (aK (λ_=>false) nb).toArray 4 (0,0))::(wb,ow)::(sb,os)::(Rp++Ro))))) aF)
     have tX:=qe.has.head;refine⟨by simp,.inl ⟨_,_,rfl,run_takeDeferred tX,?_⟩⟩;refine⟨.tuple #[Wz cb,Wy],by simp[results,results133,go_sem],cb,rfl,Rx,zK,_,?_,?_,?_,(qe.putObj (.deferred none)).tail.tail.tail.tail.tail⟩
     ·rw[HY.out,h1,h2];exact HM
     ·rw[HY.out];exact RR
     ·rw[HY.out];exact Uu
  case th=>
   rintro D c pre W hp ⟨hf, -⟩;exact hf.elim
end
section
variable {hb m rb run jn:Nat} {cy:Option Nat} {S:HS} {w w':World}
def other_c (h:Has [(hb,bK S.c m rb run cy S.ae S.af),(run,bF m S.aa S.top jn)] w) (bp:S.aa<=2*S.c.c_+S.c.d_) (hp:S.c.c_<=256/\S.c.d_<=2048):
  WR 163 #[Wz hb] w (S.other:Nat) λw'=>Below w.heap.size w w':=by
 have hc:=az (S:=S) h.head;have c1:=hc.c1;have c3:=hc.c3;have dW:=hc.dW;have H:=a_ h;have HB:=a_ (λW (h:Has [(hb,bK S.c m rb run cy S.ae S.af),(run,bF m S.aa S.top jn)] W)=>oo (w:=W) h.tail.head);unfold HS.other;generalize S.aa=bs at *;generalize S.c.c_=pg at *;generalize S.c.d_=wd at *;have s1:IntKind.i64.wrap (2*(pg:Int))=2*pg:=IntWalk.i64_in _ (by omega);have s2:IntKind.i64.wrap (2*(pg:Int)+wd)=2*pg+wd:=IntWalk.i64_in _ (by omega);have s3:IntKind.i64.wrap (2*(pg:Int)+wd-bs)=((2*pg+wd-bs:Nat):Int):=by rw[IntWalk.i64_in _ (by omega)];omega
 have S3:=a_ s3;clear hc h s3;go_enter func163,ntmps163;go_wp2
 go_quiet ((go_at_call 77;exact gl (HB _ (H.grow (Fr.aA _ _)))))
 go_wp2;go_ret;exact⟨congrArg (λq=>Ending.returned (.int .i64 q)) (by omega),Fr.aA _ _⟩
def Fa (h:At [(hb,bK S.c m rb run cy S.ae S.af),(run,bF m S.aa S.top jn)] w) (bp:S.aa<=2*S.c.c_+S.c.d_) (hp:S.c.c_<=256/\S.c.d_<=2048):
  WR 83 #[Wz hb] w (.agg (eZ.cells ⟨S.aa,S.top,S.other,S.other+S.c.d_,S.c.block,S.c.aL,S.c.aE⟩)) λw'=>Below w.heap.size w w':=by
 have D0:=a_ ((ag.refl h).box #[Wy,Wy,Wy,Wy,Wy,Wy,Wy] 126);have H:=a_ h;have HO:=a_ (λW (h:Has [(hb,bK S.c m rb run cy S.ae S.af),(run,bF m S.aa S.top jn)] W)=>other_c (w:=W) h bp hp);have HB:=a_ (λW (h:Has [(hb,bK S.c m rb run cy S.ae S.af),(run,bF m S.aa S.top jn)] W)=>oo (w:=W) h.tail.head);have HT:=a_ (λW (h:Has [(hb,bK S.c m rb run cy S.ae S.af),(run,bF m S.aa S.top jn)] W)=>wF (w:=W) h.tail.head);have HC:=a_ (λW (h:Has [(hb,bK S.c m rb run cy S.ae S.af),(run,bF m S.aa S.top jn)] W)=>(show W.cell? ⟨hb,2,none⟩=some (.int .i64 S.c.block)/\W.cell? ⟨hb,3,none⟩=some (.int .i64 S.c.d_)/\W.cell? ⟨hb,5,none⟩=some (.int .i64 S.c.aL)/\W.cell? ⟨hb,6,none⟩=some (.int .i64 S.c.aE)/\W.cell? ⟨hb,10,none⟩=some (.pointer (some ⟨run,0,none⟩)) from
  have hc:=az (S:=S) h.head
  ⟨hc.c2,hc.c3,hc.c5,hc.c6,hc.dW⟩))
 have ho:S.other<=4096:=by unfold HS.other;omega
 have s1:IntKind.i64.wrap ((S.other:Int)+S.c.d_)=((S.other+S.c.d_:Nat):Int):=by rw[IntWalk.i64_in _ (by omega)];omega
 clear h;unfold eZ.cells;simp only;generalize S.other=ot at *;go_enter func83,ntmps83
 go_wp2_with (go_at_call 163;refine (HO _ D0.has.tail).kq ?_;rintro w2 dw;have D2:=a_ (D0.grow dw);clear dw)
 obtain⟨B,hB⟩:∃B,w.heap.size=B:=⟨_,rfl⟩
 simp only[hB] at D2 ⊢;have D3:=a_ D2.drew;have hcs:=HC _ D2.has.tail;refine wp_region_noPanic ?_;refine aP (S:=λW=>W.cell? ⟨hb,2,none⟩=some (.int .i64 S.c.block)/\W.cell? ⟨hb,3,none⟩=some (.int .i64 S.c.d_)/\W.cell? ⟨hb,5,none⟩=some (.int .i64 S.c.aL)/\W.cell? ⟨hb,6,none⟩=some (.int .i64 S.c.aE)/\W.cell? ⟨hb,10,none⟩=some (.pointer (some ⟨run,0,none⟩))) (by kernel_rfl) hcs (λhHeld=>?_);generalize w2.drew=w3 at *;refine aR 0 ?_;refine aR 1 ?_;refine aR 2 ?_;refine aR 3 ?_;refine aR 5 ?_;refine aR 6 ?_;refine aR 7 ?_;refine aR 8 ?_;refine aR 10 ?_;refine aR 11 ?_;refine aR 12 ?_;refine aR 13 ?_;refine aR 14 ?_;refine aR 15 ?_;refine aR 16 ?_;refine aR 17 ?_;refine aR 18 ?_;refine aR 19 ?_;refine aR 20 ?_;refine aR 21 ?_;refine aR 22 ?_;refine aR 23 ?_;refine aR 24 ?_;refine aR 25 ?_;refine aR 26 ?_;refine aR 27 ?_;refine aR 28 ?_;refine aR 29 ?_;refine aR 30 ?_;refine aR 31 ?_;refine aR 32 ?_;simp only[aI];refine jS 4 (λK hK=>?_);go_simp;refine (HB _ D3.has.tail).kq ?_;rintro w5 rfl;refine hK _ _ hHeld (λhHeld=>?_);clear hK K
 try simp only[aI]
 refine jS 9 (λK hK=>?_);go_simp;refine (HT _ D3.has.tail).kq ?_;rintro w5 rfl;refine hK _ _ hHeld (λhHeld=>?_);clear hK K
 try simp only[aI]
 have q:=D3.has.head;obtain⟨b0,b1,b2,b3,b4,b5,b6, -⟩:=eX q;obtain⟨f0,f1,f2,f3,f4,f5,f6, -⟩:=tV q;clear q;refine aR 33 ?_;simp only[aI];refine sD 34 (λK hK=>?_);go_simp;refine hK _ _ ?_;clear hK K
 try simp only[aI]
 refine NoPanic.normal ?_;have tR:=((((((D3.set 0 S.aa).set 1 S.top).set 2 ot).set 3 ((ot:Int)+S.c.d_:Int)).set 4 S.c.block).set 5 S.c.aL).set 6 S.c.aE;simp only[ma] at tR;have D4:=a_ tR;clear tR;generalize (((((((w3.setCell ⟨B,0,none⟩ (.int .i64 S.aa)).setCell ⟨B,1,none⟩ (.int .i64 S.top)).setCell ⟨B,2,none⟩ (.int .i64 ot)).setCell ⟨B,3,none⟩ (.int .i64 ((ot:Int)+S.c.d_))).setCell ⟨B,4,none⟩ (.int .i64 S.c.block)).setCell ⟨B,5,none⟩ (.int .i64 S.c.aL)).setCell ⟨B,6,none⟩ (.int .i64 S.c.aE))=w7 at *;clear b0 b1 b2 b3 b4 b5 b6 f0 f1 f2 f3 f4 f5 f6 hHeld hcs D3 D2 D0;have q:=D4.has.head;obtain⟨r0,r1,r2,r3,r4,r5,r6, -⟩:=eX q;clear q
 try go_wp2
 refine bodyPost_ret (v:= .agg #[S.aa,S.top,ot,((ot:Int)+S.c.d_:Int),S.c.block,S.c.aL,S.c.aE]) (by simp[results,results83,go_sem,r0,r1,r2,r3,r4,r5,r6]) rfl ⟨?_,?_⟩
 ·rw[show ((ot+S.c.d_:Nat):Int)=(ot:Int)+S.c.d_ from by omega]
 ·exact D4.tail.quiet H.1 D4.has.tail
end
section
variable {hb m rb run jn:Nat} {cy:Option Nat} {S:HS} {w w':World}
def EL {d_ c_ e_ t:Nat} {v:VS} {Rm:BL} {b x:Nat} (hm:aH m d_ c_ e_ t v Rm) (hw:1<=d_) (dw:b+S.c.d_<=d_) (hx:b<=x/\x<=b+S.c.d_) (hl:d_<=1000000) (hR:At ((hb,bK S.c m rb run cy S.ae S.af)::Rm) w):
  WR 85 #[Wz hb,b,x] w (.tuple #[]) λw'=>∃r,ag ((hb,bK S.c m rb run cy S.ae S.af)::Rm) ((hb,bK S.c m rb r cy S.ae S.af)::(r,bF m b x (b+S.c.d_))::Rm) w w':=by
 have HN:=a_ (λW (hA:Has Rm W)=>Ff (w:=W) hm hA hw b (b+S.c.d_) ⟨by omega,dw⟩);have HS:=a_ (λr W (hA:At [(r,bF m b b (b+S.c.d_))] W)=>Fg (w:=W) hA hx);have D0:=a_ (ag.refl hR);have D1:=a_ D0.drew;have HC:=a_ (λW R run (h:Has ((hb,bK S.c m rb run cy S.ae S.af)::R) W)=>(show W.cell? ⟨hb,8,none⟩=some (.pointer (some ⟨m,0,none⟩))/\W.cell? ⟨hb,3,none⟩=some (.int .i64 S.c.d_) from
  have hc:=az (S:=S) h.head
  ⟨hc.c8,hc.c3⟩))
 have hcs:=HC _ _ run hR.1;have s1:IntKind.i64.wrap ((b:Int)+S.c.d_)=((b+S.c.d_:Nat):Int):=by rw[IntWalk.i64_in _ (by omega)];omega
 clear hm hR hx dw;go_enter func85,ntmps85;go_wp2;refine wp_region_held_drew (S:=λW=>W.cell? ⟨hb,8,none⟩=some (.pointer (some ⟨m,0,none⟩))/\W.cell? ⟨hb,3,none⟩=some (.int .i64 S.c.d_)) (by kernel_rfl) hcs (λhHeld=>?_);generalize w.drew=w1 at *;refine bz 0 ?_;refine bz 1 ?_;refine bz 2 ?_;refine bz 3 ?_;refine bz 4 ?_;refine bz 5 ?_;refine bz 6 ?_;refine bz 7 ?_;refine bz 8 ?_;refine bz 9 ?_;refine bz 10 ?_;refine bz 11 ?_;refine bz 12 ?_;simp only[aI];refine pT 13 (λK hK=>?_);go_simp;refine (HN _ D1.has.tail).mono ?_;rintro e w2 ⟨r,rfl,d2⟩;have D2:=a_ ((D1.bh d2).perm (R':=(hb,bK S.c m rb run cy S.ae S.af)::(r,bF m b b (b+S.c.d_))::Rm) aF);clear d2;refine hK _ _ (HC _ _ run D2.has) (λhHeld=>?_);clear hK K
 try simp only[aI]
 have q:=D2.has.head;have dW:=an q 10 (.pointer (some ⟨run,0,none⟩)) rfl;have f10:=br q 10;clear q;refine bz 14 ?_;refine bz 15 ?_;refine bz 16 ?_;refine bz 17 ?_;refine bz 18 ?_;simp only[aI];refine pT 19 (λK hK=>?_);go_simp;have D3:=a_ (show ag ((hb,bK S.c m rb run cy S.ae S.af)::Rm) ((hb,bK S.c m rb r cy S.ae S.af)::(r,bF m b b (b+S.c.d_))::Rm) w (w2.setCell ⟨hb,10,none⟩ (.pointer (some ⟨r,0,none⟩))) from D2.set 10 (Wz r));refine hK _ _ (HC _ _ r D3.has) (λhHeld=>?_);clear hK K
 try simp only[aI]
 refine wpAnyH_done (by kernel_rfl) ?_ _
 try simp only[aI]
 generalize w2.setCell ⟨hb,10,none⟩ (.pointer (some ⟨r,0,none⟩))=w3 at *;clear dW f10 hHeld hcs D2 D1 D0 HC HN;have dW:=an D3.has.head 10 (.pointer (some ⟨r,0,none⟩)) rfl
 go_wp2_with (go_at_call 87;refine (HS r _ (At.left (A:= [_]) D3.at_.tail)).kq ?_;rintro w4 d4;have D4:=a_ ((D3.perm (R':= [(r,bF m b b (b+S.c.d_))]++((hb,bK S.c m rb r cy S.ae S.af)::Rm)) aF).step d4);clear d4)
 go_end0
 exact⟨rfl,r,D4.perm aF⟩
end
section
variable {kb m d_ c_ e_ t to W a x y n i rb:Nat} {g:Nat->Nat} {v v0:VS} {s:CS} {St:Nat->Prop} {dn:Nat->Nat->Prop} {R Rm Rr:BL} {zs:List Nat} {w w':World} {c:eZ}
def yu (hnd:s.l.Nodup) (hi:i<s.l.length):aN g s.l s.l[i]=bW g (s.l.take i)/\s.l[i]∉s.l.take i:=by
 have hn:s.l[i]∉s.l.take i:=λhm=>by
  obtain⟨j,hj,e⟩:=List.getElem_of_mem hm;rw[List.getElem_take] at e;rw[List.length_take] at hj;have:=(List.getElem?_inj (i:=j) (j:=i) (by omega) hnd).1 (by rw[List.getElem?_eq_getElem (by omega),List.getElem?_eq_getElem hi,e]);omega
 refine⟨?_,hn⟩;have e:s.l=(s.l.take i++ [s.l[i]])++s.l.drop (i+1):=by
  rw[←List.take_succ_eq_append_getElem hi,List.take_append_drop]
 have h1:aN g s.l s.l[i]=aN g (s.l.take i++ [s.l[i]]) s.l[i]:=by
  have:=kW (g:=g) (s.l.drop (i+1)) (l:=s.l.take i++ [s.l[i]]) (x:=s.l[i]) (List.mem_append_right _ (List.mem_singleton.2 rfl));rw[←e] at this;exact this
 rw[h1,od hn]
def scan_step (hw:zC g St to W) (hg:g=v0.wd) (hi:i<s.l.length) (h:cV g St to v0 s (λz _=>z∈s.l.take i)):
  cV g St to v0 (aV g to s (to+aN g s.l s.l[i]) (Hd.tp (g s.l[i]))) (λz _=>z∈(aV g to s (to+aN g s.l s.l[i]) (Hd.tp (g s.l[i]))).l.take (i+1))/\(∃u,(aV g to s (to+aN g s.l s.l[i]) (Hd.tp (g s.l[i]))).l=s.l++u)/\
   bW g ((aV g to s (to+aN g s.l s.l[i]) (Hd.tp (g s.l[i]))).l.take (i+1))=aN g s.l s.l[i]+bC (g s.l[i]):=by
 obtain⟨ho,hnd⟩:=yu (g:=g) h.nodup hi;obtain⟨h1,h2, -⟩:=cV.turn hw hg (λz hz=>List.mem_of_mem_take hz) hnd (List.getElem_mem hi) h _ (Nat.le_refl _);have e:(dA g s.l[i]).take (Hd.tp (g s.l[i]))=dA g s.l[i]:=List.take_of_length_le (by simp[dA]);rw[e] at h2;generalize hs1:aV g to s (to+aN g s.l s.l[i]) (Hd.tp (g s.l[i]))=s1 at *;obtain⟨t,ht⟩:=lC (dA g s.l[i]) s.l;have xc:s1.l=s.l++t:=h2.trans ht;have htake:s1.l.take (i+1)=s.l.take i++ [s.l[i]]:=by
  rw[xc,List.take_append_of_le_length (by omega),List.take_succ_eq_append_getElem hi]
 refine⟨h1.congr (dn':=λz _=>z∈s1.l.take (i+1)) λz hz r hr=>?_,⟨t,xc⟩,?_⟩
 ·rw[htake,List.mem_append,List.mem_singleton];constructor
  ·rintro (a | rfl)
   ·exact .inl a
   ·exact .inr ⟨rfl,hr⟩
  ·rintro (a | ⟨a,_⟩)
   ·exact .inl a
   ·exact .inr a
 ·rw[htake,lL,ho]
def Br:∀l:List Nat,l.length<=bW g l
 | []=>Nat.zero_le _
 | x::l=>by
  have h1:=Br l;have e:bW g (x::l)=bC (g x)+bW g l:=by simp[bW]
  rw[e,List.length_cons];unfold bC;omega
def roots_cp {v1:VS} {K B:BL} (hr:dO rb zs Rr) (Kp:xg d_ c_ v1.wd (fF v1.wd zs) to W v1) (hz:∀a∈zs,a=0\/fF v1.wd zs a) (uD:∀b,v1.wd b<18446744073709551616) (hT:ax w) (hN:aD B)
  (hm:mj kb m d_ c_ e_ t v1.wd to ⟨[],v1⟩ R) (hd:ag B (R++(Rr++K)) w w'):
  WR 166 #[Wz rb,.func (.func 167) #[.pointer (some ⟨kb,0,none⟩)] #[]] w' (.tuple #[]) λw2=>∃R' fG,mj kb m d_ c_ e_ t v1.wd to (aZ (iR v1.wd to) ⟨[],v1⟩ zs).1 R'/\cV v1.wd (fF v1.wd zs) to v1 (aZ (iR v1.wd to) ⟨[],v1⟩ zs).1 (λ_ _=>False)/\dO rb (aZ (iR v1.wd to) ⟨[],v1⟩ zs).2 fG/\ag B (R'++(fG++K)) w w2:=by
 have hI0:cV v1.wd (fF v1.wd zs) to v1 ⟨[],v1⟩ (λ_ _=>False):=⟨List.nodup_nil,λx hx=>(by cases hx),⟨rfl,rfl,rfl⟩,λ_ _=>rfl,λx hx=>(by cases hx),λx hx=>(by cases hx),uD⟩
 refine (pW (w:=w') (w0:=w) (R0:=B) (step:=iR v1.wd to) (first:= #[.pointer (some ⟨kb,0,none⟩)]) (caps:= #[]) (F:=167) (λargs w=>(by kernel_rfl))
  (I:=λ(s:CS) Rst=>∃Rk,mj kb m d_ c_ e_ t v1.wd to s Rk/\cV v1.wd (fF v1.wd zs) to v1 s (λ_ _=>False)/\Rst=Rk++K) (st:=⟨[],v1⟩) ?_ hr (Rst:=R++K) ⟨R,hm,hI0,rfl⟩ (hd.perm (R':=Rr++(R++K)) aF)).mono ?_
 ·intro s x E Rst W2 hx h0 hI CW;obtain⟨Rk,h1,h2,rfl⟩:=hI;have jl:=hz x hx;have SG:=CW.perm (R':=Rk++(E++K)) aF;refine (Fp (w:=W2) Kp h2 jl h1 SG.at_.left (CW.tz hT hN) (aD.app.1 (SG.cK hT hN)).1).kq ?_;rintro W3 ⟨R',c1,d1⟩;exact⟨rfl,_,⟨R',c1,h2.BQ Kp.cw rfl jl (λz r q=>q.elim),rfl⟩,(SG.step d1).perm (R':=E++(R'++K)) aF⟩
 ·rintro e w2 ⟨rfl,R',Ci,h1,⟨Rk,h2,h3,rfl⟩,h4⟩;exact⟨rfl,Rk,R',h2,h3,h1,h4.perm (R':=Rk++(R'++K)) aF⟩
def mj.frontier (h:mj kb m d_ c_ e_ t g to s R) (hR:Has R w):w.cell? ⟨kb,2,none⟩=some (.int .i64 (to+bW g s.l:Nat)):=by
 obtain⟨wb,n,mw,ow,Rm,rfl,hm,hv,hn,Aa⟩:=h;exact an hR.head 2 _ rfl
def mj.parts (h:mj kb m d_ c_ e_ t g to s R):∃Rk Rm,R=Rk++Rm/\aH m d_ c_ e_ t s.v Rm/\(∀W,Has R W->W.cell? ⟨kb,2,none⟩=some (.int .i64 (to+bW g s.l:Nat)))/\∀R2 W,Has (Rk++R2) W->W.cell? ⟨kb,2,none⟩=some (.int .i64 (to+bW g s.l:Nat)):=by
 obtain⟨wb,n,mw,ow,Rm,rfl,hm,hv,hn,Aa⟩:=h;exact⟨[_,_],Rm,rfl,hm,λW hR=>an hR.head 2 _ rfl,λR2 W hR=>an hR.head 2 _ rfl⟩
def scanC_done (hi:s.l.length<=i):gZ g to n i s=s:=by
 cases n with
 | zero=>rfl
 | succ n=>rw[gZ,dif_neg (by omega)]
def scanC_more (hi:i<s.l.length) (hn:i+1<=n):gZ g to (n-i) i s=gZ g to (n-(i+1)) (i+1) (aV g to s (to+aN g s.l s.l[i]) (Hd.tp (g s.l[i]))):=by
 rw[show n-i=(n-(i+1))+1 from by omega,gZ,dif_pos hi]
def copy_run {v1:VS} (h:aH m d_ c_ e_ t v Rm) (ht:t<=999000000000000) (hr:dO rb zs Rr) (hw:Whole v.wd St (cR d_ c_ v) d_) (hz:∀a∈zs,a=0\/St a) (hfit:∀a,St a->c.cq<=a/\a+bC (v.wd a)<=c.top)
  (hc:c.Ok c_ d_) (hp:Fr.dp c_) (tN:1<=c_) (Ac:bd (aj v.wd zs) d_<=c.aT-c.to) (fZ:1<=d_/\d_<=1000000) (hn:bd (aj v.wd zs) d_=n)
  (hE:dc d_ c_ e_ v (c.to:Nat) (c.to+n:Nat)=0) (IZ:bH d_ c_ e_ v (c.to:Nat) (c.to+n:Nat)=v1) (Kp:xg d_ c_ v1.wd (fF v1.wd zs) c.to n v1) (uD:∀b,v1.wd b<18446744073709551616)
  (hR:At (Rm++Rr) w) (hT:ax w) (hg:aD (Rm++Rr)):
  WR 84 #[Wz m,Wz rb,.agg c.cells] w (.tuple #[(c.to+bW v1.wd (qn v1.wd c.to v1 zs).l:Nat),Wy]) λw'=>∃bI fG,
   aH m d_ c_ e_ (t+d_/c_) (fA (d_/c_) (λ_=>true) (c.cq/c_) ((c.top+c_-1)/c_-c.cq/c_) (qn v1.wd c.to v1 zs).v) bI/\
   dO rb (aZ (iR v1.wd c.to) ⟨[],v1⟩ zs).2 fG/\ag (Rm++Rr) (bI++fG) w w':=by
 have MG:=a_ (λK W (hd:ag (Rm++Rr) ((Rm++Rr)++K) w W)=>sound_s (w:=W) h hr hw hz hfit hc hp tN Ac fZ hd.at_.left (hd.tz hT hg) hg);rw[hn] at MG;have oO:=hc.to;have hsl:n<=c.aT-c.to:=by omega
 have Mx:=a_ (λW (hA:At Rm W)=>(show WR 165 #[Wz m,c.to,((c.to:Int)+n:Int)] W Wy λw'=>∃R',aH m d_ c_ e_ (t+d_/c_) v1 R'/\ag Rm R' W w' from by
  have:=rk h hA ht (c.to:Nat) (c.to+n:Nat);rw[hE,IZ,show ((c.to+n:Nat):Int)=(c.to:Int)+n from by omega] at this;exact this))
 have hmkm:∀W:World,(Instr.makeMap 132 none).run prog W= .ok (.map (some W.heap.size)) (W.alloc (.map #[] 0)):=λW=>rfl
 have s1:=eH ((c.to:Int)+n);have D0:=a_ (((ag.refl hR).box c.cells 126).perm (R':=(Rm++Rr)++ [(w.heap.size,.cells c.cells 126 (0,0))]) aF);obtain⟨HT,Hg,Hr,Hu,Hsm,Hc⟩:=uB hT hg hr Kp uD hc;have Hz:=a_ (show ∀a∈zs,a=0\/fF v1.wd zs a from λa ha=>(Classical.em (a=0)).imp id λe=> .root ha e);have HDm:=a_ (And.intro fZ (And.intro oO hsl));obtain⟨F,T,O,L,B,S,A⟩:=c;unfold eZ.cells at *;simp only at *;clear h ht hr hw hz hfit hc Ac hn hE IZ Kp uD hR hT hg fZ oO hsl;go_enter func84,ntmps84;have q0:=D0.has.right.head;obtain⟨a0,a1,a2,a3,a4,a5,a6, -⟩:=eX q0;clear q0
 go_wp2_with (first
  | (go_at_call 164;refine (MG _ _ D0).kq ?_;rintro w1 hb;have D1:=a_ (D0.grow hb);clear hb a0 a1 a2 a3 a4 a5 a6;have b2:w1.cell? ⟨w.heap.size,2,none⟩=some (.int .i64 O):=an D1.has.right.head 2 _ rfl)
  | (go_at_call 165;refine (Mx _ D1.at_.left.left).kq ?_;rintro w2 ⟨JN,m2,d2⟩;have M2:=a_ m2;have D2:=a_ ((D1.perm (R':=Rm++(Rr++ [(w.heap.size,.cells #[F,T,O,L,B,S,A] 126 (0,0))])) aF).step d2);clear m2 d2 b2;have D3:=a_ (D2.obj (.map #[] 0));have b3:(w2.alloc (.map #[] 0)).cell? ⟨w.heap.size,2,none⟩=some (.int .i64 O):=an D3.has.tail.right.right.head 2 _ rfl;have tR:=D3.box #[Wz m,.map (some w2.heap.size),O] 247;rw[World.size_alloc] at tR;have D4:=a_ (tR.perm (R':=((w2.heap.size+1,.cells #[Wz m,.map (some w2.heap.size),O] 247 (0,0))::(w2.heap.size,.map #[] 0)::JN)++(Rr++ [(w.heap.size,.cells #[F,T,O,L,B,S,A] 126 (0,0))])) aF);clear tR)
  | (go_at_call 166;refine (roots_cp (w:=w) (B:=Rm++Rr) (t:=t+d_/c_) (d_:=d_) (c_:=c_) (e_:=e_) (m:=m) (to:=O) (K:= [(w.heap.size,.cells #[F,T,O,L,B,S,A] 126 (0,0))]) (R:=(w2.heap.size+1,.cells #[Wz m,.map (some w2.heap.size),O] 247 (0,0))::(w2.heap.size,.map #[] 0)::JN) Hr Hu Hz Hsm HT Hg ⟨w2.heap.size,0,_,_,JN,rfl,M2,VM.made,Nat.zero_le _,λa=>(by rw[b_ (by simp)])⟩ D4).kq ?_;rintro w5 ⟨Rk5,Ih,c5,i5,r5,d5⟩;have Hr5:=a_ r5;have C5:=a_ c5;have I5:=a_ i5;have D5:=a_ d5;clear r5 c5 i5 d5 b3;have b2:w5.cell? ⟨w.heap.size,2,none⟩=some (.int .i64 O):=an D5.has.right.right.head 2 _ rfl))
 clear MG Mx D0 D1 D2 D3 D4 M2 Hr hmkm s1;generalize w2.heap.size+1=kb at *;obtain⟨s0,hs0⟩:∃s0,(aZ (iR v1.wd O) ⟨[],v1⟩ zs).1=s0:=⟨_,rfl⟩
 rw[hs0] at C5 I5;have Lh:=a_ (show qn v1.wd O v1 zs=gZ v1.wd O 1000000 0 s0 from by rw[qn,hs0]);clear hs0;obtain⟨g,hg⟩:∃g,v1.wd=g:=⟨_,rfl⟩
 rw[hg] at C5 I5 Lh Hu Hz;have HG:=a_ hg;clear hg
 go_loopw [12] (λav wr=>∃(a i:Nat) (s:CS) (Rk:BL),av= .int .i64 (a:Nat)/\a=O+bW g (s.l.take i)/\i<=s.l.length/\mj kb m d_ c_ e_ (t+d_/c_) g O s Rk/\cV g (fF g zs) O v1 s (λz _=>z∈s.l.take i)/\gZ g O (1000000-i) i s=qn g O v1 zs/\ag (Rm++Rr) (Rk++(Ih++ [(w.heap.size,.cells #[F,T,O,L,B,S,A] 126 (0,0))])) w wr) (λav _=>(O+n)-(intOf av).toNat)
 case atStart=>exact⟨O,0,s0,Rk5,rfl,by simp[bW],Nat.zero_le _,C5,I5.congr λz _ r _=>⟨λq=>by simp at q,λq=>q.elim⟩,Lh.symm,D5.out⟩
 case round=>
  clear C5 I5 Lh D5 b2;obtain⟨a,i,s,Rk,rfl,ha,hi,hC,hI,hs,hD⟩:=hrel;have nM:=hC.frontier hD.has.left;have hroom:=Hu.cw.e_ s.l hI.nodup hI.st;have hlen:=Br (g:=g) s.l;obtain⟨fZ,oO,hsl⟩:=HDm.out;by_cases hlt:i<s.l.length
  ·obtain⟨ho,VH⟩:=yu (g:=g) hI.nodup hlt;have hle:=ia (g:=g) (List.getElem_mem hlt);have wX:a=O+aN g s.l s.l[i]:=by rw[ho];exact ha
   have Ui:=a_ (turn_k (w:=wr) (L:=s.l.take i) Hu (λz hz=>List.mem_of_mem_take hz) VH (List.getElem_mem hlt) hI hC hD.at_.left (hD.tz HT Hg) (aD.app.1 (hD.cK HT Hg)).1);obtain⟨n1,⟨u,hu⟩,n3⟩:=scan_step Hu.cw Hu.g0 hlt hI;have IX:=scanC_more (g:=g) (to:=O) (n:=1000000) hlt (by omega);have hsz:1<=bC (g s.l[i]):=by unfold bC;omega
   rw[←wX] at Ui n1 n3 IX hu;have n4:O+bW g ((aV g O s a (Hd.tp (g s.l[i]))).l.take (i+1))=a+bC (g s.l[i]):=by omega
   have n5:i+1<=(aV g O s a (Hd.tp (g s.l[i]))).l.length:=by
    rw[hu,List.length_append];omega
   rw[hs] at IX;have HN:=a_ (And.intro n1 (And.intro n4 (And.intro n5 IX)));have HD:=a_ hD;clear n1 n3 n4 n5 IX hs hu hC hI hD ho VH;generalize aV g O s a (Hd.tp (g s.l[i]))=s3 at *;obtain⟨f,hf⟩:∃f,O+bW g s.l=f:=⟨_,rfl⟩
   rw[hf] at nM;have g1:decide ((a:Int)<f)=true:=kr;have z1:f<=1000000:=by omega
   have z2:a+bC (g s.l[i])<=f:=by omega
   have z3:f<=O+n:=by omega
   clear hroom hlen wX hle ha hf;generalize bC (g s.l[i])=sz at *
   go_wp2_with (go_at_call 168;refine Ui.kq ?_;rintro w3 ⟨R3,x3,d3⟩;have X3:=a_ x3;have H3:=a_ (HD.step d3);clear x3 d3)
   go_roundw
   case rel=>exact⟨a+sz,i+1,s3,R3,rfl,HN.2.1.symm,HN.2.2.1,X3,HN.1,HN.2.2.2.symm,H3⟩
   case measure=>simp[intOf];omega
  ·obtain rfl:i=s.l.length:=by omega
   rw[List.take_length] at ha;rw[scanC_done (Nat.le_refl _)] at hs;obtain⟨Lv,RW,rfl,zZ, -,hfc⟩:=hC.parts;have H:=a_ zZ;have D6:=a_ (hD.perm (R':=Lv++(RW++(Ih++ [(w.heap.size,.cells #[F,T,O,L,B,S,A] 126 (0,0))]))) aF);clear hC hI hD zZ hlen;have Ha:=a_ ha;have hal:a<=1000000:=by omega
   rw[←ha] at nM hfc;obtain⟨vv,Te⟩:∃vv,s.v=vv:=⟨_,rfl⟩
   rw[Te] at H;have Hs:=a_ (And.intro hs Te);clear hs Te hroom ha;have gd:=a_ (λRx W2 (h:Has (Lv++(Rx++(Ih++ [(w.heap.size,.cells #[F,T,O,L,B,S,A] 126 (0,0))]))) W2)=>
    (show W2.cell? ⟨w.heap.size,0,none⟩=some (.int .i64 F)/\W2.cell? ⟨w.heap.size,1,none⟩=some (.int .i64 T)/\W2.cell? ⟨kb,2,none⟩=some (.int .i64 (a:Nat)) from
    ⟨an h.right.right.right.head 0 _ rfl,an h.right.right.right.head 1 _ rfl,hfc _ _ h⟩))
   obtain⟨k1,k2,k3⟩:=gd RW wr D6.has;have zm:=a_ (λvv Rx W2 (h:aH m d_ c_ e_ (t+d_/c_) vv Rx) (hA:Has Rx W2)=>lG h hA);have Vf:F<=T:=Hc.cq.2.1;have PW:T<=d_:=Hc.cq.2.2;have Iy:F%c_=0:=Hc.whole.1;obtain⟨qF,Bj⟩:∃qF,F/c_=qF:=⟨_,rfl⟩
   obtain⟨nn,hn⟩:∃nn,(T+c_-1)/c_-qF=nn:=⟨_,rfl⟩
   have Iw:F=qF*c_:=by rw[←Bj,Nat.div_mul_cancel (Nat.dvd_of_mod_eq_zero Iy)]
   have Ad:∀x,x<(T+c_-1)/c_↔x*c_<T:=λx=>tx tN
   have qz:qF+nn=(T+c_-1)/c_:=by
    have:qF<=(T+c_-1)/c_:=by
     rw[Nat.le_div_iff_mul_le (by omega),←Iw];omega
    omega
   have qy:∀j,j<nn↔(qF+j)*c_<T:=λj=>by
    rw[←Ad];omega
   have sa:=a_ qy;have ht1:(F:Int).tdiv (c_:Int)=(qF:Int):=by
    rw[Int.tdiv_eq_ediv_of_nonneg (by omega),←Bj];rfl
   have ht2:IntKind.i64.wrap (qF:Int)=qF:=IntWalk.i64_in _ (by have:=Nat.div_le_self F c_;omega);have KQ:((c_:Int)==0)=false:=by rw[beq_eq_false_iff_ne];omega
   have KR:¬(c_:Int)=0:=by omega
   have KS:¬c_=0:=by omega
   have Ib:=a_ (And.intro Bj (And.intro hn qz));have g1:decide ((a:Int)<a)=false:=dP;clear Bj hn qz Iw Ad qy Iy;go_wp2
   go_quiet ((go_at_call 169;exact gl (zm _ _ _ H (D6.grow (Fr.aA _ _)).has.right.left)))
   have rA:=a_ (D6.grow (Fr.aA nq wr));generalize wr.drewN nq=FN at *;clear k1 k2 k3 D6 ht1 ht2 nM g1;go_wp2
   go_loopw [13] (λqv wr=>∃(j:Nat) (Rx:BL),qv= .int .i64 ((qF:Int)+j)/\j<=nn/\aH m d_ c_ e_ (t+d_/c_) (fA (d_/c_) (λ_=>true) qF j vv) Rx/\ag (Rm++Rr) (Lv++(Rx++(Ih++ [(w.heap.size,.cells #[F,T,O,L,B,S,A] 126 (0,0))]))) w wr) (λqv _=>(qF+nn)-(intOf qv).toNat)
   case atStart=>exact⟨0,RW,by simp,Nat.zero_le _,H,rA⟩
   case round=>
    clear rA;obtain⟨j,Rx,rfl,hj,hM,hD⟩:=hrel;obtain⟨-, -,qz⟩:=Ib.out;have NG:(qF+j)*c_<=2000000:=by
     have h1:(qF+j)*c_<=(qF+nn)*c_:=Nat.mul_le_mul_right _ (by omega);rw[qz] at h1;have h2:=Nat.div_mul_le_self (T+c_-1) c_;have h3:c_<=256:=by rcases hp with q | q | q | q | q | q | q | q | q<;>omega
     omega
    have KM:qF+j<=d_:=by
     have h1:qF+nn<=T:=by
      rw[qz];have:(T+c_-1)/c_<T+1:=by
       rw[Nat.div_lt_iff_lt_mul (by omega),Nat.add_mul,Nat.one_mul];have:=Nat.le_mul_of_pos_right T (show 0<c_ by omega);omega
      omega
     omega
    obtain⟨Pq,Eg⟩:∃Pq,(qF+j)*c_=Pq:=⟨_,rfl⟩
    have tM:IntKind.i64.wrap (((qF:Int)+j)*c_)=(Pq:Int):=by
     have e:((qF:Int)+j)*c_=(Pq:Int):=by
      rw[←Eg]
      push_cast
      rfl
     rw[e];exact IntWalk.i64_in _ (by omega)
    have kO:=sa j;rw[Eg] at kO NG;obtain⟨HM,HD⟩:=aO hM hD;obtain⟨k1,k2,k3⟩:=gd Rx wr hD.has;clear hM hD qz Eg;by_cases gR:j<nn
    ·have KC:=kO.1 gR;have g1:decide ((Pq:Int)<T)=true:=kr;clear kO;go_wp2
     go_quiet ((go_at_call 169;exact gl (zm _ _ _ HM (HD.grow (Fr.aA _ _)).has.right.left)))
     have gq:=a_ ((HD.grow (Fr.aA nq wr)).perm (R':=Rx++(Lv++(Ih++ [(w.heap.size,.cells #[F,T,O,L,B,S,A] 126 (0,0))]))) aF);generalize wr.drewN nq=Au at *;clear k1 k2 k3 g1 tM HD;have Fy:=a_ (oE (w:=Au) HM gq.at_.left ((qF+j:Nat):Int));rw[show ((qF+j:Nat):Int)=(qF:Int)+j from by omega] at Fy;have nK:fA (d_/c_) (λ_=>true) qF (j+1) vv=bY (d_/c_) (fA (d_/c_) (λ_=>true) qF j vv) ((qF:Int)+j):=by
      rw[fA,b9 rfl,show ((qF+j:Nat):Int)=(qF:Int)+j from by omega]
     have t2:=eH ((qF:Int)+j+1);have zH:=a_ nK;clear nK KC
     go_wp2_with (go_at_call 170;refine Fy.kq ?_;rintro Ww ⟨Ly,m3,d3⟩;have M3:=a_ m3;have D3:=a_ ((gq.step d3).perm (R':=Lv++(Ly++(Ih++ [(w.heap.size,.cells #[F,T,O,L,B,S,A] 126 (0,0))]))) aF);clear m3 d3)
     go_roundw
     case rel=>exact⟨j+1,Ly,by go_num,gR,by rw[zH.out];exact M3,D3⟩
     case measure=>simp[intOf];omega
    ·obtain rfl:j=nn:=by omega
     have g2:¬Pq<T:=λq=>gR (kO.2 q)
     have g1:decide ((Pq:Int)<T)=false:=dP;clear kO;go_wp2
     go_quiet ((go_at_call 169;exact gl (zm _ _ _ HM (HD.grow (Fr.aA _ _)).has.right.left)))
     have gq:=a_ (HD.grow (Fr.aA nq wr));generalize wr.drewN nq=Au at *;clear k1 k2 k3 tM HD;obtain⟨k1,k2,k3⟩:=gd Rx Au gq.has;go_wp2;obtain⟨h1,h2,h3⟩:=Ib.out;obtain⟨h4,h5⟩:=Hs.out;have r5:=Hr5.out;rw[HG.out] at r5 ⊢;rw[←h4,h5,h1,h2,←Ha.out];refine bodyPost_ret (by simp[results,results84,go_sem];rfl) rfl ?_;exact⟨rfl,Rx,Ih,HM,r5,(gq.perm (R':=(Rx++Ih)++(Lv++ [(w.heap.size,.cells #[F,T,O,L,B,S,A] 126 (0,0))])) aF).bN⟩
end
section
variable {m d_ c_ e_ t rb F T S:Nat} {v:VS} {Rm Rr:BL} {zs:List Nat} {St:Nat->Prop} {w w':World}
def check_p (h:aH m d_ c_ e_ t v Rm) (hr:dO rb zs Rr) (hF:1<=F/\F<=T/\T<=d_) (hS:1<=S/\S<=4096) (fZ:1<=d_/\d_<=1048576) (hR:Has (Rm++Rr) w):
  WR 171 #[Wz m,Wz rb,F,T,S] w Wy λw'=>w=w':=by
 have HW:=a_ (iI h hR.left);have zE:=a_ (wI (w:=w) hr hR.right);have vS:1<=zs.length:=hr.1;have hzl3:=hr.2.1;have CE:(zs.length:Int)≠0:=by omega
 have Mf:((zs.length:Int)==0)=false:=by rw[beq_eq_false_iff_ne];exact CE
 have hwb:((d_:Int)==0)=false:=by rw[beq_eq_false_iff_ne];omega
 have g1:decide ((F:Int)<1)=false:=dP;have g2:decide ((T:Int)<F)=false:=dP;have g3:decide ((d_:Int)<T)=false:=dP;have g4:decide ((S:Int)<1)=false:=dP;have g5:decide ((4096:Int)<S)=false:=dP;generalize zs.length=zl at *;clear h hr hR;go_enter func171,ntmps171
 go_wp2_with (first | (go_at_call 157;refine HW.kq ?_;rintro w1 rfl) | (go_at_call 213;refine zE.kq ?_;rintro w1 rfl))
 go_ret;exact⟨rfl,rfl⟩
def next_fit {E:Nat->Nat} {N F:Nat} (hE:∀a,E a≠0->F<=a):∃(r z:Nat) (b:Bool),Cp E N 0= .tuple #[(r:Nat),(z:Nat),b]/\(b=true->decide ((r:Int)<F)=false):=by
 unfold Cp
 split
 ·next h=>
  have h0:=(dM (gL E) (N-0) 0).2.2.2 (by omega);refine⟨_,_,true,rfl,λ_=>decide_eq_false ?_⟩;have:=hE _ (dR.1 h0);omega
 ·exact⟨0,0,false,rfl,nofun⟩
def reached_p (h:aH m d_ c_ e_ t v Rm) (hr:dO rb zs Rr) (hw:Whole v.wd St (cR d_ c_ v) d_) (hz:∀a∈zs,a=0\/St a) (hfit:∀a,St a->F<=a/\a+bC (v.wd a)<=T) (PW:F<=T/\T<=d_)
  (hst:1<=S/\S<=4096) (fZ:1<=d_/\d_<=1048576) (hR:At (Rm++Rr) w) (hT:ax w) (hg:aD (Rm++Rr)):
  WA 172 #[Wz m,Wz rb,F,T,S] w λe w'=>∃ob,e= .returned (.tuple #[Wz ob,Wy])/\∃Ro,dg ob d_ (aj v.wd zs) Ro/\ag [] Ro w w':=by
 have HW:=a_ (λW (hW:Has Rm W)=>iI h hW);have HX:=a_ (λW=>nF d_ W fZ.1 fZ.2);have D0:=a_ (ag.refl hR);obtain⟨H,Hr,Hw,Hz,HT,Hg,HR⟩:=Et h hr hw hz hT hg hR;have hE:∀a,aj v.wd zs a≠0->F<=a/\a+aj v.wd zs a<=T:=λa ha=>by
  have h1:=cA.1 ha;have h2:=hfit a (fF.st hw hz h1);rw[show aj v.wd zs a=bC (v.wd a) from b9 h1];exact h2
 have HE:=a_ hE;have mX:=a_ (λW (hd:Has Rr W)=>ru (w:=W) hr hd);have et:=a_ (λob Ro W K al cap Rw (O2:dg ob d_ wo Ro) (row:Rz 3 1 zs.length (ez zs) al cap Rw) (hd:ag (Rm++Rr) ((Ro++(Rm++Rw))++K) w W)=>(show WA 158 #[.iface 92 (.pointer (some ⟨m,0,none⟩)),.slice al zs.length cap,Wz ob,S] W λe w'=>∃r v':Int,e= .returned (.tuple #[.agg #[(bQ (aj v.wd zs) d_:Nat),(bd (aj v.wd zs) d_:Nat),r,v'],Wy])/\∃ew,dg ob d_ (aj v.wd zs) ew/\ag Ro ew W w' from by
  have h2:=hd.bN;exact nW (nX h) hw hz row (by have:=hr.2.1;omega) hst.1 hst.2 O2 h2.at_ (h2.tz hT hg) (h2.cK hT hg)))
 have Fv:=a_ (λob Ro W (O:dg ob d_ (aj v.wd zs) Ro) (hW:Has Ro W) (hT:ax W)=>pz (w:=W) 0 O hW hT (by omega));have FV:=a_ (λob Ro W (O:dg ob d_ (aj v.wd zs) Ro) (hW:Has Ro W) (hT:ax W)=>elive_zero (w:=W) T O hW hT PW.2 (λs hs=>(hE s hs).2));obtain⟨nr,nz,nb,CY,zy⟩:=next_fit (N:=d_) (λa ha=>(hE a ha).1);rw[CY] at Fv;clear h hr hw hz hT hg hR hE hfit CY;go_enter func172,ntmps172
 go_wp2_with (first
  | (go_at_call 157;refine (HW _ D0.has.left).kq ?_;rintro w1 rfl)
  | (go_at_call 156;refine (HX _).mono ?_;rintro e w2 ⟨ob,rfl,Ro,o2,d2⟩;have O2:=a_ o2;have D2:=a_ (D0.bh d2);clear o2 d2)
  | (go_at_call 88;refine (mX _ D2.has.right.right).mono ?_;rintro e w4 ⟨al,cap,rfl,Rw,r4,d4⟩;have R4:=a_ r4;have D4:=a_ (D2.bh d4);clear r4 d4)
  | (go_at_call 158;refine (et _ _ _ Rr al cap Rw O2 R4 (D4.perm (R':=(Ro++(Rm++Rw))++Rr) aF)).mono ?_;rintro e w5 ⟨rr,rv,rfl,ew,o5,d5⟩;have O5:=a_ o5;have D5:=a_ ((D4.perm (R':=Ro++(Rw++(Rm++Rr))) aF).step d5);clear o5 d5))
 have D6:=a_ (D5.box #[(bQ (aj v.wd zs) d_:Nat),(bd (aj v.wd zs) d_:Nat),rr,rv] 236);obtain⟨bx,jJ⟩:∃bx,w5.heap.size=bx:=⟨_,rfl⟩
 rw[jJ] at D6;rw[jJ];generalize w5.alloc (.cells #[(bQ (aj v.wd zs) d_:Nat),(bd (aj v.wd zs) d_:Nat),rr,rv] 236)=w6 at *;have D7:=a_ (ag.fresh (R:=(bx,.cells #[(bQ (aj v.wd zs) d_:Nat),(bd (aj v.wd zs) d_:Nat),rr,rv] 236 (0,0))::(ew++Rw)) (D6.perm aF) HR.1);have LM:=a_ (D6.tz HT Hg);have Ue:=a_ (show Has Rm w6 from D6.has.tail.right.right.left);clear D2 D4 D5 D6 O2 et mX HX HR HT Hg jJ;refine (Fv ob ew w6 O5 D7.has.tail.left LM).kq ?_;rintro w7 rfl;have g1:(nb && decide ((nr:Int)<F))=false:=by
  cases nb
  ·rfl
  ·rw[zy rfl];rfl
 cases nb
 ·go_wp2_with (first | (go_at_call 250;refine (FV ob ew _ O5 D7.has.tail.left LM).kq ?_;rintro w7 rfl) | (go_at_call 157;refine (HW _ Ue).kq ?_;rintro w1 rfl))
  refine bodyPost_ret (by simp[results,results172,go_sem];rfl) rfl ?_;exact⟨ob,rfl,ew,O5,D7.tail.bN⟩
 ·have g2:F<=nr:=by have:=of_decide_eq_false (zy rfl);omega
  have g3:¬nr<F:=by omega
  have g4:=zy rfl
  go_wp2_with (first | (go_at_call 250;refine (FV ob ew _ O5 D7.has.tail.left LM).kq ?_;rintro w7 rfl) | (go_at_call 157;refine (HW _ Ue).kq ?_;rintro w1 rfl))
  refine bodyPost_ret (by simp[results,results172,go_sem];rfl) rfl ?_;exact⟨ob,rfl,ew,O5,D7.tail.bN⟩
end
structure oU (y:aJ) (d_ c_:Nat) (v:VS):Prop where
 w:y.d_=d_
 g:y.g=v.wd
 ok:bS y.E d_
 sz:∀x,y.E x≠0->y.E x=bC (v.wd x)
 is:∀x,y.E x≠0->0<x/\Hd.Is (v.wd x)
 mD:∀a,dI y.E a=true->cR d_ c_ v a
 dst:∀i,i<y.aq->cR d_ c_ v (y.c.to+i)
 lo:∀a,dI y.E a=true->y.c.to<=a
 sm:∀b,v.wd b<18446744073709551616
 jn:d_<=1048576
 to:y.c.to<2147483648
section
variable {m d_ c_ e_ t fb rb x n n0 j:Nat} {v:VS} {y:aJ} {Rm Rf:BL} {w w':World}
def oU.li (hx:j<y.E x):dI y.E (x+j)=true:=fR.2 ⟨x,Nat.le_add_right _ _,by omega⟩
def oU.at_ (h:oU y d_ c_ v) (hj:j<y.E x):aG (dI y.E) (x+j)=aG (dI y.E) x+j/\aG (dI y.E) x+j<y.aq/\y.bw (aG (dI y.E) x+j)=x+j/\y.c.to+(aG (dI y.E) x+j)<=x+j:=by
 have h1:aG (dI y.E) (x+j)=aG (dI y.E) x+j:=iw λi hi=>oU.li (by omega)
 have hl:=oU.li hj;have h2:=AJ (E:=y.E) (N:=y.d_) (by have:=(h.mD _ hl).1;rw[h.w];exact this) hl;rw[h1] at h2;have h3:y.bw (aG (dI y.E) x+j)=x+j:=h2.2;have h4:=aJ.down (y:=y) (lo:=y.c.to) h.lo (i:=aG (dI y.E) x+j) h2.1;rw[h3] at h4;exact⟨h1,h2.1,h3,h4⟩
def oU.ba (h:oU y d_ c_ v) {a:Nat} (ha:y.c.to+n<=a):(y.pk v.wd v n).wd a=v.wd a:=by
 rw[(aJ.yw y v.wd v n).2.2.2,cG]
def oU.JZ (h:oU y d_ c_ v) {a:Nat} (ha:cR d_ c_ v a):cR d_ c_ (y.pk v.wd v n) a:=vG ha (aJ.yw y v.wd v n).1
def oU.small (h:oU y d_ c_ v) (i:Nat):y.nw v.wd i<18446744073709551616:=aJ.oc y h.to h.sm i
def oU.smN (h:oU y d_ c_ v) (b:Nat):(y.pk v.wd v n).wd b<18446744073709551616:=by
 rw[(aJ.yw y v.wd v n).2.2.2]
 split
 ·exact h.small _
 ·exact h.sm b
def oU.step (h:oU y d_ c_ v) (hj:j<y.E x) (hn:aG (dI y.E) x=n0):
  eU d_ c_ (y.pk v.wd v (n0+j)) ((x:Int)+j)=v.wd (x+j)/\
  du d_ c_ (y.pk v.wd v (n0+j)) (((y.c.to+n0:Nat):Int)+j) (y.nw v.wd (n0+j))=y.pk v.wd v (n0+(j+1))/\
  y.nw v.wd (n0+j)=if v.wd (x+j)≠0/\Hd.kindOf (Hd.tp (v.wd x)) (Hd.tf (v.wd x)) (Hd.to (v.wd x)) ((j:Int)-1)=1 then y.to (IntKind.i64.wrap (v.wd (x+j):Nat)) else v.wd (x+j):=by
 obtain⟨h1,h2,h3,h4⟩:=h.at_ hj;rw[hn] at h1 h2 h3 h4;have hl:=oU.li hj;refine⟨?_,?_,?_⟩
 ·have:=(fS (h.JZ (n:=n0+j) (h.mD _ hl))).2;rw[show ((x+j:Nat):Int)=(x:Int)+j from by omega] at this;rw[this,h.ba h4]
 ·have:=(fS (h.JZ (n:=n0+j) (h.dst _ h2))).1;rw[show ((y.c.to+(n0+j):Nat):Int)=((y.c.to+n0:Nat):Int)+j from by omega] at this;unfold du;rw[b9 this,show ((((y.c.to+n0:Nat):Int)+j).toNat)=y.c.to+(n0+j) from by omega];rfl
 ·unfold aJ.nw aJ.tE qG;rw[h3,Ao (E:=y.E) (N:=d_) (s:=x) h.ok ⟨by omega,by omega⟩,h.g,show ((x+j:Nat):Int)-x=j from by omega];simp only[decide_eq_true_eq]
def It (h:gO fb d_ 64 y.E y.c.to Rf) (hR:At Rf w) (a:Int):
  WA 178 #[Wz fb,a] w λe w'=>∃k:Int,e= .returned (.tuple #[(y.to a:Nat),k])/\Below w.heap.size w w':=by
 cases ht:lh (dI y.E) a with
 | false=>
  refine (Ea a h hR ht).kq ?_;rintro w1 rfl;unfold aJ.to;rw[ht,b_ (by decide)];exact⟨6,rfl,Below.refl _ _⟩
 | true=>
  have h2:=ht;unfold lh at h2;rw[Bool.and_eq_true,decide_eq_true_eq] at h2;have h3:=AS a.toNat h hR h2.2;rw[Int.toNat_of_nonneg h2.1] at h3;refine h3.kq ?_;rintro w1 hb;unfold aJ.to;rw[ht,b9 rfl];exact⟨0,rfl,hb⟩
def oU.oA (h:oU y d_ c_ v) (a:Int):y.to a<=2148532223:=by
 have:=bE (dI y.E) a.toNat;unfold aJ.to
 split
 ·next ht=>
  unfold qp;have hin:a.toNat<d_:=by
   rcases Nat.lt_or_ge a.toNat d_ with q | q
   ·exact q
   ·have:=h.ok.vW _ q;unfold lh at ht;rw[this] at ht;simp at ht
  have h1:=h.jn;have h2:=h.to;omega
 ·omega
def oU.to_x (h:oU y d_ c_ v) (hx:y.E x≠0):y.to (x:Nat)=y.c.to+aG (dI y.E) x:=by
 have hl:=oU.li (y:=y) (x:=x) (j:=0) (by omega);unfold aJ.to lh;rw[b9 (by
  rw[Bool.and_eq_true,decide_eq_true_eq];exact⟨by omega,by rw[Int.toNat_natCast];exact hl⟩),Int.toNat_natCast]
 rfl
def move_p (hw:oU y d_ c_ v) (hx:y.E x≠0) (hn:aG (dI y.E) x=n0) (h:aH m d_ c_ e_ t (y.pk v.wd v n0) Rm) (hf:gO fb d_ 64 y.E y.c.to Rf) (hR:At (Rm++Rf) w) (hT:ax w) (hN:aD (Rm++Rf)):
  WR 176 #[Wz m,Wz fb,x,(y.E x:Nat)] w (.tuple #[]) λw'=>∃bI,aH m d_ c_ e_ t (y.pk v.wd v (n0+y.E x)) bI/\ag (Rm++Rf) (bI++Rf) w w':=by
 obtain⟨h1,h2,h3,h4⟩:=hw.at_ (x:=x) (j:=0) (by omega);rw[hn] at h2 h4;have hZ:(y.pk v.wd v n0).wd x=v.wd x:=hw.ba (by omega);obtain⟨x0,fY⟩:=hw.is x hx;have hsz:=hw.sz x hx;have hxl:=(hw.mD _ (oU.li (y:=y) (x:=x) (j:=y.E x-1) (by omega))).1;have ey:=hw.jn;have qf:=a_ (show WR 98 #[.iface 92 (.pointer (some ⟨m,0,none⟩)),(x:Nat)] w (.tuple #[.agg #[(Hd.tp (v.wd x):Nat),(Hd.tf (v.wd x):Nat),(Hd.to (v.wd x):Nat)],Wy]) λw'=>∃R',aH m d_ c_ e_ t (y.pk v.wd v n0) R'/\ag Rm R' w w' from by
  have ho:=wv (m:=m) (e_:=e_) (t:=t) (v:=y.pk v.wd v n0) (a:=x) x0 (λr hr=>hw.JZ (hw.mD _ (oU.li (by rw[hsz,←hZ];exact hr)))) ey (by rw[hZ];exact fY);have:=pU (w:=w) (eQ (m:=m)) (z:=y.pk v.wd v n0) (R:=Rm) ⟨h,hw.smN⟩ hR.left hT (aD.app.1 hN).1 ho.pos ho.FB ho.is;rw[show (bT m d_ c_ e_ t).ba (y.pk v.wd v n0) x=v.wd x from hZ] at this;refine this.kq ?_;rintro w' ⟨R',x1,d1⟩;exact⟨rfl,R',x1.1,d1⟩)
 have CN:=a_ (λa K Rx W (hd:ag (Rm++Rf) (Rx++(Rf++K)) w W)=>It (w:=W) hf hd.at_.right.left a);have Uj:=a_ (show ∀K Rx W,ag (Rm++Rf) (Rx++(Rf++K)) w W->WA 178 #[Wz fb,(x:Nat)] W λe w'=>∃k:Int,e= .returned (.tuple #[(y.c.to+n0:Nat),k])/\Below W.heap.size W w' from λK Rx W hd=>by
  have:=CN (x:Nat) K Rx W hd;rw[hw.to_x hx,hn] at this;exact this)
 have Uh:=a_ hw.oA;have oS:=a_ (λj (hj:j<y.E x)=>hw.step hj hn);have PF:=a_ (λj=>hw.small (n0+j));have Uf:=a_ (λj=>hw.sm (x+j));have Jv:=a_ (λj Rx W (hm:aH m d_ c_ e_ t (y.pk v.wd v (n0+j)) Rx) (hA:Has Rx W)=>jN (w:=W) hm hA ((x:Int)+j));have RH:=a_ (λj Rx W (hm:aH m d_ c_ e_ t (y.pk v.wd v (n0+j)) Rx) (hA:At Rx W)=>la (w:=W) hm hA (((y.c.to+n0:Nat):Int)+j) (y.nw v.wd (n0+j)) (hw.small _));have RA:=a_ (λj W=>Hd.nR (Hd.tp (v.wd x):Nat) (Hd.tf (v.wd x):Nat) (Hd.to (v.wd x):Nat) j W);have D0:=a_ (ag.refl hR);have z1:y.E x<=1048576:=by omega
 have z2:x<=1048576:=by omega
 have z3:y.c.to+n0<=1048576:=by omega
 unfold Hd.hv at RA;clear hw hx hn h hf hR hT hN h1 h2 h3 h4 hZ fY hsz hxl ey;obtain⟨pk,Qq⟩:∃pk:Nat->VS,(λj=>y.pk v.wd v (n0+j))=pk:=⟨_,rfl⟩
 have GA:∀j,y.pk v.wd v (n0+j)=pk j:=λj=>congrFun Qq j
 simp only[GA] at oS Jv RH;have LY:pk (y.E x)=y.pk v.wd v (n0+y.E x):=(GA (y.E x)).symm;rw[←LY];rw[show y.pk v.wd v n0=pk 0 from GA 0] at qf;clear Qq GA LY;generalize y.E x=sz at *;generalize y.c.to+n0=d at *;generalize (Hd.tp (v.wd x):Int)=p1 at *;generalize (Hd.tf (v.wd x):Int)=p2 at *;generalize (Hd.to (v.wd x):Int)=p3 at *;go_enter func176,ntmps176
 go_wp2_with (first
  | (go_at_call 98;refine qf.kq ?_;rintro w1 ⟨R1,m1,d1⟩;have M1:=a_ m1;have GR:=a_ (D0.step d1);clear m1 d1)
  | (go_at_call 178;have D1:=a_ ((GR.box #[p1,p2,p3] 31).perm (R':=R1++(Rf++ [(w1.heap.size,.cells #[p1,p2,p3] 31 (0,0))])) aF);refine (Uj _ R1 _ D1).mono ?_;rintro e w3 ⟨k,rfl,qu⟩;have D3:=a_ (D1.grow qu);clear qu))
 clear D1 GR qf Uj;generalize w1.heap.size=hb at *
 go_loopw [31] (λiv wr=>∃(j:Nat) (Rx:BL),iv= .int .i64 j/\j<=sz/\aH m d_ c_ e_ t (pk j) Rx/\ag (Rm++Rf) (Rx++(Rf++ [(hb,.cells #[p1,p2,p3] 31 (0,0))])) w wr) (λiv _=>sz-(intOf iv).toNat)
 case atStart=>exact⟨0,R1,rfl,Nat.zero_le _,M1,D3⟩
 case round=>
  clear M1 D3;obtain⟨j,Rx,rfl,hj,hM,hD⟩:=hrel;obtain⟨HM,HD⟩:=aO hM hD;by_cases hlt:j<sz
  ·obtain⟨f1,f2,f3⟩:=oS j hlt;have HL:=a_ (Jv j Rx wr hM hD.has.left);have HS:=a_ (λW (hA:At Rx W)=>RH j Rx W hM hA);have HK:=a_ (RA ((j:Int)-1));have hsv:=Uf j;have GF:=Uh (IntKind.i64.wrap (v.wd (x+j):Nat));have HTW:=a_ (CN (IntKind.i64.wrap (v.wd (x+j):Nat)));rw[f1] at HL;rw[f2] at HS;obtain⟨h0,h1,h2, -⟩:=ft hD.has.right.right.head;have Ru:=a_ (λW (h:Has (Rx++(Rf++ [(hb,.cells #[p1,p2,p3] 31 (0,0))])) W)=>(show W.cell? ⟨hb,0,none⟩=some (.int .i64 p1)/\W.cell? ⟨hb,1,none⟩=some (.int .i64 p2)/\W.cell? ⟨hb,2,none⟩=some (.int .i64 p3) from
    ⟨an h.right.right.head 0 _ rfl,an h.right.right.head 1 _ rfl,an h.right.right.head 2 _ rfl⟩))
   clear oS Jv RH RA Uf Uh CN f1 f2 hM hD;generalize y.nw v.wd (n0+j)=nn at *;generalize hto1:y.to (IntKind.i64.wrap (v.wd (x+j):Nat))=tz at *;generalize v.wd (x+j)=X at *;generalize hkk:Hd.kindOf p1 p2 p3 ((j:Int)-1)=kk at *;generalize ga d_ c_ (pk j) ((d:Int)+j)=le1 at *;generalize ga d_ c_ (pk j) ((x:Int)+j)=le2 at *;generalize Wi:IntKind.i64.wrap (X:Int)=zz at *;clear hto1 hkk PF D0 x0;have t1:=eH ((x:Int)+j);have t2:=eH ((j:Int)-1);have t3:=eH ((d:Int)+j);have t4:=eH ((j:Int)+1);have t5:IntKind.u64.wrap (tz:Int)=tz:=IntWalk.u64_in _ (by omega);have g1:decide ((j:Int)<sz)=true:=kr;by_cases hc:X≠0/\kk=1
   ·rw[b9 hc] at f3;subst f3;obtain⟨SB,rfl⟩:=hc;have g2:((X:Int) !=0)=true:=by simp;omega
    have g3:¬(X:Int)=0:=by omega
    go_wp2_with (first
     | (go_at_call 258;refine HL.kq ?_;rintro w4 qu;have H4:=a_ (HD.grow qu);clear qu h0 h1 h2;obtain⟨h0,h1,h2⟩:=Ru _ H4.has)
     | (go_at_call 180;refine (HK _).kq ?_;rintro w5 qu;have H5:=a_ (H4.grow qu);clear qu)
     | (go_at_call 178;refine (HTW _ Rx _ H5).mono ?_;rintro e w6 ⟨k6,rfl,qu⟩;have H6:=a_ (H5.grow qu);clear qu)
     | (go_at_call 259;refine (HS _ H6.at_.left).kq ?_;rintro w7 ⟨MY,m7,d7⟩;have M7:=a_ m7;have H7:=a_ (H6.step d7);clear m7 d7))
    go_roundw
    case rel=>exact⟨j+1,MY,by go_num,hlt,M7,H7⟩
    case measure=>simp[intOf];omega
   ·rw[b_ hc] at f3;subst f3;by_cases vM:kk=1
    ·have Ab:nn=0:=Classical.byContradiction λr=>hc ⟨r,vM⟩
     subst Ab vM;clear hc
     go_wp2_with (first
      | (go_at_call 258;refine HL.kq ?_;rintro w4 qu;have H4:=a_ (HD.grow qu);clear qu h0 h1 h2;obtain⟨h0,h1,h2⟩:=Ru _ H4.has)
      | (go_at_call 180;refine (HK _).kq ?_;rintro w5 qu;have H5:=a_ (H4.grow qu);clear qu)
      | (go_at_call 259;refine (HS _ H5.at_.left).kq ?_;rintro w7 ⟨MY,m7,d7⟩;have M7:=a_ m7;have H7:=a_ (H5.step d7);clear m7 d7))
     go_roundw
     case rel=>exact⟨j+1,MY,by go_num,hlt,M7,H7⟩
     case measure=>simp[intOf];omega
    ·have g3:(kk==1)=false:=by rw[beq_eq_false_iff_ne];exact vM
     clear hc
     go_wp2_with (first
      | (go_at_call 258;refine HL.kq ?_;rintro w4 qu;have H4:=a_ (HD.grow qu);clear qu h0 h1 h2;obtain⟨h0,h1,h2⟩:=Ru _ H4.has)
      | (go_at_call 180;refine (HK _).kq ?_;rintro w5 qu;have H5:=a_ (H4.grow qu);clear qu)
      | (go_at_call 259;refine (HS _ H5.at_.left).kq ?_;rintro w7 ⟨MY,m7,d7⟩;have M7:=a_ m7;have H7:=a_ (H5.step d7);clear m7 d7))
     go_roundw
     case rel=>exact⟨j+1,MY,by go_num,hlt,M7,H7⟩
     case measure=>simp[intOf];omega
  ·obtain rfl:j=sz:=by omega
   go_wp2
   go_end0
   exact⟨rfl,Rx,HM,(HD.perm (R':=(Rx++Rf)++ [(hb,.cells #[p1,p2,p3] 31 (0,0))]) aF).bN⟩
end
end
section
variable {S:HS} {n:Nat} {k:wR}
def HS.Good.wP (h:S.Good) (hk:S.bX=none):∃St,Whole S.v.wd St (cR S.c.mw S.c.c_ S.v) S.c.mw/\(∀a∈S.rs,a=0\/St a)/\(∀a,St a->S.aa<=a/\a+bC (S.v.wd a)<=S.top):=by
 obtain⟨Q,φ,hr⟩:=h.rep;have hZ:S.ba=S.v.wd:=funext λa=>HS.cL hk
 rw[hZ] at hr;have hrun:=h.aX.run;have hw:=hr.whole (N:=S.c.mw) (by omega);refine⟨cX.St Q φ,⟨hw.is,hw.small,λa ha i hi=>h.aX.cR hk (hw.mD a ha i hi),hw.pos,hw.fit,hw.apart,hw.ptr⟩,λa ha=>?_,λa ha=>?_⟩
 ·rw[hr.rs] at ha;obtain⟨x,hx,rfl⟩:=List.mem_map.1 ha;rcases hr.root x hx with rfl | q
  ·exact .inl hr.zero
  ·exact .inr ⟨x,q,rfl⟩
 ·have h1:=lJ (S.v.wd a);have h2:=hw.mD a ha 0 (by omega);have h3:=hw.mD a ha (bC (S.v.wd a)-1) (by omega);omega
def Jn {t p x:Nat} (hp:1<=p) (ht:t<=x) (hx:x%p=0):(t+p-1)/p*p<=x:=by
 have e:x=x/p*p:=(Nat.div_mul_cancel (Nat.dvd_of_mod_eq_zero hx)).symm;rw[e];refine Nat.mul_le_mul_right _ ?_;have:(t+p-1)/p<=(x/p*p+(p-1))/p:=Nat.div_le_div_right (by omega);rw[Nat.add_comm (x/p*p) (p-1),Nat.add_mul_div_right _ _ (by omega)] at this;have h0:(p-1)/p=0:=Nat.div_eq_of_lt (by omega);rw[h0,Nat.zero_add] at this;exact this
def HS.ep.Jj (h:S.ep) (h3:S.c.kind≠3):eZ.Ok ⟨S.aa,S.top,S.other,S.other+S.c.d_,S.c.block,S.c.aL,S.c.aE⟩ S.c.c_ S.c.mw:=by
 obtain⟨o1,o2,o3,o4⟩:=h.pN h3;obtain⟨r1,r2,r3,r4,r5⟩:=h.run;obtain⟨⟨d1,d2⟩,d3,d4,d5,d6,d7⟩:=h.bG.fX;have ht:=h.top;have hb:=h.aa;refine⟨h.bG.block,h.bG.aL,h.bG.aE,⟨?_,ht.1,r4⟩,⟨?_,Nat.le_add_right _ _,o3⟩,⟨r2,o2,?_⟩,?_⟩
 ·show S.c.c_<=S.aa
  omega
 ·show S.c.c_<=S.other
  omega
 ·show (S.other+S.c.d_)%S.c.c_=0
  rw[Nat.add_mod,o2,d3];rfl
 ·show S.other+S.c.d_<=S.aa\/QH S.top S.c.c_<=S.other
  rcases o4 with q | q
  ·right;unfold QH;have:=Jn (p:=S.c.c_) (t:=S.top) (x:=S.aa+S.c.d_) d1 ht.2 (by rw[Nat.add_mod,r2,d3];rfl);omega
  ·exact .inl q
def HS.Good.BJ (h:S.Good) (hk:S.bX=none) (y:aJ) (hy:y.E=aj S.v.wd S.rs):(S.rs.map λx:Nat=>if x=0 then 0 else y.to x)=S.rs.map λx=>if x=0 then 0 else qp y.E y.c.to x:=
 List.map_congr_left λx hx=>by
  by_cases e:x=0
  ·rw[b9 e,b9 e]
  ·rw[b_ e,b_ e];have hE:y.E x≠0:=by
    rw[hy,gm];exact .root hx e
   have hl:=oU.li (y:=y) (x:=x) (j:=0) (by omega);unfold aJ.to lh;rw[b9 (by
    rw[Bool.and_eq_true,decide_eq_true_eq];exact⟨by omega,by rw[Int.toNat_natCast];exact hl⟩),Int.toNat_natCast]
def HS.Good.pkW (h:S.Good) (hk:S.bX=none):oU S.iX S.c.mw S.c.c_ S.v:=by
 obtain⟨St,hw,hz,hf⟩:=h.wP hk;obtain⟨l1,l2,l3⟩:=h.nS hk;obtain⟨r1,r2,r3,r4,r5⟩:=h.aX.run;have ht:=h.aX.top;have hE:∀x,S.iX.E x≠0->St x/\S.iX.E x=bC (S.v.wd x):=λx hx=>by
  have h1:=gm.1 hx;exact⟨fF.st hw hz h1,b9 h1⟩
 have VF:∀a,dI S.iX.E a=true->S.aa<=a/\a<S.top:=λa ha=>by
  obtain⟨s,h1,h2⟩:=fR.1 ha;obtain⟨h3,h4⟩:=hE s (by omega);have:=hf s h3;omega
 obtain⟨Q,φ,hr⟩:=h.rep;have hZ:S.ba=S.v.wd:=funext λa=>HS.cL hk
 rw[hZ] at hr;refine⟨rfl,rfl,hr.ju (by omega),λx hx=>(hE x hx).2,λx hx=>⟨hw.pos x (hE x hx).1,hw.is x (hE x hx).1⟩,λa ha=>h.aX.cR hk (VF a ha),λi hi=>h.aX.cR hk ?_,λa ha=>(VF a ha).1,h.aX.tP,by omega,by show S.aa<_;omega⟩;have:S.iX.aq=S.m.aq:=l1;show S.aa<=S.aa+i/\S.aa+i<S.top
 omega
end
section
attribute [local go_sem] Oper.semAt_some
section
variable {hb m rb T:Nat} {S:HS} {R:BL} {w w':World}
def HS.bG (S:HS):eZ:=⟨S.aa,S.top,S.other,S.other+S.c.d_,S.c.block,S.c.aL,S.c.aE⟩
def open_hs {Rm Rr:BL} (h:S.Good) (hk:S.bX=none) (h1:S.c.kind=1) (hm:aH m S.c.mw S.c.c_ S.c.e_ T S.v Rm) (hr:dO rb S.rs Rr) (hR:At (Rm++Rr) w) (hT:ax w) (hg:aD (Rm++Rr)):
  WA 133 #[Wz m,Wz rb,.agg S.bG.cells] w λe w'=>∃cb,e= .returned (.tuple #[Wz cb,Wy])/\∃bI fG Rc,
   aH m S.c.mw S.c.c_ S.c.e_ T S.opened.v bI/\dO rb S.opened.rs fG/\mW cb m S.cU (λ_=>false) Rc/\ag (Rm++Rr) (bI++(fG++Rc)) w w':=by
 obtain⟨St,hw,hz,hf⟩:=h.wP hk;obtain⟨⟨d1,d2⟩,d3,d4,d5,d6,d7⟩:=h.aX.bG.fX;have GI:=h.aX.bG.GQ;obtain⟨o1,o2,o3,o4⟩:=h.aX.pN (by omega);have ho:=h.opens hk h1;have:=open_s (w:=w) (c:=S.bG) hm hr hw hz hf (h.aX.Jj (by omega)) h.aX.bG.c_ d1 ⟨by omega,by omega⟩ (by show S.other<_;omega) (by
  have:=ho.1;show bB _ _<=S.other+S.c.d_-S.other
  have e:S.cU.aq=bB (aj S.v.wd S.rs) S.c.mw:=rfl;omega) hR hT hg
 refine this.mono ?_;rintro e w' ⟨cb,rfl,bI,fG,Rc,x1,x2,x3,x4⟩;exact⟨cb,rfl,bI,fG,Rc,x1,by rw[show S.opened.rs=_ from (h.BJ hk S.cU rfl).symm];exact x2,x3,x4⟩
def HS.Good.No {cb:Nat} {Rm Rc:BL} (h:S.Good) (hk:S.bX=none) (h1:S.c.kind=1) (hm:aH m S.c.mw S.c.c_ S.c.e_ T S.opened.v Rm) (hc:mW cb m S.cU (λ_=>false) Rc):iM cb m S.cU S.v.wd S.opened.top T (S.opened.kG ⟨S.cU,λ_=>false,S.v.wd⟩) (Rm++Rc):=by
 have hp:=(h.opens hk h1).2.1;obtain⟨p1,p2,p3,p4,p5,p6,p7,p8,p9,Tn⟩:=hp.opened _ rfl;exact⟨T,Rm,Rc,rfl,hm,Nat.le_add_right _ _,hc,Tn,hp.tP⟩
def HS.Good.nbT (h:S.Good) (hk:S.bX=none) (h1:S.c.kind=1):S.cU.nb*(S.cU.d_/S.cU.c_)<=10000000:=by
 have ho:=(h.opens hk h1).1;have hb:=h.aX.bG.block.le;have h2:S.cU.nb<=S.cU.aq:=rj S.cU.aq hb.1;obtain⟨⟨d1,d2⟩,d3,d4,d5,d6,d7⟩:=h.aX.bG.fX;have GI:=h.aX.bG.GQ;have h3:S.cU.d_/S.cU.c_<=4352:=Nat.le_trans (Nat.div_le_self _ _) d5;exact Nat.le_trans (Nat.mul_le_mul (show S.cU.nb<=2048 by omega) h3) (by decide)
end
section
variable {hb m rb T:Nat} {S:HS} {R:BL} {w w':World}
def Ak (h:ak hb m rb S T R) (hG:S.Good) (hk:S.bX=none) (h1:S.c.kind=1) (hR:At R w) (hT:ax w) (hN:aD R) (bJ:T<=700000000000000):
  WR 56 #[Wz hb] w (.tuple #[]) λw'=>∃R',ak hb m rb S.open (T+12000000) R'/\ag R R' w w':=by
 obtain⟨en,dX,run,cy,Rr,Rx,hr,hM,rfl⟩:=h;obtain⟨rfl,hm⟩:=hM.none_ hk;obtain⟨⟨d1,d2⟩,d3,d4,d5,d6,d7⟩:=hG.aX.bG.fX;have GI:=hG.aX.bG.GQ;obtain⟨o1,o2,o3,o4⟩:=hG.aX.pN (by omega);have hrun:=hG.aX.run;have hop:=hG.opens hk h1;have VQ:=hop.2.1;have hlv:=hop.1;have hnb:=hG.nbT hk h1;have D0:=a_ (ag.refl hR);have Ho:=a_ (λW (h:At [(hb,bK S.c m rb run none S.ae S.af),(run,bF m S.aa S.top (S.aa+S.c.d_))] W)=>Fa (w:=W) h (by rcases hG.aX.aa with q | q<;>omega) ⟨by omega,by omega⟩);have vr:=a_ (λK W (hd:ag ((hb,bK S.c m rb run none S.ae S.af)::(run,bF m S.aa S.top (S.aa+S.c.d_))::(Rr++Rx)) ((Rx++Rr)++K) w W)=>open_hs (w:=W) hG hk h1 hm hr hd.at_.left (hd.tz hT hN) (aD.app.1 (hd.cK hT hN)).1);have CO:=a_ (λcb Rm Rc W (hm:aH m S.c.mw S.c.c_ S.c.e_ T S.opened.v Rm) (hc:mW cb m S.cU (λ_=>false) Rc) (hA:At (Rm++Rc) W)=>(show WR 134 #[Wz cb] W (S.other+S.cU.aq:Nat) λw'=>Below W.heap.size W w' from top_x (hG.No hk h1 hm hc) hA));have PA:=a_ (λcb Rm W (hm:aH m S.c.mw S.c.c_ S.c.e_ T S.opened.v Rm) (hA:At ((hb,bK S.c m rb run (some cb) S.ae S.af)::Rm) W)=>EL (S:=S) (w:=W) (b:=S.other) (x:=S.other+S.cU.aq) hm (by omega) o3 ⟨by omega,by omega⟩ (by omega) hA);have Ri:=a_ (λcb r Rm fG Rc W (hm:aH m S.c.mw S.c.c_ S.c.e_ T S.opened.v Rm) (GB:dO rb S.opened.rs fG) (hc:mW cb m S.cU (λ_=>false) Rc) (hA:At ((hb,bK S.c m rb r (some cb) S.ae S.af)::(r,bF m S.other (S.other+S.cU.aq) (S.other+S.c.d_))::(fG++(Rm++Rc))) W)=>nD (w:=W) (S:=S.opened) (T:=T+10000000) (hb:=hb) (m:=m) (rb:=rb) (R:=(hb,bK S.c m rb r (some cb) S.ae S.af)::(r,bF m S.other (S.other+S.cU.aq) (S.other+S.c.d_))::(fG++(Rm++Rc)))
  ⟨by show S.ae<=_;omega,by show S.af<=_;omega,r,some cb,fG,Rm++Rc,GB,.Mh (k:=⟨S.cU,λ_=>false,S.v.wd⟩) (T0:=T) rfl (Nat.add_le_add_left hnb T) (hG.No hk h1 hm hc),rfl⟩ VQ hA (by omega))
 have gd:=a_ (λW B K (h:Has ((hb,bK S.c m rb run none S.ae S.af)::(B,.cells S.bG.cells 126 (0,0))::K) W)=>(show W.cell? ⟨hb,8,none⟩=some (.pointer (some ⟨m,0,none⟩))/\W.cell? ⟨hb,9,none⟩=some (.pointer (some ⟨rb,0,none⟩))/\W.cell? ⟨B,0,none⟩=some (.int .i64 S.aa)/\W.cell? ⟨B,1,none⟩=some (.int .i64 S.top)/\W.cell? ⟨B,2,none⟩=some (.int .i64 S.other)/\W.cell? ⟨B,3,none⟩=some (.int .i64 (S.other+S.c.d_:Nat))/\W.cell? ⟨B,4,none⟩=some (.int .i64 S.c.block)/\W.cell? ⟨B,5,none⟩=some (.int .i64 S.c.aL)/\W.cell? ⟨B,6,none⟩=some (.int .i64 S.c.aE) from
  have hc:=az (S:=S) h.head;have q:=h.tail.head
  ⟨hc.c8,hc.c9,an q 0 _ rfl,an q 1 _ rfl,an q 2 _ rfl,an q 3 _ rfl,an q 4 _ rfl,an q 5 _ rfl,an q 6 _ rfl⟩))
 clear en dX hr hM hm hG hk h1 hR hT hN bJ d1 d2 d3 d4 d5 d6 d7 GI o1 o2 o3 o4 hrun hop VQ hlv hnb;unfold HS.bG eZ.cells at *;simp only at *;generalize S.other+S.c.d_=lm at *;generalize S.other+S.cU.aq=tp at *;go_enter func56,ntmps56
 go_wp2_with (go_at_call 83;refine (Ho _ (At.left (A:= [_,_]) D0.at_)).kq ?_;rintro w1 bp;have GR:=a_ (D0.grow bp);clear bp)
 have Cb:=GR.box #[S.aa,S.top,S.other,lm,S.c.block,S.c.aL,S.c.aE] 126;obtain⟨B,hB⟩:∃B,w1.heap.size=B:=⟨_,rfl⟩
 rw[hB] at Cb;rw[hB];generalize w1.alloc (.cells #[S.aa,S.top,S.other,lm,S.c.block,S.c.aL,S.c.aE] 126)=w2 at *;have D2:=a_ (Cb.perm (R':=(hb,bK S.c m rb run none S.ae S.af)::(B,.cells #[S.aa,S.top,S.other,lm,S.c.block,S.c.aL,S.c.aE] 126 (0,0))::(run,bF m S.aa S.top (S.aa+S.c.d_))::(Rr++Rx)) aF);clear Cb GR D0 Ho hB;have D3:=a_ D2.drew;have hcs:=gd _ B _ D2.has;refine wp_region_held_drew (S:=λW=>W.cell? ⟨hb,8,none⟩=some (.pointer (some ⟨m,0,none⟩))/\W.cell? ⟨hb,9,none⟩=some (.pointer (some ⟨rb,0,none⟩))/\W.cell? ⟨B,0,none⟩=some (.int .i64 S.aa)/\W.cell? ⟨B,1,none⟩=some (.int .i64 S.top)/\W.cell? ⟨B,2,none⟩=some (.int .i64 S.other)/\W.cell? ⟨B,3,none⟩=some (.int .i64 lm)/\W.cell? ⟨B,4,none⟩=some (.int .i64 S.c.block)/\W.cell? ⟨B,5,none⟩=some (.int .i64 S.c.aL)/\W.cell? ⟨B,6,none⟩=some (.int .i64 S.c.aE)) (by kernel_rfl) hcs (λhHeld=>?_);generalize w2.drew=w3 at *;refine bz 0 ?_;refine bz 1 ?_;refine bz 2 ?_;refine bz 3 ?_;refine bz 4 ?_;refine bz 5 ?_;refine bz 6 ?_;refine bz 7 ?_;refine bz 8 ?_;simp only[aI];refine pT 9 (λK hK=>?_);go_simp;have Cc:=a_ (D3.perm (R':=(Rx++Rr)++((hb,bK S.c m rb run none S.ae S.af)::(B,.cells #[S.aa,S.top,S.other,lm,S.c.block,S.c.aL,S.c.aE] 126 (0,0)):: [(run,bF m S.aa S.top (S.aa+S.c.d_))])) aF);refine (vr _ _ Cc).mono ?_;rintro e w4 ⟨cb,rfl,bI,fG,Rc,m4,r4,c4,d4⟩;obtain⟨M4,R4,C4⟩:=dF m4 r4 c4;have D4:=a_ ((Cc.step d4).perm (R':=(hb,bK S.c m rb run none S.ae S.af)::(B,.cells #[S.aa,S.top,S.other,lm,S.c.block,S.c.aL,S.c.aE] 126 (0,0))::((run,bF m S.aa S.top (S.aa+S.c.d_))::(bI++(fG++Rc)))) aF);clear m4 r4 c4 d4 Cc;refine hK _ _ (gd _ _ _ D4.has) (λhHeld=>?_);clear hK K
 try simp only[aI]
 refine bz 10 ?_;refine bz 11 ?_;refine bz 12 ?_;refine bz 13 ?_;refine bz 14 ?_;simp only[aI];refine wpAnyH_done (by kernel_rfl) ?_ _
 try simp only[aI]
 clear hHeld hcs D3 D2 vr;have cC:=an D4.has.head 11 (.pointer none) rfl;have f11:=br D4.has.head 11;have D5:=a_ (show ag _ ((hb,bK S.c m rb run (some cb) S.ae S.af)::(B,.cells #[S.aa,S.top,S.other,lm,S.c.block,S.c.aL,S.c.aE] 126 (0,0))::((run,bF m S.aa S.top (S.aa+S.c.d_))::(bI++(fG++Rc)))) w (w4.setCell ⟨hb,11,none⟩ (.pointer (some ⟨cb,0,none⟩))) from D4.set 11 (Wz cb));go_wp2;generalize w4.setCell ⟨hb,11,none⟩ (.pointer (some ⟨cb,0,none⟩))=w5 at *;clear cC f11 D4 gd;have nJ:=an D5.has.tail.head 2 (.int .i64 S.other) rfl;have D6:=a_ D5.drew;refine wp_region_held_drew (S:=λW=>W.cell? ⟨B,2,none⟩=some (.int .i64 S.other)) (by kernel_rfl) nJ (λhHeld=>?_);generalize w5.drew=w6 at *;refine bz 0 ?_;refine bz 1 ?_;refine bz 2 ?_;refine bz 3 ?_;simp only[aI];refine pT 4 (λK hK=>?_);go_simp;have FP:=a_ (D6.perm (R':=(bI++Rc)++((hb,bK S.c m rb run (some cb) S.ae S.af)::(B,.cells #[S.aa,S.top,S.other,lm,S.c.block,S.c.aL,S.c.aE] 126 (0,0))::((run,bF m S.aa S.top (S.aa+S.c.d_))::fG))) aF);refine (CO cb bI Rc w6 M4 C4 FP.at_.left).kq ?_;rintro w7 IA;have D7:=a_ ((FP.grow IA).perm (R':=((hb,bK S.c m rb run (some cb) S.ae S.af)::bI)++((B,.cells #[S.aa,S.top,S.other,lm,S.c.block,S.c.aL,S.c.aE] 126 (0,0))::((run,bF m S.aa S.top (S.aa+S.c.d_))::(fG++Rc)))) aF);clear IA;refine hK _ _ (an D7.has.right.head 2 _ rfl) (λhHeld=>?_);clear hK K
 try simp only[aI]
 refine pT 5 (λK hK=>?_);go_simp;refine (PA cb bI w7 M4 D7.at_.left).kq ?_;rintro w8 ⟨r,d8⟩;have D8:=a_ (D7.step d8);clear d8;refine hK _ _ (an D8.has.right.head 2 _ rfl) (λhHeld=>?_);clear hK K
 try simp only[aI]
 refine wpAnyH_done (by kernel_rfl) ?_ _
 try simp only[aI]
 have D9:=a_ (D8.perm (R':=((hb,bK S.c m rb r (some cb) S.ae S.af)::(r,bF m S.other tp lm)::(fG++(bI++Rc)))++ [(B,.cells #[S.aa,S.top,S.other,lm,S.c.block,S.c.aL,S.c.aE] 126 (0,0)),(run,bF m S.aa S.top (S.aa+S.c.d_))]) aF);clear hHeld nJ D5 D6 D7 D8 CO PA
 go_wp2_with (go_at_call 61;refine (Ri cb r bI fG Rc _ M4 R4 C4 D9.at_.left).kq ?_;rintro w9 ⟨R9,h9,d9⟩;have H9:=a_ h9;have iJ:=a_ (D9.step d9);clear h9 d9)
 go_end0
 have q:=H9.out;rw[show T+10000000+2000000=T+12000000 from by omega] at q;exact⟨rfl,R9,q,iJ.bN⟩
end
section
variable {hb m rb T:Nat} {S:HS} {R:BL} {w w':World}
def HS.Good.vV (h:S.Good):S.left<=2048:=by
 unfold HS.left
 split
 ·omega
 ·next k hk=>
  obtain⟨p1,p2,p3,p4,p5,p6,p7,p8,p9,Tn⟩:=h.aX.opened k hk;have hb:=h.aX.bG.block.le;have hw:=h.aX.bG.GQ;have h2:k.y.nb<=k.y.aq:=rj k.y.aq (by rw[p7];exact hb.1);have h3:=Tn.mc.yK;rw[p5,p6] at h3;omega
def collect1_h (h:ak hb m rb S T R) (hg:S.Good) (h1:S.c.kind=1) (hR:At R w) (hT:ax w) (hN:aD R) (bJ:T<=600000000000000):
  WR 28 #[Wz hb] w (.tuple #[]) λw'=>∃R',ak hb m rb S.collect (T+10000000000) R'/\ag R R' w w':=by
 have qL:=a_ (λS1 T1 T2 R1 W (h1:ak hb m rb S1 T1 R1) (hg1:S1.Good) (hd:ag R R1 w W) (ht:T1<=700000000000000) (h2:T1+4200000000<=T2)=>(show WR 82 #[Wz hb] W (.tuple #[]) λw'=>∃R',ak hb m rb S1.finish T2 R'/\ag R1 R' W w' from by
  have hl:=hg1.vV;refine (xG (w:=W) h1 hg1 hd.at_ (hd.tz hT hN) (hd.cK hT hN) ht (by omega)).kq ?_;rintro w' ⟨R',x,d⟩;exact⟨rfl,R',x.more (by omega),d⟩))
 have vr:=a_ (λS1 T1 T2 R1 W (h1:ak hb m rb S1 T1 R1) (hg1:S1.Good) (hk:S1.bX=none) (oM:S1.c.kind=1) (hd:ag R R1 w W) (ht:T1<=700000000000000) (h2:T1+12000000<=T2)=>(show WR 56 #[Wz hb] W (.tuple #[]) λw'=>∃R',ak hb m rb S1.open T2 R'/\ag R1 R' W w' from by
  refine (Ak (w:=W) h1 hg1 hk oM hd.at_ (hd.tz hT hN) (hd.cK hT hN) ht).kq ?_;rintro w' ⟨R',x,d⟩;exact⟨rfl,R',x.more h2,d⟩))
 obtain⟨f1,f2,f3⟩:=hg.finish;have hc1:S.finish.c.kind=1:=by rw[f2.c];exact h1
 obtain⟨o1,o2,o3,o4,o5,o6,o7,o8⟩:=f1.opens f3 hc1;have xS:S.collect=S.finish.open.finish:=b9 h1;obtain⟨T1,Kl⟩:∃T1,T+4200000000=T1:=⟨_,rfl⟩
 obtain⟨T2,lT⟩:∃T2,T1+12000000=T2:=⟨_,rfl⟩
 have TG:=a_ (qL S T T1 R w h hg (ag.refl hR) (by omega) (by omega));have HO1:=a_ (λR1 W (h1:ak hb m rb S.finish T1 R1) (hd:ag R R1 w W)=>vr S.finish T1 T2 R1 W h1 f1 f3 hc1 hd (by omega) (by omega));have Lj:=a_ (λR1 W (h1:ak hb m rb S.finish.open T2 R1) (hd:ag R R1 w W)=>qL S.finish.open T2 (T+10000000000) R1 W h1 o3 hd (by omega) (by omega));rw[xS];have D0:=a_ (ag.refl hR);obtain⟨-, -,run,cy,Rr,Rx, -, -,rfl⟩:=h;have hcs:=az (S:=S) hR.1.head;have hn:=a_ (ev w hcs.c8);have c0:=hcs.c0;rw[h1] at c0;clear qL vr hcs hg f1 f2 f3 o1 o2 o3 o4 o5 o6 o7 o8 xS hc1 hR hT hN Kl lT bJ h1;go_enter func28,ntmps28
 go_wp2_with (first
  | (go_at_call 48;refine hn.out.kq ?_;rintro w1 rfl)
  | (go_at_call 82;refine TG.kq ?_;rintro w2 ⟨R2,h2,d2⟩;have H2:=a_ h2;have D2:=a_ (D0.trans d2);clear TG h2 d2)
  | (go_at_call 56;refine (HO1 R2 _ H2 D2).kq ?_;rintro w3 ⟨R3,h3,d3⟩;have H3:=a_ h3;have D3:=a_ (D2.trans d3);clear h3 d3)
  | (go_at_call 82;refine (Lj R3 _ H3 D3).kq ?_;rintro w4 ⟨R4,h4,d4⟩;have H4:=a_ h4;have D4:=a_ (D3.trans d4);clear h4 d4))
 refine bodyPost_ret (results_none rfl _ _ _) rfl ?_;exact⟨rfl,R4,H4,D4⟩
end
section
variable {E:Nat->Nat} {N x z:Nat} {pre post:List (Nat×Nat)}
def all_sorted:((dU E N).map (·.1)).Pairwise (· < ·):=by
 rw[all_keys];unfold cN;exact List.Pairwise.sublist List.filter_sublist List.pairwise_lt_range
def all_own (h:bS E N) {s:Nat} (hs:E s≠0):(s,E s)∈dU E N:=by
 unfold dU cN;exact List.mem_map.2 ⟨s,List.mem_filter.2 ⟨List.mem_range.2 (by have:=h.fits s hs;omega),dR.2 hs⟩,rfl⟩
def AG {p:Nat×Nat} (hp:p∈dU E N):p.2=E p.1/\E p.1≠0:=by
 unfold dU at hp;obtain⟨s,hs,rfl⟩:=List.mem_map.1 hp;exact⟨rfl,dR.1 (List.mem_filter.1 hs).2⟩
def uk (h:bS E N) (e:dU E N=pre++(x,z)::post) (b:Nat):ek pre b=true↔dI E b=true/\b<x:=by
 have hs:=all_sorted (E:=E) (N:=N);rw[e,List.map_append,List.map_cons,List.pairwise_append] at hs;obtain⟨-,s2,s3⟩:=hs;rw[List.pairwise_cons] at s2;have hx:=AG (E:=E) (N:=N) (p:=(x,z)) (by rw[e];simp);unfold ek;rw[List.any_eq_true,fR];constructor
 ·rintro⟨p,hp,hq⟩;rw[Bool.and_eq_true,decide_eq_true_eq,decide_eq_true_eq] at hq;obtain⟨v1,v2⟩:=AG (E:=E) (N:=N) (p:=p) (by rw[e];exact List.mem_append_left _ hp);have hlt:p.1<x:=s3 p.1 (List.mem_map_of_mem hp) x (List.mem_cons_self ..);refine⟨⟨p.1,hq.1,by omega⟩,?_⟩;rcases Nat.lt_or_ge x (p.1+E p.1) with r | r
  ·exact absurd (h.apart p.1 x v2 hlt r) hx.2
  ·omega
 ·rintro⟨⟨s,h1,h2⟩,h3⟩;have hm:=all_own h (s:=s) (by omega);rw[e,List.mem_append,List.mem_cons] at hm;rcases hm with q | q | q
  ·exact⟨_,q,by simp;omega⟩
  ·have:s=x:=congrArg Prod.fst q;omega
  ·have:=s2.1 s (List.mem_map.2 ⟨_,q,rfl⟩);omega
def uj (h:bS E N) (e:dU E N=pre++(x,z)::post):aG (ek pre) N=aG (dI E) x:=by
 have hx:=(eC h e).2.2;simp only at hx;have e1:N=x+(N-x):=by omega
 have h2:=fN (ek pre) x (N-x);rw[←e1] at h2;rw[h2,dD (f:=λi=>ek pre (x+i)) λi _=>lu (uk h e _) (by omega),Nat.add_zero];exact cB λi hi=>by
  rw[Bool.eq_iff_iff,uk h e];exact⟨λq=>q.1,λq=>⟨q,hi⟩⟩
def cnt_more (h:bS E N) (e:dU E N=pre++(x,z)::post):aG (ek (pre++ [(x,z)])) N=aG (dI E) x+z:=by
 have hx:=(eC h e).2.2;simp only at hx;rw[←oX,←uj h e]
 suffices H:∀j,j<=z->aG (gQ pre x j) N=aG (ek pre) N+j from H z (Nat.le_refl _)
 intro j
 induction j with
 | zero=>intro _;rw[oY,Nat.add_zero]
 | succ j ih=>
  intro hj;have h0:gQ pre x j (x+j)=false:=by
   unfold gQ;rw[um h e (by omega),Bool.false_or,Bool.and_eq_false_iff];exact .inr dP
  rw[nh,gu h0,iY,ih (by omega)];omega
def cnt_whole (h:bS E N):aG (ek (dU E N)) N=bB E N:=by
 rw[vF h];rfl
end
section
variable {m d_ c_ e_ t fb rb gb x:Nat} {v:VS} {y:aJ} {Rm Rf:BL} {w w':World}
def run1_p (hf:gO fb d_ 64 y.E y.c.to Rf) (hR:At Rf w) (hg:w.cell? ⟨gb,0,none⟩=some (.pointer (some ⟨fb,0,none⟩))) (a:Int):
  WR 177 #[a,Wz gb] w (y.to a:Nat) λw'=>Below w.heap.size w w':=by
 have HT:=a_ (It hf hR a);generalize y.to a=z at *;clear hf hR;go_enter func177,ntmps177
 go_wp2_with (go_at_call 178;refine HT.mono ?_;rintro e w2 ⟨k,rfl,hb⟩;have HB:=a_ hb;clear hb)
 go_ret;exact⟨rfl,HB⟩
end
end
section
variable {S:HS} {n:Nat} {k:wR}
def HS.Good.cpW (h:S.Good) (h2:S.c.kind=2):xg S.c.mw S.c.c_ S.db.wd (fF S.db.wd S.rs) S.other S.m.aq S.db/\(∀b,S.db.wd b<18446744073709551616)/\bd (aj S.v.wd S.rs) S.c.mw=S.m.aq/\S.m.aq<=S.c.d_:=by
 have hk:=h.iN (by omega);obtain⟨l1,l2,l3⟩:=h.nS hk;obtain⟨Q,φ,hr⟩:=h.rep;have hZ:S.ba=S.v.wd:=funext λa=>HS.cL hk
 rw[hZ] at hr;obtain⟨r1,r2,r3,r4,r5⟩:=h.aX.run;obtain⟨⟨d1,d2⟩,d3,d4,d5,d6,d7⟩:=h.aX.bG.fX;have ht:=h.aX.top;obtain⟨o1,o2,o3,o4⟩:=h.aX.pN (by omega);have kN:=h.aX.closed hk;have NW:=Nat.div_mul_cancel (Nat.dvd_of_mod_eq_zero d3);have Ad:∀x,x<=S.c.d_->(x+S.c.c_-1)/S.c.c_<=S.c.d_/S.c.c_:=λx hx=>by
  have:(x+S.c.c_-1)/S.c.c_<S.c.d_/S.c.c_+1:=by
   rw[Nat.div_lt_iff_lt_mul (by omega),Nat.add_mul,NW];omega
  omega
 have hu0:S.v.used<=S.c.d_/S.c.c_:=by
  rw[nu kN h.aX.used d1 r2 ht.1 (by rw[Nat.div_mul_cancel (Nat.dvd_of_mod_eq_zero d4)];omega)];exact Ad _ (by omega)
 have hroom:S.c.e_=2*(S.c.d_/S.c.c_):=by
  unfold HC.e_;rw[cG,b9 h2]
 have key:dc S.c.mw S.c.c_ S.c.e_ S.v (S.other:Nat) (S.other+S.m.aq:Nat)=0/\fp S.db/\bg (S.c.mw/S.c.c_) S.db/\S.db.aM<=S.c.e_/\(∀p,p<S.c.mw/S.c.c_->(S.db.mp p=true↔(∃a,S.aa<=a/\a<S.top/\a/S.c.c_=p)\/∃a,S.other<=a/\a<S.other+S.m.aq/\a/S.c.c_=p))/\
   ∀a,S.aa<=a->a<S.top->S.db.wd a=S.v.wd a:=by
  rcases Nat.eq_zero_or_pos S.m.aq with q | q
  ·obtain⟨e1,e2⟩:=jQ (d_:=S.c.mw) (c_:=S.c.c_) (e_:=S.c.e_) (v:=S.v) (a:=S.other) (b:=S.other+S.m.aq) (by omega) (by omega);have e3:S.db=S.v:=e2;rw[e3];refine⟨e1,h.aX.tP,h.aX.used,h.aX.aM,λp hp=>?_,λ_ _ _=>rfl⟩;rw[kN p hp];exact⟨.inl,λr=>r.resolve_right fun⟨a,q1,q2,_⟩=>by omega⟩
  ·obtain⟨v',hv⟩:∃v',v'=dL S.c.c_ S.v (dQ S.v (S.other/S.c.c_) ((S.other+S.m.aq-1)/S.c.c_-S.other/S.c.c_+1)):=⟨_,rfl⟩
   obtain⟨m1,m2,m3,m4,m5,m6⟩:=we (d_:=S.c.mw) d1 d4 (a:=S.other) (b:=S.other+S.m.aq) (by omega) (by omega) h.aX.used hv;have hlen:(dQ S.v (S.other/S.c.c_) ((S.other+S.m.aq-1)/S.c.c_-S.other/S.c.c_+1)).length<=S.c.d_/S.c.c_:=by
    refine Nat.le_trans (oa _ _ _) ?_;have e1:=Nat.div_mul_cancel (Nat.dvd_of_mod_eq_zero o2);have:(S.other+S.m.aq-1)/S.c.c_<S.other/S.c.c_+S.c.d_/S.c.c_:=by
     rw[Nat.div_lt_iff_lt_mul (by omega),Nat.add_mul,e1,NW];omega
    have:S.other/S.c.c_<=(S.other+S.m.aq-1)/S.c.c_:=Nat.div_le_div_right (by omega);omega
   obtain⟨e1,e2⟩:=jq (d_:=S.c.mw) (c_:=S.c.c_) (e_:=S.c.e_) (v:=S.v) (a:=S.other) (b:=S.other+S.m.aq) (by omega) (by omega) (by omega);have e3:S.db=v':=by rw[hv];exact e2
   rw[e3];refine⟨e1,λa=>?_,m3,by have:=h.aX.aM;omega,λp hp=>?_,λa a1 a2=>m5 a (h.aX.cR hk ⟨a1,a2⟩).2⟩
   ·rcases m6 a with r | r
    ·rw[r];exact h.aX.tP a
    ·omega
   ·rw[m4,kN p hp]
 obtain⟨k1,k2,k3,k4,k5,k6⟩:=key;have kz:cX S.db.wd S.rs S.m Q φ S.aa S.top:=hr.congr k6 k2;have hw2:=kz.whole (N:=S.c.mw) r4;have Gs:∀x,x<S.c.mw->((∃a,S.aa<=a/\a<S.top/\a/S.c.c_=x/S.c.c_)\/∃a,S.other<=a/\a<S.other+S.m.aq/\a/S.c.c_=x/S.c.c_)->cR S.c.mw S.c.c_ S.db x:=λx hx q=>⟨hx,(k5 (x/S.c.c_) (by
  rw[Nat.div_lt_iff_lt_mul (by omega),Nat.div_mul_cancel (Nat.dvd_of_mod_eq_zero d4)];exact hx)).2 q⟩
 have hst:∀x,fF S.db.wd S.rs x->cX.St Q φ x:=λx hx=>fF.st hw2 kz.wG hx
 refine⟨⟨kz.eT (d_:=S.c.d_) (by omega) (by omega) o4 ht (by omega),rfl,λx h1 h2=>Gs x (by omega) (.inr ⟨x,h1,h2,rfl⟩),λx hx r hr3=>?_,λx hx=>hw2.is x (hst x hx),λx hx=>hw2.pos x (hst x hx),by omega,by omega⟩,k2,l3,by omega⟩;have hd:=hw2.mD x (hst x hx) r hr3;exact Gs _ (by omega) (.inl ⟨x+r,hd.1,hd.2,rfl⟩)
end
end Go.Proofs.YtmdgfpeglgpiiaaGreatDoor

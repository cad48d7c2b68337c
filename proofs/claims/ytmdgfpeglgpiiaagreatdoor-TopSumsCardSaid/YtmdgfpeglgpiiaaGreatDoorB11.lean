import Derived.Deep.LoopGhost
import Derived.Test.YtmdgfpeglgpiiaaGreatDoorB07
import Derived.Test.YtmdgfpeglgpiiaaGreatDoorB09
set_option linter.all false
set_option maxRecDepth 100000
set_option maxHeartbeats 16000000
namespace Go.Proofs.YtmdgfpeglgpiiaaGreatDoor
open Go.ChangeShapes Go.WideShapes Go.ChangeAt Go.RowKit Go.Maps Go.Sort
open Vq Oq Go.Proofs.Tryz
structure HS.Alike (S S':HS):Prop where
 c:S'.c=S.c
 rs:S'.rs=S.rs
 aa:S'.aa=S.aa
 top:S'.top=S.top
 m:S'.m=S.m
 ba:∀b,S.D b->S'.ba b=S.ba b
noncomputable def HS.left (S:HS):Nat:=match S.bX with
 | none=>0
 | some k=>k.y.nb-aG k.mv k.y.nb
noncomputable def HS.step (S:HS):HS:=match S.bX with
 | none=>S
 | some k=>(S.pZ k (k.y.move (S.kG k) (k.y.fr k.mv))).fin
noncomputable def HS.steps:Nat->HS->HS
 | 0,S=>S
 | n+1,S=>HS.steps n S.step
noncomputable def HS.finish (S:HS):HS:=HS.steps S.left S
section
variable {S S' S2:HS} {a b x n:Nat} {k:wR}
def HS.Alike.refl (S:HS):S.Alike S:=⟨rfl,rfl,rfl,rfl,rfl,λ_ _=>rfl⟩
def HS.Alike.trans (h:S.Alike S') (h2:S'.Alike S2):S.Alike S2:=by
 refine⟨h2.c.trans h.c,h2.rs.trans h.rs,h2.aa.trans h.aa,h2.top.trans h.top,h2.m.trans h.m,λb hb=>(h2.ba b ?_).trans (h.ba b hb)⟩;unfold HS.D;rw[h.aa,h.top];exact hb
def HS.Alike.rep (h:S.Alike S') (hp:S'.ep) {Q:Nat->Prop} {φ:Nat->Nat} (hr:cX S.ba S.rs S.m Q φ S.aa S.top):cX S'.ba S'.rs S'.m Q φ S'.aa S'.top:=by
 rw[h.rs,h.m,h.aa,h.top];exact hr.congr (λa h1 h2=>h.ba a ⟨h1,h2⟩) hp.il
def HS.Alike.jh (h:S.Alike S') (hg:S.Good) (hp:S'.ep) (hm:∀k,S'.bX=some k->aG k.mv k.y.nb<k.y.nb):S'.Good:=by
 obtain⟨Q,φ,hr⟩:=hg.rep;exact⟨hp,⟨Q,φ,h.rep hp hr⟩,by rw[h.rs,h.m,h.c];exact hg.yB,hm⟩
def HS.ep.jd (h:S.ep) (a:Nat):S.Alike (S.ld a):=by
 obtain⟨h1,h2,h3,h4,h5,h6,h7⟩:=S.iP a;exact⟨h1,h2,h3,h4,h7,(h.ld a).2⟩
def HS.ep.lp (h:S.ep):S.Alike S.fin:=by
 obtain⟨h1,h2,h3,h4,h5,h6⟩:=S.xD;exact⟨h1,h2,h3,h4,h5,h.fin.2.1⟩
def HS.Good.fr_lt (h:S.Good) (hk:S.bX=some k):k.y.fr k.mv<k.y.nb:=by
 have hm:=h.more k hk;obtain⟨f1,f2,f3⟩:=iy k.y k.mv;rcases Nat.lt_or_ge (k.y.fr k.mv) k.y.nb with q | q
 ·exact q
 ·have:aG k.mv k.y.nb=k.y.nb:=by
   have e:aG k.mv k.y.nb=aG (λ_=>true) k.y.nb:=cB λi hi=>f2 i (by omega)
   rw[e];have:=iw (f:=λ_=>true) (a:=0) (n:=k.y.nb) λ_ _=>rfl
   rw[Nat.zero_add] at this;rw[this];exact Nat.zero_add _
  omega
def HS.Good.step (h:S.Good) (hk:S.bX=some k):k.y.dc S.v (k.y.fr k.mv)=0/\(S.pZ k (k.y.move (S.kG k) (k.y.fr k.mv))).ep/\S.step.Good/\S.Alike S.step/\S.step.left+1=S.left:=by
 obtain⟨k1,k2,k3,k4,k5,k6,k7,k8,k9,hg⟩:=h.aX.opened k hk;have hf:=h.fr_lt hk;obtain⟨h1,h2⟩:=hg.front hf;obtain⟨p1,p2⟩:=h.aX.on hk h2 (fp.move k.y (s:=S.kG k) h.aX.tP (h.aX.oz hk) _);have hal:S.Alike (S.pZ k (k.y.move (S.kG k) (k.y.fr k.mv))):=⟨rfl,rfl,rfl,rfl,rfl,p2⟩
 have e:S.step=(S.pZ k (k.y.move (S.kG k) (k.y.fr k.mv))).fin:=by unfold HS.step;rw[hk]
 obtain⟨f1,f2,f3⟩:=p1.fin;have Gm:=hal.trans p1.lp;have hc:=dK k.y hf ((iy k.y k.mv).2.2 hf);have hm:=h.more k hk;refine⟨h1,p1,by rw[e];exact Gm.jh h f1 f3,by rw[e];exact Gm,?_⟩;rw[e];have el:S.left=k.y.nb-aG k.mv k.y.nb:=by unfold HS.left;rw[hk]
 rw[el];unfold HS.left HS.fin;show (match (if aG (bj k.mv (k.y.fr k.mv)) k.y.nb=k.y.nb then _ else _:HS).bX with | none=>0 | some k=>_)+1=_
 by_cases q:aG (bj k.mv (k.y.fr k.mv)) k.y.nb=k.y.nb
 ·rw[b9 q];show 0+1=_
  omega
 ·rw[b_ q];show k.y.nb-aG (bj k.mv (k.y.fr k.mv)) k.y.nb+1=_
  omega
def HS.pF (hk:S.bX=none):S.left=0:=by unfold HS.left;rw[hk]
def HS.Good.yi (h:S.Good) (hk:S.bX=some k):0<S.left:=by
 have:=h.more k hk;unfold HS.left;rw[hk];show 0<k.y.nb-_
 omega
def HS.Good.left_iff (h:S.Good):S.left=0↔S.bX=none:=by
 cases hk:S.bX with
 | none=>exact⟨λ_=>rfl,λ_=>HS.pF hk⟩
 | some k=>exact⟨λq=>by have:=h.yi hk;omega,λq=>by cases q⟩
def HS.te:∀(n:Nat) {S:HS},S.Good->n<=S.left->(HS.steps n S).Good/\S.Alike (HS.steps n S)/\(HS.steps n S).left+n=S.left
 | 0,S,h,_=>⟨h,.refl S,rfl⟩
 | n+1,S,h,hn=>by
  cases hk:S.bX with
  | none=>rw[HS.pF hk] at hn;omega
  | some k=>
   obtain⟨-, -,h1,h2,h3⟩:=h.step hk;obtain⟨g1,g2,g3⟩:=HS.te n h1 (by omega);exact⟨g1,h2.trans g2,by show (HS.steps n S.step).left+_=_;omega⟩
def HS.Good.finish (h:S.Good):S.finish.Good/\S.Alike S.finish/\S.finish.bX=none:=by
 obtain⟨h1,h2,h3⟩:=HS.te S.left h (Nat.le_refl _);refine⟨h1,h2,h1.left_iff.1 ?_⟩;show (HS.steps S.left S).left=0
 omega
def HS.steps_succ (n:Nat) (S:HS):HS.steps (n+1) S=(HS.steps n S).step:=by
 induction n generalizing S with
 | zero=>rfl
 | succ n ih=>exact ih S.step
def HS.other (S:HS):Nat:=2*S.c.c_+S.c.d_-S.aa
noncomputable def HS.cU (S:HS):aJ:=⟨S.c.mw,S.c.c_,S.c.e_,⟨S.aa,S.top,S.other,S.other+S.c.d_,S.c.block,S.c.aL,S.c.aE⟩,aj S.v.wd S.rs,S.v.wd⟩
noncomputable def HS.Nk (S:HS):VS:=fA (S.c.mw/S.c.c_) (λq=>decide (S.cU.cw (λ_=>true) q=0)) (S.aa/S.c.c_) ((S.top+S.c.c_-1)/S.c.c_-S.aa/S.c.c_) S.v
noncomputable def HS.opened (S:HS):HS:=
 {S with v:=S.Nk,rs:=S.rs.map λx=>if x=0 then 0 else qp S.cU.E S.other x,aa:=S.other,top:=S.other+S.cU.aq,bX:=some ⟨S.cU,λ_=>false,S.v.wd⟩}
noncomputable def HS.open (S:HS):HS:=S.opened.fin
def HS.Good.opens (h:S.Good) (hk:S.bX=none) (h1:S.c.kind=1):
  S.cU.aq<=S.c.d_/\S.opened.ep/\S.open.Good/\S.open.m=S.m/\S.open.c=S.c/\S.open.aa=S.other/\S.open.top=S.other+S.m.aq/\S.open.rs=S.opened.rs:=by
 obtain⟨Q,φ,hr⟩:=h.rep;have hZ:S.ba=S.v.wd:=funext λa=>HS.cL hk
 rw[hZ] at hr;obtain⟨r1,r2,r3,r4,r5⟩:=h.aX.run;obtain⟨⟨d1,d2⟩,d3,d4,d5,d6,d7⟩:=h.aX.bG.fX;have d7:=d7 (by omega);have ht:=h.aX.top;have hb:=h.aX.aa;have ho:(S.other=S.c.c_\/S.other=S.c.c_+S.c.d_)/\S.other%S.c.c_=0/\S.other+S.c.d_<=S.c.mw/\(S.aa+S.c.d_<=S.other\/S.other+S.c.d_<=S.aa):=by
  unfold HS.other;rcases hb with e | ⟨-,e⟩
  ·have e2:2*S.c.c_+S.c.d_-S.aa=S.c.c_+S.c.d_:=by omega
   rw[e2];refine⟨.inr rfl,?_,by omega,by omega⟩;rw[Nat.add_mod,Nat.mod_self,d3];rfl
  ·have e2:2*S.c.c_+S.c.d_-S.aa=S.c.c_:=by omega
   rw[e2];exact⟨.inl rfl,Nat.mod_self _,by omega,by omega⟩
 obtain⟨o1,o2,o3,o4⟩:=ho;have hblk:1<=S.c.block/\S.c.block<=1024:=h.aX.bG.block.le;have hdiv:S.c.block∣S.c.c_\/S.c.c_∣S.c.block:=by
  obtain⟨j,_,e⟩:=h.aX.bG.block;have key:∀i,S.c.c_=2^i->S.c.block∣S.c.c_\/S.c.c_∣S.c.block:=λi e2=>by
   rw[e,e2];rcases Nat.le_total j i with q | q
   ·exact .inl (Nat.pow_dvd_pow 2 q)
   ·exact .inr (Nat.pow_dvd_pow 2 q)
  rcases h.aX.bG.c_ with q | q | q | q | q | q | q | q | q
  ·exact key 0 (by omega)
  ·exact key 1 (by omega)
  ·exact key 2 (by omega)
  ·exact key 3 (by omega)
  ·exact key 4 (by omega)
  ·exact key 5 (by omega)
  ·exact key 6 (by omega)
  ·exact key 7 (by omega)
  ·exact key 8 (by omega)
 have sk:S.cU.aq=S.m.aq:=by
  rw[←(hr.counts (N:=S.c.mw) (by omega) (by omega)).2,ti (hr.ju (by omega))];rfl
 have hll:=hr.jM (by omega) ht.1;have hroom:S.c.e_=S.c.d_/S.c.c_+(S.c.aE+2)*(max (S.c.block/S.c.c_) 1+3):=by
  unfold HC.e_ HC.spare;rw[b9 h1]
 have Er:=hr.opened (y:=S.cU) (v:=S.v) (v':=S.Nk) (d_:=S.c.d_) rfl rfl ⟨d1,d4⟩ d3 ⟨ht.1,ht.2,r3⟩ r2 o2 ⟨rfl,o3⟩ o4 hblk.1 hdiv hroom (h.aX.closed hk) h.aX.used h.aX.aM rfl;have GG:∀a,S.Nk.wd a<18446744073709551616:=λa=>by
  have nK:=vE (v':=S.Nk) (h.aX.closed hk) h.aX.used d1 r2 ht.1 (by rw[Nat.div_mul_cancel (Nat.dvd_of_mod_eq_zero d4)];omega) rfl;rw[nK.1];exact h.aX.tP a
 have Cy:=hr.open0 (y:=S.cU) (by show S.top<=S.c.mw;omega) (by show S.c.mw<=1000000;omega) rfl rfl ⟨S.Nk,λ_=>false⟩ rfl (by show 0<S.other;omega) (by show S.other<2147483648;omega) GG;have ye:S.opened.ep:=by
  refine⟨h.aX.bG,?_,⟨by show S.other<=S.other+_;omega,by show S.other+S.cU.aq<=S.other+S.c.d_;omega⟩,GG,Er.mc.used,Er.mc.aM,λq=>(by cases q),λk q=>?_⟩
  ·rcases o1 with e | e
   ·exact .inl e
   ·exact .inr ⟨by show S.c.kind≠3;omega,e⟩
  ·cases q
   exact⟨h1,rfl,rfl,rfl,rfl,rfl,rfl,rfl,h.aX.tP,Er⟩
 obtain⟨f1,f2,f3⟩:=ye.fin;have hal:=ye.lp;have hop:cX S.opened.ba S.opened.rs S.opened.m (gA S.m.pt S.m.S) (λa=>if a=0 then 0 else qp S.cU.E S.other (φ a)) S.opened.aa S.opened.top:=Cy;refine⟨by omega,ye,⟨f1,⟨_,_,hal.rep f1 hop⟩,?_,f3⟩,hal.m,hal.c,hal.aa,?_,hal.rs⟩
 ·show S.opened.fin.rs.length=S.opened.fin.c.bV/\S.opened.fin.m.C=S.opened.fin.c.d_
  rw[hal.rs,hal.c,hal.m];refine⟨?_,h.yB.2⟩;show (S.rs.map _).length=_
  rw[List.length_map];exact h.yB.1
 ·show S.opened.fin.top=_
  rw[hal.top,←sk];rfl
end
section
variable {d_ c_ e_ a b np p c:Nat} {v:VS}
def we (hp:1<=c_) (hw:d_%c_=0) (hab:a<b) (hb:b<=d_) (hu:bg (d_/c_) v) {v':VS} (hv:v'=dL c_ v (dQ v (a/c_) ((b-1)/c_-a/c_+1))):
  v'.used=v.used+(dQ v (a/c_) ((b-1)/c_-a/c_+1)).length/\v'.aM<=max v.aM v'.used/\bg (d_/c_) v'/\
  (∀p,v'.mp p=true↔v.mp p=true\/(∃x,a<=x/\x<b/\x/c_=p))/\(∀x,v.mp (x/c_)=true->v'.wd x=v.wd x)/\(∀x,v'.wd x=v.wd x\/v'.wd x=0):=by
 have hle:a/c_<=(b-1)/c_:=Nat.div_le_div_right (by omega);have hm:∀p,p∈dQ v (a/c_) ((b-1)/c_-a/c_+1)↔(a/c_<=p/\p<=(b-1)/c_)/\v.mp p=false:=λp=>by
  rw[jr];constructor
  ·rintro⟨q1,q2⟩;exact⟨by omega,q2⟩
  ·rintro⟨q1,q2⟩;exact⟨by omega,q2⟩
 have hrun:∀p,(a/c_<=p/\p<=(b-1)/c_)↔∃x,a<=x/\x<b/\x/c_=p:=λp=>by
  constructor
  ·rintro⟨q1,q2⟩;have h1:p*c_<=b-1:=Nat.le_trans (Nat.mul_le_mul_right _ q2) (Nat.div_mul_le_self _ _);rcases Nat.le_total a (p*c_) with r | r
   ·exact⟨p*c_,r,by omega,Nat.mul_div_cancel _ (by omega)⟩
   ·refine⟨a,Nat.le_refl _,hab,?_⟩;have:p<=a/c_:=(Nat.le_div_iff_mul_le (by omega)).2 r;omega
  ·rintro⟨x,q1,q2,rfl⟩;exact⟨Nat.div_le_div_right q1,Nat.div_le_div_right (by omega)⟩
 rw[hv];refine⟨jo ..,?_,hu.dL (λp q=>⟨?_,((hm p).1 q).2⟩) (mL _ _ _),λp=>?_,λx hx=>?_,λx=>?_⟩
 ·rw[uM,jo]
  split
  ·exact Nat.le_max_left _ _
  ·exact Nat.le_refl _
 ·have h1:=((hm p).1 q).1;refine Nat.lt_of_le_of_lt h1.2 ?_;rw[Nat.div_lt_iff_lt_mul (by omega),Nat.div_mul_cancel (Nat.dvd_of_mod_eq_zero hw)];omega
 ·rw[rh,Bool.or_eq_true,decide_eq_true_eq,hm,←hrun];constructor
  ·rintro (q | q)
   ·exact .inl q
   ·exact .inr q.1
  ·rintro (q | q)
   ·exact .inl q
   ·cases hq:v.mp p with
    | true=>exact .inl rfl
    | false=>exact .inr ⟨q,rfl⟩
 ·rw[nU,b_];rw[hm];rintro⟨q1,q2⟩;rw[hx] at q2
  cases q2
 ·rw[nU]
  split
  ·exact .inr rfl
  ·exact .inl rfl
def jq (hab:a<b) (hb:b<=d_) (hf:v.used+(dQ v (a/c_) ((b-1)/c_-a/c_+1)).length<=e_):
  dc d_ c_ e_ v a b=0/\bH d_ c_ e_ v a b=dL c_ v (dQ v (a/c_) ((b-1)/c_-a/c_+1)):=by
 constructor
 ·unfold dc;rw[cG,cG];unfold qB;rw[Int.toNat_natCast,Int.toNat_natCast,iY]
 ·unfold bH;rw[cG,cG];unfold jP;rw[Int.toNat_natCast,Int.toNat_natCast,iY]
def jQ (h:b<=a) (hb:b<=d_):dc d_ c_ e_ v a b=0/\bH d_ c_ e_ v a b=v:=by
 constructor
 ·unfold dc;rw[cG,iY]
 ·unfold bH;rw[cG,iY]
def newP_few (hp:1<=c_) (hab:a<b):(dQ v (a/c_) ((b-1)/c_-a/c_+1)).length<=(b-a)/c_+2:=by
 have hl:=oa v (a/c_) ((b-1)/c_-a/c_+1);have:(b-1)/c_<=a/c_+(b-a)/c_+1:=by
  have e1:=Nat.div_add_mod a c_;have e2:=Nat.div_add_mod (b-a) c_;have l1:=Nat.mod_lt a (y:=c_) (by omega);have l2:=Nat.mod_lt (b-a) (y:=c_) (by omega);have h3:(b-1)/c_<a/c_+(b-a)/c_+2:=by
   rw[Nat.div_lt_iff_lt_mul (by omega),Nat.add_mul,Nat.add_mul,Nat.mul_comm (a/c_),Nat.mul_comm ((b-a)/c_)];omega
  omega
 generalize (b-a)/c_=x1 at *;generalize (b-1)/c_=x2 at *;generalize a/c_=x3 at *;omega
end
noncomputable def HS.ext (S:HS) (n:Nat):HS:={S with v:=bH S.c.mw S.c.c_ S.c.e_ S.v (S.top:Nat) (S.top+n:Nat),top:=S.top+n}
def HS.gC (S:HS) (n:Nat):Prop:=S.v.used+(n/S.c.c_+2)+S.c.spare<=S.c.e_
section
variable {S:HS} {n:Nat} {k:wR}
def HS.ep.ext (h:S.ep) (hn:1<=n) (hf:S.top+n<=S.aa+S.c.d_) (hs:∀k,S.bX=some k->S.gC n):
  dc S.c.mw S.c.c_ S.c.e_ S.v (S.top:Nat) (S.top+n:Nat)=0/\(S.ext n).ep/\(∀b,S.D b->(S.ext n).ba b=S.ba b):=by
 obtain⟨r1,r2,r3,r4,r5⟩:=h.run;obtain⟨⟨d1,d2⟩,d3,d4,d5,d6,d7⟩:=h.bG.fX;have ht:=h.top;obtain⟨v',hv⟩:∃v',v'=dL S.c.c_ S.v (dQ S.v (S.top/S.c.c_) ((S.top+n-1)/S.c.c_-S.top/S.c.c_+1)):=⟨_,rfl⟩
 obtain⟨m1,m2,m3,m4,m5,m6⟩:=we (d_:=S.c.mw) d1 d4 (a:=S.top) (b:=S.top+n) (by omega) (by omega) h.used hv;have fZ:fp v':=λa=>by
  rcases m6 a with q | q
  ·rw[q];exact h.tP a
  ·omega
 cases hk:S.bX with
 | none=>
  have kN:=h.closed hk;have ID:tQ (S.c.mw/S.c.c_) S.c.c_ S.aa (S.top+n) v':=λp hp=>by
   rw[m4,kN p hp];constructor
   ·rintro (⟨a,q1,q2,q3⟩ | ⟨a,q1,q2,q3⟩)
    ·exact⟨a,q1,by omega,q3⟩
    ·exact⟨a,by omega,q2,q3⟩
   ·rintro⟨a,q1,q2,q3⟩;rcases Nat.lt_or_ge a S.top with q | q
    ·exact .inl ⟨a,q1,q,q3⟩
    ·exact .inr ⟨a,q,q2,q3⟩
  have EF:=nu ID m3 d1 r2 (by omega) (by rw[Nat.div_mul_cancel (Nat.dvd_of_mod_eq_zero d4)];omega);have hroom:v'.used<=S.c.e_:=by
   rw[EF];have h1:(S.top+n-S.aa+S.c.c_-1)/S.c.c_<=S.c.d_/S.c.c_:=by
    have e:=Nat.div_mul_cancel (Nat.dvd_of_mod_eq_zero d3);have:(S.top+n-S.aa+S.c.c_-1)/S.c.c_<S.c.d_/S.c.c_+1:=by
     rw[Nat.div_lt_iff_lt_mul (by omega),Nat.add_mul,e];omega
    omega
   unfold HC.e_
   split
   ·omega
   ·split<;>omega
  obtain⟨e1,e2⟩:=jq (d_:=S.c.mw) (c_:=S.c.c_) (e_:=S.c.e_) (v:=S.v) (a:=S.top) (b:=S.top+n) (by omega) (by omega) (by rw[←m1];exact hroom);have e3:S.ext n={S with v:=v',top:=S.top+n}:=by unfold HS.ext;rw[e2,hv]
  rw[e3];refine⟨e1,⟨h.bG,h.aa,⟨by show S.aa<=S.top+n;omega,hf⟩,fZ,m3,by show v'.aM<=S.c.e_;have:=h.aM;omega,λ_=>ID,λk q=>?_⟩,λb hb=>?_⟩
  ·rw[show S.bX=some k from q] at hk
   cases hk
  ·rw[HS.cL (S:={S with v:=v',top:=S.top+n}) hk,HS.cL hk];exact m5 b (h.cR hk hb).2
 | some k=>
  obtain⟨k1,k2,k3,k4,k5,k6,k7,k8,k9,hg⟩:=h.opened k hk;have hsp:S.v.used+(n/S.c.c_+2)+S.c.spare<=S.c.e_:=hs k hk;have qO:=newP_few (v:=S.v) (c_:=S.c.c_) (a:=S.top) (b:=S.top+n) d1 (by omega);rw[Nat.add_sub_cancel_left] at qO;obtain⟨e1,e2⟩:=jq (d_:=S.c.mw) (c_:=S.c.c_) (e_:=S.c.e_) (v:=S.v) (a:=S.top) (b:=S.top+n) (by omega) (by omega) (by omega);have e3:S.ext n={S with v:=v',top:=S.top+n}:=by unfold HS.ext;rw[e2,hv]
  rw[e3];have ey:=hg.ok.jn;have oO:=hg.mc.yK;have zw:∀i,i<k.y.aq->k.mv (i/k.y.c.block)=false->S.v.mp (k.y.bw i/k.y.c_)=true:=λi hi hm=>(hg.mc.mp _ (hg.ok.pg (fy k.y hi).1)).2 (.inl ⟨i,hi,hm,rfl⟩)
  have hM:∀p,k.y.M k.mv (S.top+n) p↔k.y.M k.mv S.top p\/∃x,S.top<=x/\x<S.top+n/\x/k.y.c_=p:=λp=>by
   unfold aJ.M aJ.Al;constructor
   ·rintro (q | q | ⟨a,q1,q2,q3⟩)
    ·exact .inl (.inl q)
    ·exact .inl (.inr (.inl q))
    ·rcases Nat.lt_or_ge a S.top with r | r
     ·exact .inl (.inr (.inr ⟨a,q1,r,q3⟩))
     ·exact .inr ⟨a,r,q2,q3⟩
   ·rintro ((q | q | ⟨a,q1,q2,q3⟩) | ⟨a,q1,q2,q3⟩)
    ·exact .inl q
    ·exact .inr (.inl q)
    ·exact .inr (.inr ⟨a,q1,by omega,q3⟩)
    ·exact .inr (.inr ⟨a,by omega,q2,q3⟩)
  have hin:k.y.In k.g0 (S.top+n) ⟨v',k.mv⟩:=by
   refine⟨⟨by omega,by omega⟩,λp hp=>?_,λi hi hm=>?_,?_,hg.mc.out,?_⟩
   ·show v'.mp p=true↔_
    have:=hg.mc.mp p hp;rw[m4,hM,show S.v.mp p=true↔_ from this,k3]
   ·show v'.wd _=_
    have q:=zw i hi hm;rw[k3] at q;rw[m5 _ q];exact hg.mc.old i hi hm
   ·rw[k2,k3];exact m3
   ·show v'.aM<=_
    have:=h.aM;rw[k4];omega
  refine⟨e1,⟨h.bG,h.aa,⟨by show S.aa<=S.top+n;omega,hf⟩,fZ,m3,by show v'.aM<=S.c.e_;have:=h.aM;omega,λq=>(by rw[show S.bX=none from q] at hk;cases hk),λk' q=>?_⟩,λb hb=>?_⟩
  ·obtain rfl:k=k':=by rw[show S.bX=some k' from q] at hk;exact (Option.some.inj hk).symm
   refine⟨k1,k2,k3,k4,k5,k6,k7,k8,k9,hg.ok,hin,λmv' hle xP=>?_,hg.ah⟩;have hc:=hg.ok.count (mv:=k.mv) (mv':=mv') (top:=S.top+n) (A:=k.y.c.aE) (by omega) hle xP;have hu:v'.used=aW (k.y.M k.mv (S.top+n)) (k.y.d_/k.y.c_):=hin.BV;have hq:k.y.q=max (S.c.block/S.c.c_) 1:=by unfold aJ.q;rw[k7,k3]
   have hspare:S.c.spare=k.y.q*k.y.c.aE+3*k.y.c.aE+2*k.y.q+6:=by
    unfold HC.spare;rw[←hq,←k8,Nat.add_mul,Nat.mul_add,Nat.mul_comm k.y.c.aE k.y.q];omega
   show aW (k.y.M mv' (S.top+n)) (k.y.d_/k.y.c_)+k.y.q<=k.y.e_
   rw[k4];generalize n/S.c.c_=np at *;omega
  ·rw[HS.fW (S:={S with v:=v',top:=S.top+n}) hk,HS.fW hk];obtain⟨x1,x2,x3⟩:=h.mD hk hb;unfold aJ.ba;by_cases q:k.y.waits k.mv b
   ·rw[b9 q,b9 q]
   ·rw[b_ q,b_ q];have:=x3.resolve_left q;rw[k3] at this;exact m5 b this
end
noncomputable def HS.iX (S:HS):aJ:=⟨S.c.mw,S.c.c_,S.c.e_,⟨S.aa,S.top,S.aa,S.aa+S.c.d_,64,S.c.aL,0⟩,aj S.v.wd S.rs,S.v.wd⟩
noncomputable def HS.BE (S:HS):VS:=fA (S.c.mw/S.c.c_) (λq=>decide (S.aa+S.iX.aq<=q*S.c.c_)) (S.aa/S.c.c_) ((S.top+S.c.c_-1)/S.c.c_-S.aa/S.c.c_) (S.iX.pk S.v.wd S.v S.iX.aq)
noncomputable def HS.packed (S:HS):HS:=
 {S with v:=S.BE,rs:=S.rs.map λx=>if x=0 then 0 else qp (aj S.v.wd S.rs) S.aa x,top:=S.aa+S.iX.aq,ae:=S.ae+1}
noncomputable def HS.db (S:HS):VS:=bH S.c.mw S.c.c_ S.c.e_ S.v (S.other:Nat) (S.other+S.m.aq:Nat)
noncomputable def HS.Cl (S:HS):CS:=qn S.db.wd S.other S.db S.rs
noncomputable def HS.copied (S:HS):HS:=
 {S with v:=fA (S.c.mw/S.c.c_) (λ_=>true) (S.aa/S.c.c_) ((S.top+S.c.c_-1)/S.c.c_-S.aa/S.c.c_) S.Cl.v,rs:=S.rs.map (ku S.db.wd S.other S.Cl.l),aa:=S.other,top:=S.other+S.m.aq,ae:=S.ae+1}
noncomputable def HS.collect (S:HS):HS:=if S.c.kind=1 then S.finish.open.finish else if S.c.kind=2 then S.copied else S.packed
section
variable {S:HS} {n:Nat} {k:wR}
def HS.ep.pN (h:S.ep) (h3:S.c.kind≠3):(S.other=S.c.c_\/S.other=S.c.c_+S.c.d_)/\S.other%S.c.c_=0/\S.other+S.c.d_<=S.c.mw/\(S.aa+S.c.d_<=S.other\/S.other+S.c.d_<=S.aa):=by
 obtain⟨⟨d1,d2⟩,d3,d4,d5,d6,d7⟩:=h.bG.fX;have d7:=d7 h3;unfold HS.other;rcases h.aa with e | ⟨-,e⟩
 ·have e2:2*S.c.c_+S.c.d_-S.aa=S.c.c_+S.c.d_:=by omega
  rw[e2];refine⟨.inr rfl,?_,by omega,by omega⟩;rw[Nat.add_mod,Nat.mod_self,d3];rfl
 ·have e2:2*S.c.c_+S.c.d_-S.aa=S.c.c_:=by omega
  rw[e2];exact⟨.inl rfl,Nat.mod_self _,by omega,by omega⟩
def HS.Good.iN (h:S.Good) (h1:S.c.kind≠1):S.bX=none:=by
 cases hk:S.bX with
 | none=>rfl
 | some k=>exact absurd (h.aX.opened k hk).1 h1
def HS.Good.nS (h:S.Good) (hk:S.bX=none):bB (aj S.v.wd S.rs) S.c.mw=S.m.aq/\S.m.aq<=S.top-S.aa/\bd (aj S.v.wd S.rs) S.c.mw=S.m.aq:=by
 obtain⟨Q,φ,hr⟩:=h.rep;have hZ:S.ba=S.v.wd:=funext λa=>HS.cL hk
 rw[hZ] at hr;have hrun:=h.aX.run;have ht:=h.aX.top;have h2:=(hr.counts (N:=S.c.mw) (by omega) (by omega)).2;refine⟨?_,hr.jM (by omega) ht.1,h2⟩;rw[←h2,ti (hr.ju (by omega))]
def HS.Good.EX (h:S.Good) (h1:S.c.kind≠1):S.packed.Good/\S.packed.m=S.m/\S.packed.c=S.c/\S.packed.bX=none/\S.packed.top-S.packed.aa=S.m.aq/\
  (dQ S.v (S.aa/S.c.c_) ((S.aa+S.m.aq-1)/S.c.c_-S.aa/S.c.c_+1)= []\/S.m.aq=0):=by
 have hk:=h.iN h1;obtain⟨l1,l2,l3⟩:=h.nS hk;obtain⟨Q,φ,hr⟩:=h.rep;have hZ:S.ba=S.v.wd:=funext λa=>HS.cL hk
 rw[hZ] at hr;obtain⟨r1,r2,r3,r4,r5⟩:=h.aX.run;obtain⟨⟨d1,d2⟩,d3,d4,d5,d6,d7⟩:=h.aX.bG.fX;have ht:=h.aX.top;obtain⟨p1,p2,p3,p4,p5⟩:=hr.packed (y:=S.iX) (v':=S.BE) rfl rfl ⟨d1,d4⟩ ⟨ht.1,r4⟩ (by show S.c.mw<=1000000;omega) r2 rfl (h.aX.closed hk) h.aX.used rfl;have hlv:S.iX.aq=S.m.aq:=l1;have ED:S.packed.ba=S.BE.wd:=funext λa=>HS.cL (S:=S.packed) hk
 refine⟨⟨⟨h.aX.bG,h.aX.aa,⟨by show S.aa<=S.aa+S.iX.aq;omega,by show S.aa+S.iX.aq<=S.aa+S.c.d_;omega⟩,p1.small,p3,by show S.BE.aM<=S.c.e_;rw[p4];exact h.aX.aM,λ_=>p2,λk q=>?_⟩,⟨gA S.m.pt S.m.S,λa=>if a=0 then 0 else qp (aj S.v.wd S.rs) S.aa (φ a),by rw[ED];exact p1⟩,?_,λk q=>?_⟩,rfl,rfl,hk,?_,?_⟩
 ·rw[show S.bX=some k from q] at hk
  cases hk
 ·exact⟨by show (S.rs.map _).length=_;rw[List.length_map];exact h.yB.1,h.yB.2⟩
 ·rw[show S.bX=some k from q] at hk
  cases hk
 ·show S.aa+S.iX.aq-S.aa=_
  omega
 ·rcases Nat.eq_zero_or_pos S.m.aq with q | q
  ·exact .inr q
  ·left;refine List.eq_nil_iff_forall_not_mem.2 λp hp=>?_
   obtain⟨m1,m2⟩:=jr.1 hp;have Oo:p*S.c.c_<S.top:=by
    have:p<=(S.aa+S.m.aq-1)/S.c.c_:=by
     have:S.aa/S.c.c_<=(S.aa+S.m.aq-1)/S.c.c_:=Nat.div_le_div_right (by omega);omega
    have:=Nat.le_trans (Nat.mul_le_mul_right _ this) (Nat.div_mul_le_self _ _);omega
   have Bg:p<S.c.mw/S.c.c_:=by
    refine Nat.lt_of_mul_lt_mul_right (a:=S.c.c_) ?_;rw[Nat.div_mul_cancel (Nat.dvd_of_mod_eq_zero d4)];omega
   have:=(h.aX.closed hk p Bg).2 ((mO d1 r2).2 ⟨by omega,Oo⟩);rw[m2] at this
   cases this
def HS.Good.zP (h:S.Good) (h2:S.c.kind=2):S.copied.Good/\S.copied.m=S.m/\S.copied.c=S.c/\S.copied.bX=none/\S.copied.top-S.copied.aa=S.m.aq/\
  dc S.c.mw S.c.c_ S.c.e_ S.v (S.other:Nat) (S.other+S.m.aq:Nat)=0/\(aZ (iR S.db.wd S.other) ⟨[],S.db⟩ S.rs).2=S.copied.rs/\bW S.db.wd S.Cl.l=S.m.aq/\
  ∃Q φ,cX S.db.wd S.rs S.m Q φ S.aa S.top:=by
 have hk:=h.iN (by omega);obtain⟨l1,l2,l3⟩:=h.nS hk;obtain⟨Q,φ,hr⟩:=h.rep;have hZ:S.ba=S.v.wd:=funext λa=>HS.cL hk
 rw[hZ] at hr;obtain⟨r1,r2,r3,r4,r5⟩:=h.aX.run;obtain⟨⟨d1,d2⟩,d3,d4,d5,d6,d7⟩:=h.aX.bG.fX;have ht:=h.aX.top;obtain⟨o1,o2,o3,o4⟩:=h.aX.pN (by omega);have kN:=h.aX.closed hk;have NW:=Nat.div_mul_cancel (Nat.dvd_of_mod_eq_zero d3);have Ad:∀x,x<=S.c.d_->(x+S.c.c_-1)/S.c.c_<=S.c.d_/S.c.c_:=λx hx=>by
  have:(x+S.c.c_-1)/S.c.c_<S.c.d_/S.c.c_+1:=by
   rw[Nat.div_lt_iff_lt_mul (by omega),Nat.add_mul,NW];omega
  omega
 have hu0:S.v.used<=S.c.d_/S.c.c_:=by
  rw[nu kN h.aX.used d1 r2 ht.1 (by rw[Nat.div_mul_cancel (Nat.dvd_of_mod_eq_zero d4)];omega)];exact Ad _ (by omega)
 have hroom:S.c.e_=2*(S.c.d_/S.c.c_):=by
  unfold HC.e_;rw[cG,b9 h2]
 have key:dc S.c.mw S.c.c_ S.c.e_ S.v (S.other:Nat) (S.other+S.m.aq:Nat)=0/\fp S.db/\bg (S.c.mw/S.c.c_) S.db/\S.db.aM<=S.c.e_/\(∀p,p<S.c.mw/S.c.c_->(S.db.mp p=true↔(∃a,S.aa<=a/\a<S.top/\a/S.c.c_=p)\/∃a,S.other<=a/\a<S.other+S.m.aq/\a/S.c.c_=p))/\
   ∀a,S.aa<=a->a<S.top->S.db.wd a=S.v.wd a:=by
  rcases Nat.eq_zero_or_pos S.m.aq with q | q
  ·obtain⟨e1,e2⟩:=jQ (d_:=S.c.mw) (c_:=S.c.c_) (e_:=S.c.e_) (v:=S.v) (a:=S.other) (b:=S.other+S.m.aq) (by omega) (by omega);have e3:S.db=S.v:=e2;rw[e3];refine⟨e1,h.aX.tP,h.aX.used,h.aX.aM,λp hp=>?_,λ_ _ _=>rfl⟩;rw[kN p hp];exact⟨.inl,λr=>r.resolve_right fun⟨a,q1,q2,_⟩=>by omega⟩
  ·obtain⟨v',hv⟩:∃v',v'=dL S.c.c_ S.v (dQ S.v (S.other/S.c.c_) ((S.other+S.m.aq-1)/S.c.c_-S.other/S.c.c_+1)):=⟨_,rfl⟩
   obtain⟨m1,m2,m3,m4,m5,m6⟩:=we (d_:=S.c.mw) d1 d4 (a:=S.other) (b:=S.other+S.m.aq) (by omega) (by omega) h.aX.used hv;have hlen:(dQ S.v (S.other/S.c.c_) ((S.other+S.m.aq-1)/S.c.c_-S.other/S.c.c_+1)).length<=S.c.d_/S.c.c_:=by
    refine Nat.le_trans (oa _ _ _) ?_;have e1:=Nat.div_mul_cancel (Nat.dvd_of_mod_eq_zero o2);have:(S.other+S.m.aq-1)/S.c.c_<S.other/S.c.c_+S.c.d_/S.c.c_:=by
     rw[Nat.div_lt_iff_lt_mul (by omega),Nat.add_mul,e1,NW];omega
    have:S.other/S.c.c_<=(S.other+S.m.aq-1)/S.c.c_:=Nat.div_le_div_right (by omega);omega
   obtain⟨e1,e2⟩:=jq (d_:=S.c.mw) (c_:=S.c.c_) (e_:=S.c.e_) (v:=S.v) (a:=S.other) (b:=S.other+S.m.aq) (by omega) (by omega) (by omega);have e3:S.db=v':=by rw[hv];exact e2
   rw[e3];refine⟨e1,λa=>?_,m3,by have:=h.aX.aM;omega,λp hp=>?_,λa a1 a2=>m5 a (h.aX.cR hk ⟨a1,a2⟩).2⟩
   ·rcases m6 a with r | r
    ·rw[r];exact h.aX.tP a
    ·omega
   ·rw[m4,kN p hp]
 obtain⟨k1,k2,k3,k4,k5,k6⟩:=key;have kz:cX S.db.wd S.rs S.m Q φ S.aa S.top:=hr.congr k6 k2;have Cw:S.c.mw/S.c.c_*S.c.c_=S.c.mw:=Nat.div_mul_cancel (Nat.dvd_of_mod_eq_zero d4);obtain⟨c1,c2,c3,c4,c5,c6⟩:=kz.copied (to:=S.other) (d_:=S.c.d_) (c_:=S.c.c_) (np:=S.c.mw/S.c.c_) (s:=S.Cl) (v2:=S.copied.v) (by omega) (by omega) o4 ht ⟨by rcases o1 with e | e<;>omega,by omega⟩ d1 r2 o2 d3 (by rw[Cw];omega) k5 k3 rfl rfl;have ED:S.copied.ba=S.copied.v.wd:=funext λa=>HS.cL (S:=S.copied) hk
 refine⟨⟨⟨h.aX.bG,?_,⟨by show S.other<=S.other+S.m.aq;omega,by show S.other+S.m.aq<=S.other+S.c.d_;omega⟩,c3.small,c5,by rw[c6];exact k4,λ_=>c4,λk q=>?_⟩,⟨gA S.m.pt S.m.S,λa=>if a=0 then 0 else S.other+aN S.db.wd S.Cl.l (φ a),by rw[ED];exact c3⟩,?_,λk q=>?_⟩,rfl,rfl,hk,?_,k1,c1,c2,Q,φ,kz⟩
 ·rcases o1 with e | e
  ·exact .inl e
  ·exact .inr ⟨by show S.c.kind≠3;omega,e⟩
 ·rw[show S.bX=some k from q] at hk
  cases hk
 ·exact⟨by show (S.rs.map _).length=_;rw[List.length_map];exact h.yB.1,h.yB.2⟩
 ·rw[show S.bX=some k from q] at hk
  cases hk
 ·show S.other+S.m.aq-S.other=_
  omega
def HS.Good.collect (h:S.Good):S.collect.Good/\S.collect.m=S.m/\S.collect.c=S.c/\S.collect.bX=none/\S.collect.top-S.collect.aa=S.m.aq:=by
 unfold HS.collect;by_cases h1:S.c.kind=1
 ·rw[b9 h1];obtain⟨f1,f2,f3⟩:=h.finish;obtain⟨o1,o2,o3,o4,o5,o6,o7,o8⟩:=f1.opens f3 (by rw[f2.c];exact h1);obtain⟨g1,g2,g3⟩:=o3.finish;refine⟨g1,g2.m.trans (o4.trans f2.m),g2.c.trans (o5.trans f2.c),g3,?_⟩;rw[g2.top,g2.aa,o6,o7,f2.m];omega
 ·rw[b_ h1];by_cases h2:S.c.kind=2
  ·rw[b9 h2];obtain⟨c1,c2,c3,c4,c5, -⟩:=h.zP h2;exact⟨c1,c2,c3,c4,c5⟩
  ·rw[b_ h2];obtain⟨c1,c2,c3,c4,c5, -⟩:=h.EX h1;exact⟨c1,c2,c3,c4,c5⟩
end
noncomputable instance (S:HS) (n:Nat):Decidable (S.gC n):=by unfold HS.gC;infer_instance
noncomputable def HS.fI (n:Nat):Nat->HS->HS
 | 0,S=>S
 | j+1,S=>match S.bX with
  | none=>S
  | some _=>if S.gC n then S else HS.fI n j S.step
def HS.fits (S:HS) (n:Nat):Prop:=S.top+n<=S.aa+S.c.d_
noncomputable instance (S:HS) (n:Nat):Decidable (S.fits n):=by unfold HS.fits;infer_instance
noncomputable def HS.rm (S:HS) (n:Nat):HS:=
 if (HS.fI n S.left S).fits n then HS.fI n S.left S else if (HS.fI n S.left S).finish.fits n then (HS.fI n S.left S).finish else (HS.fI n S.left S).finish.collect
def HS.uc (S:HS) (a x:Nat):HS:={S with v:=fB S.v a x}
def Ah (v:VS) (a x:Nat):Nat->VS
 | 0=>fB v a x
 | n+1=>fB (Ah v a x n) (a+1+n) 0
noncomputable def HS.pK (S:HS) (s p f o:Nat):HS:=
 {S.ext (1+(p+f+o)) with v:=Ah (S.ext (1+(p+f+o))).v S.top (Hd.dv p f o) (p+f+o),rs:=S.rs.set s S.top,m:=(S.m.new p f o).ic s (S.m.L.length+1)}
def word_fields' (p f o:Nat) (h:Hd.Ok p f o):Hd.Is (Hd.dv p f o)/\Hd.tp (Hd.dv p f o)=p/\Hd.tf (Hd.dv p f o)=f/\Hd.to (Hd.dv p f o)=o:=by
 have h0:=h;unfold Hd.Ok at h;have h1:Hd.tp (Hd.dv p f o)=p/\Hd.tf (Hd.dv p f o)=f/\Hd.to (Hd.dv p f o)=o:=by
  unfold Hd.tp Hd.tf Hd.to Hd.dv Hd.low;refine⟨by omega,by omega,by omega⟩
 refine⟨?_,h1⟩;unfold Hd.Is;rw[h1.1,h1.2.1,h1.2.2];exact⟨h0,rfl⟩
def yU (p f o:Nat) (h:Hd.Ok p f o):Hd.dv p f o<18446744073709551616:=by
 unfold Hd.Ok at h;unfold Hd.dv Hd.low;omega
section
variable {S S':HS} {a b x n:Nat} {k:wR}
def HS.pV:∀(j:Nat) {S:HS},S.Good->S.left<=j->(HS.fI n j S).Good/\S.Alike (HS.fI n j S)/\∀k,(HS.fI n j S).bX=some k->(HS.fI n j S).gC n
 | 0,S,h,hl=>⟨h,.refl S,λk q=>by have:=h.yi q;omega⟩
 | j+1,S,h,hl=>by
  unfold HS.fI
  cases hk:S.bX with
  | none=>exact⟨h,.refl S,λk q=>by simp only[hk] at q;cases q⟩
  | some k=>
   simp only;by_cases hs:S.gC n
   ·rw[b9 hs];exact⟨h,.refl S,λ_ _=>hs⟩
   ·rw[b_ hs];obtain⟨-, -,h1,h2,h3⟩:=h.step hk;obtain⟨g1,g2,g3⟩:=HS.pV j h1 (by omega);exact⟨g1,h2.trans g2,g3⟩
def HS.Good.jM (h:S.Good):S.aa+S.m.aq<=S.top:=by
 obtain⟨Q,φ,hr⟩:=h.rep;have ht:=h.aX.top;have hrun:=h.aX.run;have:=hr.jM (by omega) ht.1;omega
def HS.Good.rm (h:S.Good):(S.rm n).Good/\(S.rm n).m=S.m/\(S.rm n).c=S.c/\((S.rm n).fits n↔S.m.aq+n<=S.c.d_)/\∀k,(S.rm n).bX=some k->(S.rm n).gC n:=by
 obtain⟨r1,r2,r3⟩:=HS.pV (n:=n) S.left h (Nat.le_refl _);have key:∀ {S1:HS},S1.Good->S1.m=S.m->S1.c=S.c->S1.fits n->(S1.fits n↔S.m.aq+n<=S.c.d_):=λ{S1} g em ec hf=>⟨λ_=>by
  have:=g.jM;rw[em] at this;unfold HS.fits at hf;rw[ec] at hf;omega,λ_=>hf⟩
 unfold HS.rm;generalize HS.fI n S.left S=S1 at *;by_cases h1:S1.fits n
 ·rw[b9 h1];exact⟨r1,r2.m,r2.c,key r1 r2.m r2.c h1,r3⟩
 ·rw[b_ h1];obtain⟨f1,f2,f3⟩:=r1.finish;by_cases h2:S1.finish.fits n
  ·rw[b9 h2];exact⟨f1,f2.m.trans r2.m,f2.c.trans r2.c,key f1 (f2.m.trans r2.m) (f2.c.trans r2.c) h2,λk q=>by rw[f3] at q;cases q⟩
  ·rw[b_ h2];obtain⟨g1,g2,g3,g4,g5⟩:=f1.collect;have em:S1.finish.collect.m=S.m:=g2.trans (f2.m.trans r2.m);have ec:S1.finish.collect.c=S.c:=g3.trans (f2.c.trans r2.c);refine⟨g1,em,ec,?_,λk q=>by rw[g4] at q;cases q⟩;have ht:=g1.aX.top;unfold HS.fits;rw[ec];rw[f2.m,r2.m] at g5;omega
def HS.ep.uc (h:S.ep) (ha:S.D a) (hx:x<18446744073709551616) (hw:∀k,S.bX=some k->¬k.y.waits k.mv a):(S.uc a x).ep/\∀b,S.D b->(S.uc a x).ba b=if b=a then x else S.ba b:=by
 have e:S.ld a=S:=by
  unfold HS.ld
  cases hk:S.bX with
  | none=>rfl
  | some k=>
   show S.pZ k (k.y.bO (S.kG k) a)=S
   have:k.y.bO (S.kG k) a=S.kG k:=by
    unfold aJ.bO;rw[b_ (hw k hk)]
   rw[this];unfold HS.pZ;have wZ:some {k with mv:=(S.kG k).mv}=S.bX:=hk.symm;rw[wZ]
 have:=h.st (x:=x) ha hx;unfold HS.st at this;rw[e] at this;exact this
def HS.ep.Ah (hx:x<18446744073709551616) (a:Nat):∀(n:Nat) {S:HS},S.ep->(∀i,i<=n->S.D (a+i))->(∀k,S.bX=some k->∀i,i<=n->¬k.y.waits k.mv (a+i))->
  ({S with v:=Ah S.v a x n}:HS).ep/\∀b,S.D b->({S with v:=Ah S.v a x n}:HS).ba b=if b=a then x else if a<b/\b<=a+n then 0 else S.ba b
 | 0,S,h,hd,hw=>by
  obtain⟨p1,p2⟩:=h.uc (x:=x) (hd 0 (Nat.le_refl _)) hx (λk hk=>hw k hk 0 (Nat.le_refl _));refine⟨p1,λb hb=>(p2 b hb).trans ?_⟩;rw[Nat.add_zero];by_cases e:b=a
  ·rw[b9 e,b9 e]
  ·rw[b_ e,b_ e,cG]
 | n+1,S,h,hd,hw=>by
  obtain⟨i1,i2⟩:=HS.ep.Ah hx a n h (λi hi=>hd i (by omega)) (λk hk i hi=>hw k hk i (by omega));have hda:({S with v:=Go.Proofs.YtmdgfpeglgpiiaaGreatDoor.Ah S.v a x n}:HS).D (a+1+n):=by
   have:=hd (n+1) (Nat.le_refl _);rw[show a+1+n=a+(n+1) by omega];exact this
  obtain⟨p1,p2⟩:=i1.uc (x:=0) hda (by decide) (λk hk=>by
   have:=hw k hk (n+1) (Nat.le_refl _);rw[show a+1+n=a+(n+1) by omega];exact this)
  refine⟨p1,λb hb=>(p2 b hb).trans ?_⟩;rw[i2 b hb];by_cases e:b=a+1+n
  ·rw[b9 e,cG,iY]
  ·rw[b_ e];by_cases e2:b=a
   ·rw[b9 e2,b9 e2]
   ·rw[b_ e2,b_ e2];by_cases e3:a<b/\b<=a+n
    ·rw[b9 e3,iY]
    ·rw[b_ e3,cG]
def HS.Good.pK (h:S.Good) {s p f o:Nat} (hok:Hd.Ok p f o) (hf:S.fits (1+(p+f+o))) (hs:∀k,S.bX=some k->S.gC (1+(p+f+o))) (hsl:s<S.c.bV):
  dc S.c.mw S.c.c_ S.c.e_ S.v (S.top:Nat) (S.top+(1+(p+f+o)):Nat)=0/\(S.pK s p f o).Good/\(∀k,S.bX=some k->∀i,¬k.y.waits k.mv (S.top+i)):=by
 obtain⟨Q,φ,hr⟩:=h.rep;obtain⟨n,hn⟩:∃n,p+f+o=n:=⟨_,rfl⟩
 have ht:=h.aX.top;obtain⟨e1,e2,e3⟩:=h.aX.ext (n:=1+(p+f+o)) (by omega) hf hs;have CC:∀k,S.bX=some k->∀i,¬k.y.waits k.mv (S.top+i):=λk hk i q=>by
  obtain⟨k1,k2,k3,k4,k5,k6,k7,k8,k9,hg⟩:=h.aX.opened k hk;have oO:=hg.mc.yK;have hl:bB k.y.E k.y.d_=k.y.aq:=rfl;have:=q.2.1;omega
 rw[hn] at e1 e2 e3 hf ⊢;have hwo:=yU p f o hok;obtain⟨p1,p2⟩:=e2.Ah hwo S.top n (λi hi=>⟨by show S.aa<=_;omega,by show _<S.top+(1+n);omega⟩) (λk hk i _=>CC k hk i);refine⟨e1,?_,CC⟩;unfold HS.pK;rw[hn];obtain⟨S2,wW⟩:∃S2:HS,S2={S.ext (1+n) with v:=Go.Proofs.YtmdgfpeglgpiiaaGreatDoor.Ah (S.ext (1+n)).v S.top (Hd.dv p f o) n}:=⟨_,rfl⟩
 rw[←wW] at p1 p2;have Bb:S2.bX=S.bX:=by rw[wW];rfl
 have ye:({S2 with rs:=S.rs.set s S.top,m:=(S.m.new p f o).ic s (S.m.L.length+1)}:HS).ep:=⟨p1.bG,p1.aa,p1.top,p1.tP,p1.used,p1.aM,p1.closed,p1.opened⟩
 have hZ:({S2 with rs:=S.rs.set s S.top,m:=(S.m.new p f o).ic s (S.m.L.length+1)}:HS).ba=S2.ba:=rfl;have kt:({S.ext (1+n) with v:=Go.Proofs.YtmdgfpeglgpiiaaGreatDoor.Ah (S.ext (1+n)).v S.top (Hd.dv p f o) n,rs:=S.rs.set s S.top,m:=(S.m.new p f o).ic s (S.m.L.length+1)}:HS)={S2 with rs:=S.rs.set s S.top,m:=(S.m.new p f o).ic s (S.m.L.length+1)}:=by rw[wW]
 rw[kt];have hD:∀b,S.aa<=b->b<S.top+(1+n)->(S.ext (1+n)).D b:=λb q1 q2=>⟨q1,q2⟩
 have Ez:=λb (q1:S.aa<=b) (q2:b<S.top+(1+n))=>p2 b (hD b q1 q2)
 let g':Nat->Nat:=λb=>if S.aa<=b then S2.ba b else S.ba b
 have hg1:∀b,S.aa<=b->g' b=S2.ba b:=λb q=>b9 q
 have fY:=word_fields' p f o hok;have Cy:=hr.new (g':=g') ht.1 (p:=p) (f:=f) (o:=o) (by
   rw[hg1 _ ht.1,Ez _ ht.1 (by omega),b9 rfl];exact fY) (λi hi=>by
   rw[hg1 _ (by omega),Ez _ (by omega) (by omega),cG,iY]) (λb hb=>by
   show (if S.aa<=b then S2.ba b else S.ba b)=_
   split
   ·next q=>
    rw[Ez b q (by omega),cG,cG];exact e3 b ⟨q,hb⟩
   ·rfl) (λb=>by
   show (if S.aa<=b then S2.ba b else S.ba b)<_
   split
   ·exact p1.il b
   ·exact h.aX.il b)
 rw[hn] at Cy;have EA:=Cy.congr (g':=S2.ba) (λb q1 q2=>(hg1 b q1).symm) p1.il;have Bp:=EA.ic s (x:=S.m.L.length+1) (.inr (.inr rfl));rw[b9 rfl] at Bp;have dw:S2.aa=S.aa:=by rw[wW];rfl
 have ht2:S2.top=S.top+(1+n):=by rw[wW];rfl
 refine⟨ye,⟨λa=>Q a\/a=S.m.L.length+1,λa=>if a=S.m.L.length+1 then S.top else φ a,?_⟩,⟨?_,?_⟩,λk q=>?_⟩
 ·show cX S2.ba _ _ _ _ S2.aa S2.top
  rw[dw,ht2];exact Bp
 ·show (S.rs.set s S.top).length=S2.c.bV
  rw[List.length_set,wW];exact h.yB.1
 ·show S.m.C=S2.c.d_
  rw[wW];exact h.yB.2
 ·have:S2.bX=some k:=q;rw[Bb] at this;exact h.more k this
end
def HS.rt (S:HS) (s:Int):Nat:=S.rs.getD s.toNat 0
noncomputable def HS.gt (S:HS) (a:Nat) (i k:Int):HS:=if dx (S.ba a) i k=0 then (S.ld a).ld (a+1+i.toNat) else S.ld a
noncomputable def HS.gw (S:HS) (a:Nat) (i k:Int):Nat:=if dx (S.ba a) i k=0 then S.ba (a+1+i.toNat) else 0
noncomputable def HS.pt (S:HS) (a:Nat) (i k:Int) (x:Nat):HS:=if dx (S.ba a) i k=0 then (S.ld a).st (a+1+i.toNat) x else S.ld a
def HS.iT (S:HS) (m:MH):HS:={S with m:=m}
def HS.oy (S:HS) (s a:Nat) (m:MH):HS:={S with rs:=S.rs.set s a,m:=m}
noncomputable def HS.get (S:HS) (s i k:Int):HS:=if S.m.slot s then (if S.rt s=0 then S.fin else (S.gt (S.rt s) i k).fin) else S
noncomputable def HS.set (S:HS) (s i k:Int) (x y:Nat):HS:=if S.m.slot s then (if S.rt s=0 then S.fin else ((S.pt (S.rt s) i k y).iT (S.m.set s i k x).1).fin) else S
noncomputable def HS.load (S:HS) (s f i:Int):HS:=
 if S.m.slot s/\S.m.slot f then (if S.rt f=0 then S.fin else if dx (S.ba (S.rt f)) i 1=0 then (S.gt (S.rt f) i 1).fin.oy s.toNat (S.gw (S.rt f) i 1) (S.m.load s f i).1 else (S.gt (S.rt f) i 1).fin) else S
noncomputable def HS.store (S:HS) (s i f:Int):HS:=if S.m.slot s/\S.m.slot f then S.set s i 1 (S.m.sl f) (S.rt f) else S
noncomputable def HS.copy (S:HS) (s f:Int):HS:=if S.m.slot s/\S.m.slot f then S.oy s.toNat (S.rt f) (S.m.copy s f).1 else S
noncomputable def HS.clear (S:HS) (s:Int):HS:=if S.m.slot s then S.oy s.toNat 0 (S.m.clear s).1 else S
noncomputable def HS.shape (S:HS) (s:Int):HS:=if S.m.slot s then (if S.rt s=0 then S.fin else (S.ld (S.rt s)).fin) else S
open Classical in
noncomputable def HS.alloc (due:Nat->Bool) (S:HS) (s p f o:Int):HS:=
 if S.m.slot s/\Hd.Ok p f o then
  (if (S.rm (1+(p+f+o)).toNat).fits (1+(p+f+o)).toNat then
   (if S.c.kind=1/\((S.rm (1+(p+f+o)).toNat).pK s.toNat p.toNat f.toNat o.toNat).bX=none/\due (((S.rm (1+(p+f+o)).toNat).pK s.toNat p.toNat f.toNat o.toNat).top-((S.rm (1+(p+f+o)).toNat).pK s.toNat p.toNat f.toNat o.toNat).aa)=true
    then ((S.rm (1+(p+f+o)).toNat).pK s.toNat p.toNat f.toNat o.toNat).open else (S.rm (1+(p+f+o)).toNat).pK s.toNat p.toNat f.toNat o.toNat)
   else S.rm (1+(p+f+o)).toNat)
 else S
section
variable {S S':HS} {a b x y n:Nat} {i k s f:Int} {Q:Nat->Prop} {φ:Nat->Nat}
def HS.Good.end_ (h:S.Good) (p:S'.ep) (al:S.Alike S'):S'.fin.Good/\S.Alike S'.fin:=by
 obtain⟨f1,f2,f3⟩:=p.fin;have:=al.trans p.lp;exact⟨this.jh h f1 f3,this⟩
def HS.ep.gt (h:S.ep) (a:Nat) (i k:Int):(S.gt a i k).ep/\S.Alike (S.gt a i k):=by
 have h1:=(h.ld a).1;unfold HS.gt
 split
 ·exact⟨(h1.ld _).1,(h.jd a).trans (h1.jd _)⟩
 ·exact⟨h1,h.jd a⟩
def cX.Q0 (h:cX S.ba S.rs S.m Q φ S.aa S.top) (s:Int):(S.m.sl s=0/\S.rt s=0)\/(Q (S.m.sl s)/\S.rt s=φ (S.m.sl s)/\S.rt s≠0/\S.m.sl s≠0):=by
 obtain⟨h1,h2⟩:=h.sl s;have h3:S.rt s=φ (S.m.sl s):=h2;rcases h1 with e | q
 ·left;rw[h3,e];exact⟨rfl,h.zero⟩
 ·right;refine⟨q,h3,by rw[h3];exact h.Ct q,?_⟩;have:=h.xf _ q;omega
def HS.Good.wH (h:S.Good) (s:Int):S.rt s=0↔S.m.sl s=0:=by
 obtain⟨Q,φ,hr⟩:=h.rep;rcases hr.Q0 s with⟨e1,e2⟩ | ⟨q,e1,e2,e3⟩
 ·exact⟨λ_=>e1,λ_=>e2⟩
 ·exact⟨λq=>absurd q e2,λq=>absurd q e3⟩
def HS.Good.at_ (h:S.Good) (h0:S.rt s≠0):
  0<S.rt s/\(∀j,j<bC (S.ba (S.rt s))->S.D (S.rt s+j))/\Hd.Is (S.ba (S.rt s))/\(Hd.tp (S.ba (S.rt s))=(S.m.ob (S.m.sl s)).p/\Hd.tf (S.ba (S.rt s))=(S.m.ob (S.m.sl s)).f/\Hd.to (S.ba (S.rt s))=(S.m.ob (S.m.sl s)).o)/\(∀i k,dx (S.ba (S.rt s)) i k=S.m.fe (S.m.sl s) i k):=by
 obtain⟨Q,φ,hr⟩:=h.rep;rcases hr.Q0 s with⟨e1,e2⟩ | ⟨q,e1,e2,e3⟩
 ·exact absurd e2 h0
 ·rw[e1];obtain⟨d1,d2,d3,d4⟩:=hr.hd _ q;have hl:=hr.lies _ q;refine⟨by have:=hr.Ct q;omega,λj hj=>?_,d1,⟨d2,d3,d4⟩,λi k=>hr.fe q i k⟩;rw[hr.mh q] at hj;exact⟨by omega,by omega⟩
def HS.Good.sz (h:S.Good) (h0:S.rt s≠0) (hk:k≠0) (hf:S.m.fe (S.m.sl s) i k=0):S.D (S.rt s+1+i.toNat):=by
 obtain⟨h1,h2,h3,h4,h5⟩:=h.at_ h0;have:=pC (x:=S.ba (S.rt s)) (i:=i) hk (by rw[h5];exact hf);have hd:=h2 (1+i.toNat) (by unfold bC;omega);rw[←Nat.add_assoc] at hd;exact hd
def HS.Good.gw (h:S.Good) (h0:S.rt s≠0) (hk:k≠0) (vM:k≠1):S.gw (S.rt s) i k=S.m.fw (S.m.sl s) i k:=by
 obtain⟨Q,φ,hr⟩:=h.rep;rcases hr.Q0 s with⟨e1,e2⟩ | ⟨q,e1,e2,e3⟩
 ·exact absurd e2 h0
 ·unfold HS.gw;rw[e1,hr.fe q]
  split
  ·next hf=>
   rw[hr.fw q hk hf,b_ vM]
  ·next hf=>
   unfold MH.fw;rw[b_ hf]
def HS.Good.get (h:S.Good) (s i k:Int):(S.get s i k).Good/\S.Alike (S.get s i k):=by
 unfold HS.get
 split
 ·split
  ·exact h.end_ h.aX (.refl S)
  ·obtain⟨g1,g2⟩:=h.aX.gt (S.rt s) i k;exact h.end_ g1 g2
 ·exact⟨h,.refl S⟩
def HS.Good.shape (h:S.Good) (s:Int):(S.shape s).Good/\S.Alike (S.shape s):=by
 unfold HS.shape
 split
 ·split
  ·exact h.end_ h.aX (.refl S)
  ·exact h.end_ (h.aX.ld _).1 (h.aX.jd _)
 ·exact⟨h,.refl S⟩
def HS.Good.oy (h:S.Good) (hr:cX S.ba S.rs S.m Q φ S.aa S.top) (s:Nat) {x:Nat} (hx:x=0\/Q x):(S.oy s (φ x) (S.m.ic s x)).Good:=
 ⟨⟨h.aX.bG,h.aX.aa,h.aX.top,h.aX.tP,h.aX.used,h.aX.aM,h.aX.closed,h.aX.opened⟩,⟨Q,φ,hr.ic s hx⟩,⟨(List.length_set ..).trans h.yB.1,h.yB.2⟩,h.more⟩
def HS.Good.copy (h:S.Good) (s f:Int):(S.copy s f).Good/\(S.copy s f).m=(S.m.copy s f).1/\(S.copy s f).c=S.c:=by
 unfold HS.copy;by_cases hs:S.m.slot s/\S.m.slot f
 ·rw[b9 hs];obtain⟨Q,φ,hr⟩:=h.rep;have e:(S.m.copy s f).1=S.m.ic s.toNat (S.m.sl f):=by unfold MH.copy;rw[b9 hs]
  rw[e];obtain⟨h1,h2⟩:=hr.sl f;have:=h.oy hr s.toNat h1;rw[←h2] at this;exact⟨this,rfl,rfl⟩
 ·rw[b_ hs];refine⟨h,?_,rfl⟩;unfold MH.copy;rw[b_ hs]
def HS.Good.clear (h:S.Good) (s:Int):(S.clear s).Good/\(S.clear s).m=(S.m.clear s).1/\(S.clear s).c=S.c:=by
 unfold HS.clear;by_cases hs:S.m.slot s
 ·rw[b9 hs];obtain⟨Q,φ,hr⟩:=h.rep;have e:(S.m.clear s).1=S.m.ic s.toNat 0:=by unfold MH.clear;rw[b9 hs]
  rw[e];have:=h.oy hr s.toNat (.inl rfl);rw[hr.zero] at this;exact⟨this,rfl,rfl⟩
 ·rw[b_ hs];refine⟨h,?_,rfl⟩;unfold MH.clear;rw[b_ hs]
def HS.Good.load (h:S.Good) (s f i:Int):(S.load s f i).Good/\(S.load s f i).m=(S.m.load s f i).1/\(S.load s f i).c=S.c:=by
 unfold HS.load;by_cases hs:S.m.slot s/\S.m.slot f
 ·rw[b9 hs];have e:(S.m.load s f i).1=if S.m.fe (S.m.sl f) i 1=0 then S.m.ic s.toNat (S.m.fw (S.m.sl f) i 1) else S.m:=by unfold MH.load;rw[b9 hs]
  obtain⟨Q,φ,hr⟩:=h.rep;rcases hr.Q0 f with⟨e1,e2⟩ | ⟨q,e1,e2,e3⟩
  ·rw[b9 e2];obtain⟨g1,g2⟩:=h.end_ h.aX (.refl S);refine⟨g1,?_,g2.c⟩;rw[g2.m,e,e1,b_];unfold MH.fe;rw[b9 rfl];decide
  ·rw[b_ e2];obtain⟨t1,t2⟩:=h.aX.gt (S.rt f) i 1;obtain⟨g1,g2⟩:=h.end_ t1 t2;have zU:dx (S.ba (S.rt f)) i 1=S.m.fe (S.m.sl f) i 1:=by rw[e1];exact hr.fe q i 1
   rw[zU];by_cases hf:S.m.fe (S.m.sl f) i 1=0
   ·rw[b9 hf];rw[b9 hf] at e;rw[e];have kz:=g2.rep g1.aX hr;have II:S.gw (S.rt f) i 1=φ (S.m.fw (S.m.sl f) i 1):=by
     unfold HS.gw;rw[zU,b9 hf,e1,hr.fw q (by decide) hf,b9 rfl]
    have:=g1.oy kz s.toNat (x:=S.m.fw (S.m.sl f) i 1) (hr.fq q hf);rw[←II,g2.m] at this;exact⟨this,rfl,g2.c⟩
   ·rw[b_ hf];rw[b_ hf] at e;exact⟨g1,g2.m.trans e.symm,g2.c⟩
 ·rw[b_ hs];refine⟨h,?_,rfl⟩;unfold MH.load;rw[b_ hs]
def HS.Good.OX (h:S.Good) (hr:cX S.ba S.rs S.m Q φ S.aa S.top) (hk:k≠0) (hy:y<18446744073709551616) (hx:if k=1 then (x=0\/Q x)/\y=φ x else y=x) (s i:Int):(S.set s i k x y).Good/\(S.set s i k x y).m=(S.m.set s i k x).1/\(S.set s i k x y).c=S.c:=by
 unfold HS.set;by_cases hs:S.m.slot s
 ·rw[b9 hs];have e:(S.m.set s i k x).1=if S.m.fe (S.m.sl s) i k=0 then S.m.kZ (S.m.sl s) i.toNat x else S.m:=by unfold MH.set;rw[b9 hs]
  rcases hr.Q0 s with⟨e1,e2⟩ | ⟨q,e1,e2,e3⟩
  ·rw[b9 e2];obtain⟨g1,g2⟩:=h.end_ h.aX (.refl S);refine⟨g1,?_,g2.c⟩;rw[g2.m,e,e1,b_];unfold MH.fe;rw[b9 rfl];decide
  ·rw[b_ e2];have zU:dx (S.ba (S.rt s)) i k=S.m.fe (S.m.sl s) i k:=by rw[e1];exact hr.fe q i k
   rw[e];unfold HS.pt;rw[zU];obtain⟨p1,p2⟩:=h.aX.ld (S.rt s);have al:=h.aX.jd (S.rt s);by_cases hf:S.m.fe (S.m.sl s) i k=0
   ·rw[b9 hf,b9 hf];have hD:=h.sz e2 hk hf;have oN:=(S.EJ (S.rt s) _).2 hD;obtain⟨s1,s2⟩:=p1.st oN hy;obtain⟨o1,o2,o3,o4,o5,o6,o7⟩:=(S.ld (S.rt s)).iP (S.rt s+1+i.toNat);obtain⟨S2,wW⟩:∃S2,(S.ld (S.rt s)).st (S.rt s+1+i.toNat) y=S2:=⟨_,rfl⟩
    have c2:S2.c=S.c:=by rw[←wW];exact o1.trans al.c
    have r2:S2.rs=S.rs:=by rw[←wW];exact o2.trans al.rs
    have b2:S2.aa=S.aa:=by rw[←wW];exact o3.trans al.aa
    have t2:S2.top=S.top:=by rw[←wW];exact o4.trans al.top
    rw[wW] at s1 s2 ⊢;obtain⟨q1,q2,q3⟩:=hr.fin q hk hf;have Cy:=hr.set (x:=x) (y:=y) q q2 hy (by
     by_cases vM:k=1
     ·rw[b9 (q3.2 vM)];rw[b9 vM] at hx;exact hx
     ·rw[b_ (λz=>vM (q3.1 z))];rw[b_ vM] at hx;exact hx)
    have EA:=Cy.congr (g':=S2.ba) (λa z1 z2=>by
     rw[s2 a ((S.EJ _ _).2 ⟨z1,z2⟩)];show _=if a=φ (S.m.sl s)+1+i.toNat then y else S.ba a
     rw[p2 a ⟨z1,z2⟩,e1]) s1.il
    have ye:(S2.iT (S.m.kZ (S.m.sl s) i.toNat x)).ep:=⟨s1.bG,s1.aa,s1.top,s1.tP,s1.used,s1.aM,s1.closed,s1.opened⟩
    obtain⟨f1,f2,f3⟩:=ye.fin;have LC:=ye.lp;have Bp:cX (S2.iT (S.m.kZ (S.m.sl s) i.toNat x)).ba (S2.iT (S.m.kZ (S.m.sl s) i.toNat x)).rs (S2.iT (S.m.kZ (S.m.sl s) i.toNat x)).m Q φ (S2.iT (S.m.kZ (S.m.sl s) i.toNat x)).aa (S2.iT (S.m.kZ (S.m.sl s) i.toNat x)).top:=by
     show cX S2.ba S2.rs (S.m.kZ (S.m.sl s) i.toNat x) Q φ S2.aa S2.top
     rw[r2,b2,t2];exact EA
    refine⟨⟨f1,⟨Q,φ,LC.rep f1 Bp⟩,?_,f3⟩,LC.m,LC.c.trans c2⟩;rw[LC.rs,LC.c,LC.m];show S2.rs.length=S2.c.bV/\S.m.C=S2.c.d_
    rw[r2,c2];exact h.yB
   ·rw[b_ hf,b_ hf];have e4:(S.ld (S.rt s)).iT S.m=S.ld (S.rt s):=by
     unfold HS.iT;rw[←al.m]
    rw[e4];obtain⟨g1,g2⟩:=h.end_ p1 al;exact⟨g1,g2.m,g2.c⟩
 ·rw[b_ hs];refine⟨h,?_,rfl⟩;unfold MH.set;rw[b_ hs]
def HS.Good.set (h:S.Good) (hk:k≠0) (vM:k≠1) (hy:y<18446744073709551616) (s i:Int):(S.set s i k y y).Good/\(S.set s i k y y).m=(S.m.set s i k y).1/\(S.set s i k y y).c=S.c:=by
 obtain⟨Q,φ,hr⟩:=h.rep;exact h.OX hr hk hy (by rw[b_ vM]) s i
def HS.Good.store (h:S.Good) (s i f:Int):(S.store s i f).Good/\(S.store s i f).m=(S.m.store s i f).1/\(S.store s i f).c=S.c:=by
 unfold HS.store;by_cases hs:S.m.slot s/\S.m.slot f
 ·rw[b9 hs];obtain⟨Q,φ,hr⟩:=h.rep;obtain⟨h1,h2⟩:=hr.sl f;have e:(S.m.store s i f).1=(S.m.set s i 1 (S.m.sl f)).1:=by
   unfold MH.store MH.set;rw[b9 hs,b9 hs.1]
  rw[e];have hlt:S.rt f<18446744073709551616:=by
   have hrun:=h.aX.run;rcases hr.Q0 f with⟨_,e2⟩ | ⟨q,e1,e2,e3⟩
   ·omega
   ·have:=hr.lies _ q;omega
  exact h.OX hr (by decide) hlt (by rw[b9 rfl];exact⟨h1,h2⟩) s i
 ·rw[b_ hs];refine⟨h,?_,rfl⟩;unfold MH.store;rw[b_ hs]
def HS.Good.alloc (h:S.Good) (due:Nat->Bool) (s p f o:Int):(S.alloc due s p f o).Good/\(S.alloc due s p f o).m=(S.m.alloc s p f o).1/\(S.alloc due s p f o).c=S.c:=by
 unfold HS.alloc;by_cases hs:S.m.slot s/\Hd.Ok p f o
 ·rw[b9 hs];obtain⟨n,hn⟩:∃n,(1+(p+f+o)).toNat=n:=⟨_,rfl⟩
  have hC:=h.yB;have e:(S.m.alloc s p f o).1=if S.m.aq+n<=S.m.C then (S.m.new p.toNat f.toNat o.toNat).ic s.toNat (S.m.L.length+1) else S.m:=by
   unfold MH.alloc;rw[b9 hs.1,b9 hs.2,hn]
   split<;>rfl
  rw[e];obtain⟨r1,r2,r3,r4,r5⟩:=h.rm (n:=n);rw[hn];by_cases hf:(S.rm n).fits n
  ·have hle:S.m.aq+n<=S.m.C:=by rw[hC.2];exact r4.1 hf
   rw[b9 hf,b9 hle];have hok:=hs.2;have hpos:0<=p/\0<=f/\0<=o:=by unfold Hd.Ok at hok;omega
   have e5:1+(p.toNat+f.toNat+o.toNat)=n:=by omega
   have hok2:Hd.Ok (p.toNat:Nat) (f.toNat:Nat) (o.toNat:Nat):=by
    rw[Int.toNat_of_nonneg hpos.1,Int.toNat_of_nonneg hpos.2.1,Int.toNat_of_nonneg hpos.2.2];exact hok
   have hsl:s.toNat<(S.rm n).c.bV:=by
    rw[r3,←hC.1];have:=hs.1;unfold MH.slot at this;obtain⟨Q,φ,hr⟩:=h.rep;rw[hr.len];omega
   obtain⟨m1,m2,m3⟩:=r1.pK (s:=s.toNat) hok2 (by rw[e5];exact hf) (by rw[e5];exact r5) hsl;have em:((S.rm n).pK s.toNat p.toNat f.toNat o.toNat).m=(S.m.new p.toNat f.toNat o.toNat).ic s.toNat (S.m.L.length+1):=by
    show ((S.rm n).m.new _ _ _).ic _ _=_
    rw[r2]
   have ec:((S.rm n).pK s.toNat p.toNat f.toNat o.toNat).c=S.c:=r3;generalize (S.rm n).pK s.toNat p.toNat f.toNat o.toNat=S1 at *
   split
   ·next q=>
    obtain⟨-, -,o3,o4,o5, -⟩:=m2.opens q.2.1 (by rw[ec];exact q.1);exact⟨o3,o4.trans em,o5.trans ec⟩
   ·exact⟨m2,em,ec⟩
  ·have hle:¬S.m.aq+n<=S.m.C:=by rw[hC.2];exact λz=>hf (r4.2 z)
   rw[b_ hf,b_ hle];exact⟨r1,r2,r3⟩
 ·rw[b_ hs];refine⟨h,?_,rfl⟩;unfold MH.alloc;by_cases h1:S.m.slot s
  ·rw[b9 h1,b_ (λz=>hs ⟨h1,z⟩)]
  ·rw[b_ h1]
end
def aD.sub {A B:BL} (h:aD B) (hs:∀x∈A,x∈B):aD A:=fun⟨x,hx,e⟩=>h ⟨x,hs x hx,e⟩
def bK (c:HC) (m rb run:Nat) (cy:Option Nat) (ae af:Nat):Obj:=
 .cells #[c.kind,c.c_,c.block,c.d_,c.bV,c.aL,c.aE,.float .f64 c.ig,Wz m,Wz rb,Wz run,.pointer (cy.map λb=>⟨b,0,none⟩),ae,af] 97 (0,0)
def cJ (m:Nat) (S:HS) (T:Nat) (cy:Option Nat) (Rx:BL):Prop:=match S.bX with
 | none=>cy=none/\aH m S.c.mw S.c.c_ S.c.e_ T S.v Rx
 | some k=>∃cb T0,cy=some cb/\T0+k.y.nb*(k.y.d_/k.y.c_)<=T/\iM cb m k.y k.g0 S.top T0 (S.kG k) Rx
def ak (hb m rb:Nat) (S:HS) (T:Nat) (R:BL):Prop:=
 S.ae<=T/\S.af<=T/\∃run cy Rr Rx,dO rb S.rs Rr/\cJ m S T cy Rx/\R=(hb,bK S.c m rb run cy S.ae S.af)::(run,bF m S.aa S.top (S.aa+S.c.d_))::(Rr++Rx)
section
variable {m T:Nat} {S S':HS} {cy:Option Nat} {Rx R:BL} {w:World} {k:wR}
def cJ.none_ (h:cJ m S T cy Rx) (hk:S.bX=none):cy=none/\aH m S.c.mw S.c.c_ S.c.e_ T S.v Rx:=by
 unfold cJ at h;rw[hk] at h;exact h
def cJ.some_ (h:cJ m S T cy Rx) (hk:S.bX=some k):∃cb T0,cy=some cb/\T0+k.y.nb*(k.y.d_/k.y.c_)<=T/\iM cb m k.y k.g0 S.top T0 (S.kG k) Rx:=by
 unfold cJ at h;rw[hk] at h;exact h
def cJ.KZ (hk:S.bX=none) (h:aH m S.c.mw S.c.c_ S.c.e_ T S.v Rx):cJ m S T none Rx:=by
 unfold cJ;rw[hk];exact⟨rfl,h⟩
def cJ.Mh {cb T0:Nat} (hk:S.bX=some k) (ht:T0+k.y.nb*(k.y.d_/k.y.c_)<=T) (h:iM cb m k.y k.g0 S.top T0 (S.kG k) Rx):cJ m S T (some cb) Rx:=by
 unfold cJ;rw[hk];exact⟨cb,T0,rfl,ht,h⟩
def cJ.more {T':Nat} (h:cJ m S T cy Rx) (ht:T<=T'):cJ m S T' cy Rx:=by
 cases hk:S.bX with
 | none=>
  obtain⟨rfl,h2⟩:=h.none_ hk;exact .KZ hk (h2.more ht)
 | some k=>
  obtain⟨cb,T0,rfl,h2,h3⟩:=h.some_ hk;exact .Mh hk (Nat.le_trans h2 ht) h3
def cJ.mem (h:cJ m S T cy Rx) (hp:S.ep):∃t Rm Rc,Rx=Rm++Rc/\t<=T/\aH m S.c.mw S.c.c_ S.c.e_ t S.v Rm/\
  ∀(S':HS) (d t':Nat) (bI:BL),S'.ep->S'.c=S.c->S'.bX=S.bX->t'<=t+d->aH m S.c.mw S.c.c_ S.c.e_ t' S'.v bI->cJ m S' (T+d) cy (bI++Rc):=by
 cases hk:S.bX with
 | none=>
  obtain⟨rfl,h2⟩:=h.none_ hk;refine⟨T,Rx,[],(List.append_nil _).symm,Nat.le_refl _,h2,λS' d t' bI _ hc jj VY hm=>?_⟩;refine .KZ jj ?_;rw[hc,List.append_nil];exact hm.more VY
 | some k=>
  obtain⟨cb,T0,rfl,h2,t,Rm,Rc,rfl,hm,ht,hc,hg,hw⟩:=h.some_ hk;obtain⟨k1,k2,k3,k4,k5,k6,k7,k8,k9,wY⟩:=hp.opened k hk;have bu:aG k.mv k.y.nb*(k.y.d_/k.y.c_)<=k.y.nb*(k.y.d_/k.y.c_):=Nat.mul_le_mul_right _ (bE _ _);have ht2:t<=T0+aG k.mv k.y.nb*(k.y.d_/k.y.c_):=ht;refine⟨t,Rm,Rc,rfl,by omega,by rw[k2,k3,k4] at hm;exact hm,λS' d t' bI VP Ba jj VY ky=>?_⟩;refine .Mh (T0:=T0+d) jj (by omega) ⟨t',bI,Rc,rfl,by rw[k2,k3,k4];exact ky,?_,hc,(VP.opened k jj).2.2.2.2.2.2.2.2.2,VP.tP⟩;show t'<=T0+d+aG k.mv k.y.nb*(k.y.d_/k.y.c_)
  omega
def DT (cb:Nat):FA:=⟨⟨95,.pointer (some ⟨cb,0,none⟩),360,.pointer (some ⟨cb,0,none⟩)⟩,361,.pointer (some ⟨cb,0,none⟩)⟩
def cycSpw_ok (cb:Nat):Dw (DT cb):=⟨⟨λw=>(by kernel_rfl),λargs w=>(by kernel_rfl)⟩,λw=>(by kernel_rfl),λargs w=>(by kernel_rfl)⟩
def oR (m:Nat):Option Nat->FA
 | none=>cF m
 | some cb=>DT cb
noncomputable def GC (m T:Nat) (cy:Option Nat):Sp HS:=⟨λS R=>S.ep/\cJ m S T cy R,λS a=>S.ep/\S.D a,HS.ba,HS.ld,HS.st⟩
def iA (zt:T<=900000000000000):gB (oR m cy) (GC m T cy):=by
 refine⟨?_,λz R a hX hD=>hX.1.il a,λz a hD=>?_,λz a b ha hb=>⟨(hb.1.ld a).1,(z.EJ a b).2 hb.2⟩,λz a b ha hb=>(hb.1.ld a).2 b hb.2,λz R W a hX hR hT hg hD=>?_,λz R W a x hX hR hT hg hD hx=>?_⟩
 ·cases cy with
  | none=>exact uP m
  | some cb=>exact cycSpw_ok cb
 ·have:=hD.1.run;have:=hD.2.2;omega
 ·obtain⟨hp,hM⟩:=hX
  cases hk:z.bX with
  | none=>
   obtain⟨rfl,h2⟩:=hM.none_ hk;obtain⟨e1,e2⟩:=fS (hp.cR hk hD.2);have:=jN h2 hR.1 (a:Nat);rw[e1,e2] at this;refine this.kq ?_;rintro w' hb;refine⟨by rw[show (GC m T none).ba z a=z.v.wd a from HS.cL hk],R,?_,(ag.refl hR).grow hb⟩;show (z.ld a).ep/\cJ m (z.ld a) T none R
   rw[HS.vT hk];exact⟨hp,hM⟩
  | some k=>
   obtain⟨cb,T0,rfl,h2,h3⟩:=hM.some_ hk;obtain⟨d1,d2,d3⟩:=hp.mD hk hD.2;have hrun:=hp.run;have oN:=hD.2.2;refine (cload_x h3 (by omega) hR hT hg (a:=a) (by omega) d1 d2 d3).kq ?_;rintro w' ⟨R',x1,d⟩;refine⟨by rw[show (GC m T (some cb)).ba z a=k.y.ba k.g0 (z.kG k) a from HS.fW hk],R',⟨(hp.ld a).1,?_⟩,d⟩;show cJ m (z.ld a) T (some cb) R'
   rw[HS.vU hk];exact .Mh (k:={k with mv:=(k.y.bO (z.kG k) a).mv}) (T0:=T0) rfl h2 x1
 ·obtain⟨hp,hM⟩:=hX;have hp2:=(hp.st hD.2 hx).1
  cases hk:z.bX with
  | none=>
   obtain⟨rfl,h2⟩:=hM.none_ hk;have hdom:=hp.cR hk hD.2;obtain⟨e1,e2⟩:=fS hdom;have:=la h2 hR (a:Nat) x hx;have e:du z.c.mw z.c.c_ z.v a x=fB z.v a x:=by
    unfold du;rw[b9 e1];rfl
   rw[e1,e] at this;refine this.kq ?_;rintro w' ⟨R',h1,d⟩;refine⟨rfl,R',⟨hp2,?_⟩,d⟩;show cJ m (z.st a x) T none R'
   unfold HS.st;rw[HS.vT hk];exact .KZ hk h1
  | some k=>
   obtain⟨cb,T0,rfl,h2,h3⟩:=hM.some_ hk;obtain⟨d1,d2,d3⟩:=hp.mD hk hD.2;have hrun:=hp.run;have oN:=hD.2.2;refine (cstore_x h3 (by omega) hR hT hg (a:=a) (by omega) d1 d2 d3 hx).kq ?_;rintro w' ⟨R',x1,d⟩;refine⟨rfl,R',⟨hp2,?_⟩,d⟩;show cJ m (z.st a x) T (some cb) R'
   unfold HS.st;rw[HS.vU hk];exact .Mh (k:={k with mv:=(k.y.bO (z.kG k) a).mv}) (T0:=T0) rfl h2 x1
def HS.Good.ob (h:S.Good) {s:Int} (h0:S.rt s≠0):Ob (GC m T cy) S (S.rt s):=by
 obtain⟨h1,h2,h3,h4,h5⟩:=h.at_ h0;exact⟨h1,λi hi=>⟨h.aX,h2 i hi⟩,h3⟩
end
section
variable {hb m rb T:Nat} {S S':HS} {R:BL} {w:World}
structure qV (hb m rb run:Nat) (cy:Option Nat) (S:HS) (w:World):Prop where
 c0:w.cell? ⟨hb,0,none⟩=some (.int .i64 S.c.kind)
 c1:w.cell? ⟨hb,1,none⟩=some (.int .i64 S.c.c_)
 c2:w.cell? ⟨hb,2,none⟩=some (.int .i64 S.c.block)
 c3:w.cell? ⟨hb,3,none⟩=some (.int .i64 S.c.d_)
 c4:w.cell? ⟨hb,4,none⟩=some (.int .i64 S.c.bV)
 c5:w.cell? ⟨hb,5,none⟩=some (.int .i64 S.c.aL)
 c6:w.cell? ⟨hb,6,none⟩=some (.int .i64 S.c.aE)
 c7:w.cell? ⟨hb,7,none⟩=some (.float .f64 S.c.ig)
 c8:w.cell? ⟨hb,8,none⟩=some (.pointer (some ⟨m,0,none⟩))
 c9:w.cell? ⟨hb,9,none⟩=some (.pointer (some ⟨rb,0,none⟩))
 dW:w.cell? ⟨hb,10,none⟩=some (.pointer (some ⟨run,0,none⟩))
 cC:w.cell? ⟨hb,11,none⟩=some (.pointer (cy.map λb=>⟨b,0,none⟩))
 nk:w.cell? ⟨hb,12,none⟩=some (.int .i64 S.ae)
 rJ:w.cell? ⟨hb,13,none⟩=some (.int .i64 S.af)
def az {run:Nat} {cy:Option Nat} (h:w.heap[hb]?=some (bK S.c m rb run cy S.ae S.af)):qV hb m rb run cy S w:=
 ⟨an h 0 _ rfl,an h 1 _ rfl,an h 2 _ rfl,an h 3 _ rfl,an h 4 _ rfl,an h 5 _ rfl,an h 6 _ rfl,an h 7 _ rfl,an h 8 _ rfl,an h 9 _ rfl,an h 10 _ rfl,an h 11 _ rfl,an h 12 _ rfl,an h 13 _ rfl⟩
def ak.more {T':Nat} (h:ak hb m rb S T R) (ht:T<=T'):ak hb m rb S T' R:=by
 obtain⟨h1,h2,run,cy,Rr,Rx,h3,h4,h5⟩:=h;exact⟨by omega,by omega,run,cy,Rr,Rx,h3,h4.more ht,h5⟩
def ev {hb m:Nat} (w:World) (c8:w.cell? ⟨hb,8,none⟩=some (.pointer (some ⟨m,0,none⟩))):
  WR 48 #[Wz hb] w false λw'=>w=w':=by
 go_enter func48,ntmps48;go_wp2;go_ret;exact⟨rfl,rfl⟩
def jX {hb m:Nat} {cy:Option Nat} (w:World) (c8:w.cell? ⟨hb,8,none⟩=some (.pointer (some ⟨m,0,none⟩))) (cC:w.cell? ⟨hb,11,none⟩=some (.pointer (cy.map λb=>⟨b,0,none⟩))):
  WA 60 #[Wz hb] w λe w'=>e= .returned (oR m cy).s.val/\w=w':=by
 cases cy with
 | none=>
  have e:(oR m none).s.val= .iface 92 (.pointer (some ⟨m,0,none⟩)):=rfl;rw[e];have pa:w.cell? ⟨hb,11,none⟩=some (.pointer none):=cC;clear cC e;go_enter func60,ntmps60;go_wp2;go_ret;exact⟨rfl,rfl⟩
 | some cb=>
  have e:(oR m (some cb)).s.val= .iface 95 (.pointer (some ⟨cb,0,none⟩)):=rfl;rw[e];have pa:w.cell? ⟨hb,11,none⟩=some (.pointer (some ⟨cb,0,none⟩)):=cC;clear cC e;go_enter func60,ntmps60;go_wp2;go_ret;exact⟨rfl,rfl⟩
end
section
attribute [local go_sem] Oper.semAt_some
section
variable {hb m rb T:Nat} {S S':HS} {R:BL} {w w':World} {k:wR}
variable {cy:Option Nat}
def ak.qJ {run:Nat} {Rr Rx':BL} (h1:S.ae<=T) (h2:S.af<=T) (hr:dO rb S.rs Rr) (hM:cJ m S' T cy Rx') (e:S'.c=S.c/\S'.rs=S.rs/\S'.aa=S.aa/\S'.top=S.top/\S'.ae=S.ae/\S'.af=S.af):
  ak hb m rb S' T ((hb,bK S.c m rb run cy S.ae S.af)::(run,bF m S.aa S.top (S.aa+S.c.d_))::(Rr++Rx')):=by
 obtain⟨e1,e2,e3,e4,e5,e6⟩:=e;rw[←e1,←e3,←e4,←e5,←e6];exact⟨by rw[e5];exact h1,by rw[e6];exact h2,run,cy,Rr,Rx',by rw[e2];exact hr,hM,rfl⟩
def HS.fin_none (hk:S.bX=none):S.fin=S:=by unfold HS.fin;rw[hk]
def HS.fin_more (hk:S.bX=some k) (h:¬aG k.mv k.y.nb=k.y.nb):S.fin=S:=by
 unfold HS.fin;rw[hk];simp only;rw[b_ h]
def HS.fin_done (hk:S.bX=some k) (h:aG k.mv k.y.nb=k.y.nb):S.fin={S with bX:=none,ae:=S.ae+1,af:=S.af+k.y.nb}:=by
 unfold HS.fin;rw[hk];simp only;rw[b9 h]
def nD (h:ak hb m rb S T R) (hp:S.ep) (hR:At R w) (bJ:T<=800000000000000):
  WR 61 #[Wz hb] w (.tuple #[]) λw'=>∃R',ak hb m rb S.fin (T+2000000) R'/\ag R R' w w':=by
 have dz:=a_ (h.more (T':=T+2000000) (by omega));have D0:=a_ (ag.refl hR);obtain⟨en,dX,run,cy,Rr,Rx,hr,hM,rfl⟩:=h;have hc:=az (S:=S) hR.1.head;have cC:=hc.cC
 cases hk:S.bX with
 | none=>
  obtain⟨rfl, -⟩:=hM.none_ hk;have pa:w.cell? ⟨hb,11,none⟩=some (.pointer none):=cC;have e:=HS.fin_none hk;rw[e];clear cC hc hr hM hk e hR en dX hp;go_enter func61,ntmps61;go_wp2
  go_end0
  exact⟨rfl,_,dz,D0⟩
 | some k=>
  obtain⟨cb,T0,rfl,zt,hX⟩:=hM.some_ hk;have CU:At Rx w:=hR.tail.tail.right;have pa:w.cell? ⟨hb,11,none⟩=some (.pointer (some ⟨cb,0,none⟩)):=cC;have Pw:=a_ (done_x hX CU);have TC:=a_ (λW (hA:At Rx W)=>xt (w:=W) hX hA);have hRx2:=a_ CU;have ey:=hX.jn;by_cases hd:aG k.mv k.y.nb=k.y.nb
  ·have e:=HS.fin_done hk hd;rw[e];have CW:decide (aG (S.kG k).mv k.y.nb=k.y.nb)=true:=decide_eq_true hd;rw[CW] at Pw;obtain⟨k1,k2,k3,k4,k5,k6,k7,k8,k9,hg⟩:=hp.opened k hk;obtain⟨t,Rm,Rc,rfl,hm,ht,Bb, -⟩:=hX;rw[k2,k3,k4] at hm;have uC:aH m S.c.mw S.c.c_ S.c.e_ T S.v Rm:=hm.more (by
    have h1:t<=T0+aG k.mv k.y.nb*(k.y.d_/k.y.c_):=ht;rw[hd] at h1;omega)
   have nk:=hc.nk;have rJ:=hc.rJ;have f11:=br hR.1.head 11;have f12:=br hR.1.head 12;have f13:=br hR.1.head 13;obtain⟨Ax,Hr⟩:=aO uC hr;have hnb:=ey.1;have s1:=eH ((S.af:Int)+k.y.nb);have s2:=eH ((S.ae:Int)+1);have Ut:=a_ (And.intro en dX);obtain⟨RP,Hk⟩:=aO hnb hk;generalize k.y.nb=nb at *;clear cC hc hr hM hk e hR en dX hp ey hd CW hm uC ht Bb zt k1 k2 k3 k4 k5 k6 k7 k8 k9 hg dz CU;go_enter func61,ntmps61
   go_wp2_with (first | (go_at_call 136;refine Pw.kq ?_;rintro w1 rfl))
   refine aP (S:=λW=>W.cell? ⟨hb,11,none⟩=some (.pointer (some ⟨cb,0,none⟩))/\W.cell? ⟨hb,13,none⟩=some (.int .i64 S.af)) (by kernel_rfl) ⟨pa,rJ⟩ (λhHeld=>?_);refine aR 0 ?_;refine aR 1 ?_;refine aR 2 ?_;refine aR 3 ?_;refine aR 4 ?_;refine aR 5 ?_;refine aR 6 ?_;refine aR 7 ?_;simp only[aI];refine jS 8 (λK hK=>?_);go_simp;refine (TC _ (hRx2.out.grow (ay w))).kq ?_;rintro w2 rfl;refine hK _ _ hHeld (λhHeld=>?_);clear hK K
   try simp only[aI]
   refine aR 9 ?_;refine aR 10 ?_;refine aR 11 ?_;simp only[aI];refine sD 12 (λK hK=>?_);go_simp;refine hK _ _ ?_;clear hK K
   try simp only[aI]
   have D2:=a_ ((D0.set 13 ((S.af:Int)+nb:Int)).drew);generalize (w.setCell ⟨hb,13,none⟩ (.int .i64 ((S.af:Int)+nb))).drew=w3 at *;clear pa nk rJ f11 f12 f13 hHeld s1;have q:=D2.has.head;obtain⟨-, -, -, -, -, -, -, -, -, -, -,cC,nk, -⟩:=Ii q;have f11:=br q 11;have f12:=br q 12;have D3:=a_ ((D2.set 11 (.pointer none)).set 12 ((S.ae:Int)+1:Int));clear q D2;go_wp2
   go_end0
   have e1:((S.af+nb:Nat):Int)=(S.af:Int)+nb:=by omega
   have e2:((S.ae+1:Nat):Int)=(S.ae:Int)+1:=by omega
   have D4:=D3.out;rw[←e1,←e2] at D4;refine⟨rfl,(hb,bK S.c m rb run none (S.ae+1) (S.af+nb))::(run,bF m S.aa S.top (S.aa+S.c.d_))::(Rr++Rm),⟨by have:=Ut.out;show S.ae+1<=_;omega,by have:=Ut.out;have:=RP.out;show S.af+nb<=_;omega,run,none,Rr,Rm,Hr,.KZ rfl (Ax.more (by omega)),rfl⟩,?_⟩;rw[←e2];exact (D4.perm (R':=Rc++((hb,bK S.c m rb run none (S.ae+1) (S.af+nb))::(run,bF m S.aa S.top (S.aa+S.c.d_))::(Rr++Rm))) (show ((hb,bK S.c m rb run none (S.ae+1) (S.af+nb))::(run,bF m S.aa S.top (S.aa+S.c.d_))::(Rr++(Rm++Rc))).Perm _ from aF)).drop
  ·have e:=HS.fin_more hk hd;rw[e];have CW:decide (aG (S.kG k).mv k.y.nb=k.y.nb)=false:=decide_eq_false hd;rw[CW] at Pw;clear cC hc hr hM hk e hR en dX hp TC hX ey hd CW zt CU;go_enter func61,ntmps61
   go_wp2_with (first | (go_at_call 136;refine Pw.kq ?_;rintro w1 rfl))
   go_end0
   exact⟨rfl,_,dz,D0⟩
def Aq (h:ak hb m rb S T R) (hg:S.Good) (hR:At R w) (hT:ax w) (hN:aD R) (bJ:T<=800000000000000):
  WR 19 #[Wz hb] w (.bool S.bX.isSome) λw'=>∃R',ak hb m rb S.step (T+2000000) R'/\ag R R' w w':=by
 have dz:=a_ (h.more (T':=T+2000000) (by omega));have D0:=a_ (ag.refl hR);have h0:=h;obtain⟨en,dX,run,cy,Rr,Rx,hr,hM,rfl⟩:=h;have hc:=az (S:=S) hR.1.head;have cC:=hc.cC;have HN:=a_ (ev w hc.c8)
 cases hk:S.bX with
 | none=>
  obtain⟨rfl, -⟩:=hM.none_ hk;have pa:w.cell? ⟨hb,11,none⟩=some (.pointer none):=cC;have e:S.step=S:=by unfold HS.step;rw[hk]
  rw[e];show Calls _ _ _ _ λe w'=>e= .returned false/\_
  clear cC hc hr hM hk e hR en dX hg hT hN h0;go_enter func19,ntmps19
  go_wp2_with (go_at_call 48;refine HN.kq ?_;rintro w1 rfl)
  go_ret;exact⟨rfl,_,dz,D0⟩
 | some k=>
  obtain⟨cb,T0,rfl,zt,hX⟩:=hM.some_ hk;have CU:At Rx w:=hR.tail.tail.right;have pa:w.cell? ⟨hb,11,none⟩=some (.pointer (some ⟨cb,0,none⟩)):=cC;obtain⟨s1,s2, -⟩:=hg.step hk;have e:S.step=(S.pZ k (k.y.move (S.kG k) (k.y.fr k.mv))).fin:=by unfold HS.step;rw[hk]
  rw[e];show Calls _ _ _ _ λe w'=>e= .returned true/\_
  have Vh:aD Rx:=aD.sub hN (λx hx=>by simp[hx]);have oS:=a_ (Fk hX (by omega) CU hT Vh (hg.more k hk));have D1:=a_ (D0.perm (R':=Rx++((hb,bK S.c m rb run (some cb) S.ae S.af)::(run,bF m S.aa S.top (S.aa+S.c.d_))::Rr)) aF);have jC:=a_ (λRx' W (hx:iM cb m k.y k.g0 S.top T0 (k.y.move (S.kG k) (k.y.fr k.mv)) Rx') (hA:At ((hb,bK S.c m rb run (some cb) S.ae S.af)::(run,bF m S.aa S.top (S.aa+S.c.d_))::(Rr++Rx')) W)=>nD (w:=W) (ak.qJ (S':=S.pZ k (k.y.move (S.kG k) (k.y.fr k.mv))) (hb:=hb) (run:=run) (Rx':=Rx') en dX hr (.Mh (k:={k with mv:=(k.y.move (S.kG k) (k.y.fr k.mv)).mv}) rfl zt hx) ⟨rfl,rfl,rfl,rfl,rfl,rfl⟩) s2 hA bJ);generalize S.pZ k (k.y.move (S.kG k) (k.y.fr k.mv))=S1 at *;have e2:k.y.fr (S.kG k).mv=k.y.fr k.mv:=rfl;rw[e2] at oS;generalize k.y.move (S.kG k) (k.y.fr k.mv)=s3 at *;clear cC hc hr hM hk e hR en dX hg hT hN Vh CU hX h0 s1 s2 e2 dz D0;go_enter func19,ntmps19
  go_wp2_with (first | (go_at_call 48;refine HN.kq ?_;rintro w1 rfl) | (go_at_call 66;refine oS.kq ?_;rintro w2 ⟨Rx2,x2,d2⟩;have X2:=a_ x2;have D2:=a_ ((D1.step d2).perm (R':=(hb,bK S.c m rb run (some cb) S.ae S.af)::(run,bF m S.aa S.top (S.aa+S.c.d_))::(Rr++Rx2)) aF);clear x2 d2) | (go_at_call 61;refine (jC _ _ X2 D2.at_).kq ?_;rintro w3 ⟨R3,x3,d3⟩;have X3:=a_ x3;have D3:=a_ (D2.trans d3);clear x3 d3))
  go_ret;exact⟨rfl,R3,X3,D3⟩
def xG (h:ak hb m rb S T R) (hg:S.Good) (hR:At R w) (hT:ax w) (hN:aD R) (bJ:T<=700000000000000) (hl:S.left<=1048576):
  WR 82 #[Wz hb] w (.tuple #[]) λw'=>∃R',ak hb m rb S.finish (T+S.left*2000000+2000000) R'/\ag R R' w w':=by
 have oS:=a_ (λS1 T1 R1 W (h1:ak hb m rb S1 T1 R1) (hg1:S1.Good) (hd:ag R R1 w W) (ht:T1<=800000000000000)=>Aq (w:=W) h1 hg1 hd.at_ (hd.tz hT hN) (hd.cK hT hN) ht);obtain⟨H0,HG⟩:=aO h hg;have D0:=a_ (ag.refl hR);have Hl:=a_ (And.intro hl bJ);clear h hg hR hT hN hl bJ;go_enter func82,ntmps82
 go_wp2_with (fail)
 go_loopg [] S.left (λn wr=>∃(j:Nat) (S1:HS) (R1:BL),S1=HS.steps j S/\j+n=S.left/\S1.left=n/\S1.Good/\ak hb m rb S1 (T+j*2000000) R1/\ag R R1 w wr)
 case atStart=>exact⟨0,S,R,rfl,by omega,rfl,HG,by rw[Nat.zero_mul];exact H0,D0⟩
 case round=>
  clear H0 HG D0;obtain⟨j,S1,R1,hs,hj,xc,hg1,h1,hd⟩:=hrel;have MP:=Hl.out;have qM:=a_ (oS S1 _ R1 wr h1 hg1 hd (by omega));obtain⟨HD,H1,Hs,Hj,He,Dk⟩:=uB hd h1 hs hj xc hg1;clear hd h1 hs hj xc hg1 MP
  cases hk:S1.bX with
  | none=>
   have Kz:=He.out;rw[HS.pF hk] at Kz;obtain⟨Hl0,Hk⟩:=aO Kz hk;rw[hk] at qM;have e0:(none:Option wR).isSome=false:=rfl;rw[e0] at qM;clear Kz hk e0
   go_wp2_with (go_at_call 19;refine qM.kq ?_;rintro w2 ⟨R2,x2,d2⟩;have X2:=a_ x2;have D2:=a_ (HD.trans d2);clear x2 d2)
   go_end0
   have ej:j=S.left:=by have:=Hj.out;have:=Hl0.out;omega
   have e1:S1.step=S.finish:=by
    have e0:S1.step=S1:=by unfold HS.step;rw[Hk.out]
    rw[e0,Hs.out,ej];rfl
   have X3:=X2.out;rw[e1,ej] at X3;exact⟨rfl,R2,X3,D2⟩
  | some k=>
   obtain⟨-, -,g2, -,g4⟩:=Dk.step hk;obtain⟨G2,G4⟩:=aO g2 g4;rw[hk] at qM;have e0:(some k:Option wR).isSome=true:=rfl;rw[e0] at qM;clear hk e0 g2 g4
   go_wp2_with (go_at_call 19;refine qM.kq ?_;rintro w2 ⟨R2,x2,d2⟩;have X2:=a_ x2;have D2:=a_ (HD.trans d2);clear x2 d2)
   go_roundg (gk-1)
   case measure=>have:=He.out;have:=G4.out;omega
   case rel=>exact⟨j+1,S1.step,R2,by rw[HS.steps_succ,←Hs.out],by have:=Hj.out;have:=He.out;have:=G4.out;omega,by have:=He.out;have:=G4.out;omega,G2,by rw[Nat.add_mul,Nat.one_mul,←Nat.add_assoc];exact X2,D2⟩
end
section
variable {w w':World} {c:HC}
def HC.cells (c:HC):Array Value:= #[.int .i64 c.kind,.int .i64 c.c_,.int .i64 c.block,.int .i64 c.d_,.int .i64 c.bV,.int .i64 c.aL,.int .i64 c.aE,.float .f64 c.ig]
def BN (hp:1<=c.c_) (hb:c.block<=1024) (ha:c.aE<=16):WR 192 #[.agg c.cells] w (c.spare:Nat) λw'=>Below w.heap.size w w':=by
 unfold HC.spare HC.cells;obtain⟨kd,pg,bk,wd,sl,st,ah,tg⟩:=c;simp only at *;have D0:=a_ ((ag.refl (At.nil (w:=w))).box #[kd,pg,bk,wd,sl,st,ah,.float .f64 tg] 24);have q:=D0.has.head;obtain⟨-,c1,c2, -, -, -,c6, -⟩:=eX q;obtain⟨qt,Bl⟩:∃qt,bk/pg=qt:=⟨_,rfl⟩
 have KM:qt<=1024:=by rw[←Bl];exact Nat.le_trans (Nat.div_le_self _ _) hb
 rw[Bl];have ht1:(bk:Int).tdiv (pg:Int)=(qt:Int):=by
  rw[Int.tdiv_eq_ediv_of_nonneg (by omega),←Bl];rfl
 have ht2:IntKind.i64.wrap (qt:Int)=qt:=IntWalk.i64_in _ (by omega);have KQ:((pg:Int)==0)=false:=by rw[beq_eq_false_iff_ne];omega
 have KR:¬(pg:Int)=0:=by omega
 have KS:¬pg=0:=by omega
 obtain⟨mx,hmx⟩:∃mx,max qt 1=mx:=⟨_,rfl⟩
 rw[hmx];have hm:max (qt:Int) 1=(mx:Int):=by omega
 have hmb:mx<=1024:=by omega
 have hprod:(ah+2)*(mx+3)<=18*1027:=Nat.mul_le_mul (by omega) (by omega);obtain⟨pr,SS⟩:∃pr,(ah+2)*(mx+3)=pr:=⟨_,rfl⟩
 rw[SS] at hprod ⊢;have s1:=eH ((ah:Int)+2);have s2:=eH ((mx:Int)+3);have s3:IntKind.i64.wrap (((ah:Int)+2)*((mx:Int)+3))=(pr:Int):=by
  have e:((ah:Int)+2)*((mx:Int)+3)=(pr:Int):=by
   rw[←SS]
   push_cast
   rfl
  rw[e];exact IntWalk.i64_in _ (by omega)
 clear q Bl hmx SS;go_enter func192,ntmps192;go_wp2;generalize w.alloc (.cells #[kd,pg,bk,wd,sl,st,ah,.float .f64 tg] 24)=w1 at *;generalize w.heap.size=B at *;refine aP (S:=λW=>W.cell? ⟨B,1,none⟩=some (.int .i64 pg)/\W.cell? ⟨B,2,none⟩=some (.int .i64 bk)/\W.cell? ⟨B,6,none⟩=some (.int .i64 ah)) (by kernel_rfl) ⟨c1,c2,c6⟩ (λhHeld=>?_);refine aR 0 ?_;refine aR 1 ?_;refine aR 2 ?_;refine aR 3 ?_;refine aR 4 ?_;refine aR 5 ?_;refine aR 6 ?_;refine aR 7 ?_;simp only[aI];refine jS 8 (λK hK=>?_);go_simp;refine hK _ _ hHeld (λhHeld=>?_);clear hK K
 try simp only[aI]
 refine aR 9 ?_;refine aR 10 ?_;simp only[aI];refine sD 11 (λK hK=>?_);go_simp;refine hK _ _ ?_;clear hK K
 try simp only[aI]
 go_wp2;go_ret;exact⟨rfl,D0.drew.below⟩
end
def eF (rs:List Nat) (i:Int):Prop:=0<=i/\i<rs.length
instance (rs:List Nat) (i:Int):Decidable (eF rs i):=by unfold eF;infer_instance
section
variable {hb m rb T:Nat} {S S':HS} {R:BL} {w w':World}
def icell (l:List Int) {k:Nat} (h:k<l.length):(mJ l)[k]?=some (.int .i64 l[k]):=by
 unfold mJ;rw[List.getElem?_map,List.getElem?_eq_getElem h];rfl
def rt_take (rs:List Nat) (l:List Int) (f:Int->Nat) {k:Nat} (h:k<l.length):ez ((l.take (k+1)).map f)=ez ((l.take k).map f)++ [.int .i64 (f l[k]:Nat)]:=by
 rw[List.take_succ_eq_append_getElem h];unfold ez mJ;rw[List.map_append,List.map_append,List.map_append];rfl
def vI (l:List Int) (g cap:Nat) (hl:l.length<=2) (h:ak hb m rb S T R) (hR:At R w) (hg:w.heap[g]?=some (.cells (mJ l).toArray 3 (0,0))):
  WA 58 #[Wz hb,.slice (some ⟨g,0,none⟩) l.length cap] w λe w'=>
   (∃al iV,e= .returned (.tuple #[.slice al l.length iV,Wy])/\(∀i∈l,eF S.rs i)/\∃R',Rz 3 1 l.length (ez (l.map S.rt)) al iV R'/\ag [] R' w w')\/
   (e= .returned (.tuple #[.slice none 0 0,(17:Int)])/\(∃i∈l,¬eF S.rs i)/\Below w.heap.size w w'):=by
 obtain⟨en,dX,run,cy,Rr,Rx,hr,hM,rfl⟩:=h;have hc:=az (S:=S) hR.1.head;have c9:=hc.c9;have HN:=a_ (ev w hc.c8);have HGY:=a_ (λW (hb:Below w.heap.size w W) (k:Nat) (hk:k<S.rs.length)=>qH (w:=W) hr ((hR.1.tail.tail.left).grow hb) k hk);have HGN:=a_ (λW (hb:Below w.heap.size w W) (i:Int) (hi:i<0\/(S.rs.length:Int)<=i)=>ta (w:=W) hr ((hR.1.tail.tail.left).grow hb) i hi);have HC9:=a_ (λW (hb:Below w.heap.size w W)=>(az (S:=S) ((hR.1.grow hb).head)).c9);have HGC:=a_ (λW (hb:Below w.heap.size w W) k (hk:k<l.length)=>(show W.cell? ⟨g,k,none⟩=some (.int .i64 l[k]) from an (cQ hb (Nat.le_refl _) hg) k _ (by rw[List.getElem?_toArray];exact icell l hk)));have HRL:=a_ (show 1<=S.rs.length/\S.rs.length<=64 from⟨hr.1,hr.2.1⟩);have Bd:=hl;obtain⟨n,hn⟩:∃n,l.length=n:=⟨_,rfl⟩
 have Hn:=a_ hn;obtain⟨j1,hj,sB,oQ,sC⟩:=info_parts fP;rw[hn];clear hc hr hM hR en dX hg hn;go_enter func58,ntmps58
 go_wp2_with (go_at_call 48;refine HN.kq ?_;rintro w1 rfl)
 clear c9
 go_loopw [6,15] (λout iv wr=>∃(k:Nat) (al:Option Addr) (cp:Nat) (Rf:BL),iv= .int .i64 k/\out= .slice al k cp/\k<=n/\(∀i∈l.take k,eF S.rs i)/\Rz 3 1 k (ez ((l.take k).map S.rt)) al cp Rf/\ag [] Rf w wr) (λ_ iv _=>n-(intOf iv).toNat)
 case atStart=>exact⟨0,none,0,[],rfl,rfl,Nat.zero_le _,λi hi=>by simp at hi,Rw.nil _ _ _,ag.refl At.nil⟩
 case round=>
  obtain⟨k,al,cp,Rf,rfl,rfl,hk,hok,hr,hd⟩:=hrel;obtain⟨tS,Hr,HD⟩:=dF hok hr hd;have dX:=hd.below;have zy:n<=2:=by rw[←Hn.out];exact Bd
  by_cases hlt:k<n
  ·have gR:k<l.length:=by rw[Hn.out];exact hlt
   have ck:=HGC wr dX k gR;have c9:=HC9 wr dX;have Ma:=rt_take S.rs l S.rt gR;have JH:=a_ (List.getElem_mem gR);have EE:=List.take_succ_eq_append_getElem gR;generalize IL:l[k]=x at *;obtain⟨Dr,Hsn⟩:=aO EE Ma;by_cases hx:eF S.rs x
   ·obtain⟨q,rfl⟩:∃q:Nat,x=q:=⟨x.toNat,by have:=hx.1;omega⟩
    have HG:=a_ (HGY wr dX q (by have:=hx.2;omega));have VT:S.rt (q:Nat)=S.rs.getD q 0:=by unfold HS.rt;rw[Int.toNat_natCast]
    rw[←VT] at HG;have Hx:=a_ hx;clear hd hr hok dX IL EE Ma hx VT
    go_wp2_with (first
     | (go_at_call 49;refine HG.kq ?_;rintro w2 hb;have gq:=a_ (HD.grow hb);clear hb;obtain⟨wU,eO,w5,AA,hrun,kz,hN⟩:=Hr.LD (R0:= []) (K:= []) (w0:=w) (w:=w2) (by rw[List.append_nil];exact gq) hj sB oQ sC rfl (by decide) underlying58 #[.int .i64 (S.rt (q:Nat):Nat)] rfl (by intro u hu;simp only[List.mem_cons,List.not_mem_nil,or_false] at hu;rw[hu];rfl) (by unfold maxLen;omega) (by omega);have et:=a_ hrun;have Az:=a_ kz;have Lp:=a_ hN;clear hrun kz hN)
     | (at_builtin;refine cP _ rfl (.tmp 31) (.tmp 33) 58 rfl _ _ _ _ rfl rfl et ?_))
    go_roundw
    case rel=>exact⟨k+1,wU,eO,AA,by go_num,rfl,hlt,λi hi=>by
      rw[Dr.out] at hi;rcases List.mem_append.1 hi with a | a
      ·exact tS i a
      ·rw[List.mem_singleton] at a;rw[a];exact Hx,by rw[Hsn.out];exact Az,by have:=Lp.out;rw[List.append_nil] at this;exact this⟩
    case measure=>simp[intOf];omega
   ·have HG:=a_ (HGN wr dX x (by unfold eF at hx;omega));have Hx:=a_ hx;clear hd hr hok dX IL EE Ma hx
    go_wp2_with (go_at_call 49;refine HG.kq ?_;rintro w2 hb;have gq:=a_ (HD.grow hb);clear hb)
    go_ret2
    exact .inr ⟨rfl,⟨x,JH,Hx⟩,gq.below⟩
  ·obtain rfl:k=n:=by omega
   clear hd hr hok dX;go_wp2
   go_ret2
   have e1:l.take k=l:=List.take_of_length_le (by rw[Hn.out];exact Nat.le_refl _);have MT:=tS.out;have Az:=Hr.out;rw[e1] at MT Az;exact .inl ⟨al,cp,rfl,MT,Rf,Az,HD⟩
end
end
noncomputable def HS.kM (S:HS) (s i k:Int):HS:=if S.rt s=0 then S else S.gt (S.rt s) i k
noncomputable def HS.Fb (S:HS) (s i k:Int) (x:Nat):HS:=if S.rt s=0 then S else S.pt (S.rt s) i k x
noncomputable def HS.CR (S:HS) (s i k:Int):Nat:=if S.rt s=0 then 0 else S.gw (S.rt s) i k
section
variable {hb m rb T x:Nat} {S S':HS} {R Rx:BL} {w w':World} {cy:Option Nat} {s i k:Int}
def HS.Good.Ir (h:S.Good) (h0:S.rt s=0) (i k:Int):S.m.fe (S.m.sl s) i k=18:=by
 rw[(h.wH s).1 h0];unfold MH.fe;rw[b9 rfl]
def HS.Good.Ee (h:S.Good) (hk:k≠0) (vM:k≠1):S.CR s i k=S.m.fw (S.m.sl s) i k:=by
 unfold HS.CR;by_cases h0:S.rt s=0
 ·rw[b9 h0];unfold MH.fw;rw[h.Ir h0,b_ (by decide)]
 ·rw[b_ h0];exact h.gw h0 hk vM
def HS.Good.gw_small (h:S.Good) (s i:Int):S.CR s i 1<=4352:=by
 unfold HS.CR
 split
 ·omega
 ·next h0=>
  obtain⟨Q,φ,hr⟩:=h.rep;have hrun:=h.aX.run;rcases hr.Q0 s with⟨e1,e2⟩ | ⟨q,e1,e2,e3⟩
  ·exact absurd e2 h0
  ·unfold HS.gw;rw[e1,hr.fe q]
   split
   ·next hf=>
    rw[hr.fw q (by decide) hf,b9 rfl];rcases hr.fq q hf with z | z
    ·rw[z,hr.zero];omega
    ·have:=hr.lies _ z;omega
   ·omega
def word_h (hg:S.Good) (hM:cJ m S T cy Rx) (hR:At Rx w) (hT:ax w) (hN:aD Rx) (bJ:T<=900000000000000) (s i:Int):
  WR 99 #[(oR m cy).s.val,(S.rt s:Nat),i] w (.tuple #[WB (S.m.fw (S.m.sl s) i 3),(S.m.fe (S.m.sl s) i 3:Int)]) λw'=>∃Rx',cJ m (S.kM s i 3) T cy Rx'/\ag Rx Rx' w w':=by
 rw[←hg.Ee (s:=s) (i:=i) (k:=3) (by decide) (by decide)];unfold HS.CR HS.kM;by_cases h0:S.rt s=0
 ·rw[h0,b9 rfl,b9 rfl,hg.Ir h0];refine (word_nil (oR m cy).s i w).kq ?_;rintro w' hb;exact⟨rfl,Rx,hM,(ag.refl hR).grow hb⟩
 ·rw[b_ h0,b_ h0,←(hg.at_ h0).2.2.2.2];refine (word_w (i:=i) (iA (m:=m) (cy:=cy) bJ) ⟨hg.aX,hM⟩ hR hT hN (hg.ob h0)).kq ?_;rintro w' ⟨Rx',x,d⟩;exact⟨rfl,Rx',x.2,d⟩
def float_h (hg:S.Good) (hM:cJ m S T cy Rx) (hR:At Rx w) (hT:ax w) (hN:aD Rx) (bJ:T<=900000000000000) (s i:Int):
  WR 63 #[(oR m cy).s.val,(S.rt s:Nat),i] w (.tuple #[.float .f64 (S.m.fw (S.m.sl s) i 2:Nat),(S.m.fe (S.m.sl s) i 2:Int)]) λw'=>∃Rx',cJ m (S.kM s i 2) T cy Rx'/\ag Rx Rx' w w':=by
 rw[←hg.Ee (s:=s) (i:=i) (k:=2) (by decide) (by decide)];unfold HS.CR HS.kM;by_cases h0:S.rt s=0
 ·rw[h0,b9 rfl,b9 rfl,hg.Ir h0];refine (float_nil (oR m cy).s i w).kq ?_;rintro w' hb;exact⟨rfl,Rx,hM,(ag.refl hR).grow hb⟩
 ·rw[b_ h0,b_ h0,←(hg.at_ h0).2.2.2.2];refine (float_w (i:=i) (iA (m:=m) (cy:=cy) bJ) ⟨hg.aX,hM⟩ hR hT hN (hg.ob h0)).kq ?_;rintro w' ⟨Rx',x,d⟩;exact⟨rfl,Rx',x.2,d⟩
def pointer_h (hg:S.Good) (hM:cJ m S T cy Rx) (hR:At Rx w) (hT:ax w) (hN:aD Rx) (bJ:T<=900000000000000) (s i:Int):
  WR 97 #[(oR m cy).s.val,(S.rt s:Nat),i] w (.tuple #[(S.CR s i 1:Nat),(S.m.fe (S.m.sl s) i 1:Int)]) λw'=>∃Rx',cJ m (S.kM s i 1) T cy Rx'/\ag Rx Rx' w w':=by
 have uD:=hg.gw_small s i;unfold HS.CR HS.kM at *;by_cases h0:S.rt s=0
 ·rw[h0,b9 rfl,b9 rfl,hg.Ir h0];refine (pointer_nil (oR m cy).s i w).kq ?_;rintro w' hb;exact⟨rfl,Rx,hM,(ag.refl hR).grow hb⟩
 ·rw[b_ h0] at uD;rw[b_ h0,b_ h0,←(hg.at_ h0).2.2.2.2];refine (uV (i:=i) (iA (m:=m) (cy:=cy) bJ) ⟨hg.aX,hM⟩ hR hT hN (hg.ob h0) (Nat.le_trans uD (by decide))).kq ?_;rintro w' ⟨Rx',x,d⟩;exact⟨rfl,Rx',x.2,d⟩
def setWord_h (hg:S.Good) (hM:cJ m S T cy Rx) (hR:At Rx w) (hT:ax w) (hN:aD Rx) (bJ:T<=900000000000000) (s i:Int) (hx:x<18446744073709551616):
  WR 236 #[(oR m cy).s.val,(S.rt s:Nat),i,WB x] w (S.m.fe (S.m.sl s) i 3:Int) λw'=>∃Rx',cJ m (S.Fb s i 3 x) T cy Rx'/\ag Rx Rx' w w':=by
 unfold HS.Fb;by_cases h0:S.rt s=0
 ·rw[h0,b9 rfl,hg.Ir h0];refine (setWord_nil (oR m cy).s i x w).kq ?_;rintro w' hb;exact⟨rfl,Rx,hM,(ag.refl hR).grow hb⟩
 ·rw[b_ h0,←(hg.at_ h0).2.2.2.2];refine (setWord_w (i:=i) (iA (m:=m) (cy:=cy) bJ) ⟨hg.aX,hM⟩ hR hT hN (hg.ob h0) hx).kq ?_;rintro w' ⟨Rx',x,d⟩;exact⟨rfl,Rx',x.2,d⟩
def setFloat_h (hg:S.Good) (hM:cJ m S T cy Rx) (hR:At Rx w) (hT:ax w) (hN:aD Rx) (bJ:T<=900000000000000) (s i:Int) (hx:x<18446744073709551616):
  WR 59 #[(oR m cy).s.val,(S.rt s:Nat),i,.float .f64 x] w (S.m.fe (S.m.sl s) i 2:Int) λw'=>∃Rx',cJ m (S.Fb s i 2 x) T cy Rx'/\ag Rx Rx' w w':=by
 unfold HS.Fb;by_cases h0:S.rt s=0
 ·rw[h0,b9 rfl,hg.Ir h0];refine (setFloat_nil (oR m cy).s i x w).kq ?_;rintro w' hb;exact⟨rfl,Rx,hM,(ag.refl hR).grow hb⟩
 ·rw[b_ h0,←(hg.at_ h0).2.2.2.2];refine (setFloat_w (i:=i) (iA (m:=m) (cy:=cy) bJ) ⟨hg.aX,hM⟩ hR hT hN (hg.ob h0) hx).kq ?_;rintro w' ⟨Rx',x,d⟩;exact⟨rfl,Rx',x.2,d⟩
def setPointer_h (hg:S.Good) (hM:cJ m S T cy Rx) (hR:At Rx w) (hT:ax w) (hN:aD Rx) (bJ:T<=900000000000000) (s i:Int) (hx:x<=2147483647):
  WR 235 #[(oR m cy).s.val,(S.rt s:Nat),i,(x:Nat)] w (S.m.fe (S.m.sl s) i 1:Int) λw'=>∃Rx',cJ m (S.Fb s i 1 x) T cy Rx'/\ag Rx Rx' w w':=by
 unfold HS.Fb;by_cases h0:S.rt s=0
 ·rw[h0,b9 rfl,hg.Ir h0];refine (setPointer_nil (oR m cy).s i x w).kq ?_;rintro w' hb;exact⟨rfl,Rx,hM,(ag.refl hR).grow hb⟩
 ·rw[b_ h0,←(hg.at_ h0).2.2.2.2];refine (ou (i:=i) (iA (m:=m) (cy:=cy) bJ) ⟨hg.aX,hM⟩ hR hT hN (hg.ob h0) hx).kq ?_;rintro w' ⟨Rx',x,d⟩;exact⟨rfl,Rx',x.2,d⟩
noncomputable def HS.xd (S:HS) (s:Int):HS:=if S.rt s=0 then S else S.ld (S.rt s)
def read_h (hg:S.Good) (hM:cJ m S T cy Rx) (hR:At Rx w) (hT:ax w) (hN:aD Rx) (bJ:T<=900000000000000) (s:Int) (hs:S.m.slot s):
  WR 98 #[(oR m cy).s.val,(S.rt s:Nat)] w (.tuple #[.agg #[.int .i64 (S.m.shape s).1,.int .i64 (S.m.shape s).2.1,.int .i64 (S.m.shape s).2.2.1],.int .i64 (S.m.shape s).2.2.2]) λw'=>∃Rx',cJ m (S.xd s) T cy Rx'/\ag Rx Rx' w w':=by
 unfold HS.xd MH.shape;rw[b9 hs];by_cases h0:S.rt s=0
 ·rw[h0,b9 rfl,b9 ((hg.wH s).1 h0)];refine (yz (oR m cy).s w).kq ?_;rintro w' hb;exact⟨rfl,Rx,hM,(ag.refl hR).grow hb⟩
 ·have ho:=hg.ob (m:=m) (T:=T) (cy:=cy) h0;obtain⟨e1,e2,e3⟩:=(hg.at_ h0).2.2.2.1;rw[b_ h0,b_ (λz=>h0 ((hg.wH s).2 z)),←e1,←e2,←e3];refine (pU (iA (m:=m) (cy:=cy) bJ) ⟨hg.aX,hM⟩ hR hT hN ho.pos ho.FB ho.is).kq ?_;rintro w' ⟨Rx',x,d⟩;exact⟨rfl,Rx',x.2,d⟩
def HS.Good.eF (h:S.Good) (s:Int):eF S.rs s↔S.m.slot s:=by
 obtain⟨Q,φ,hr⟩:=h.rep;unfold Go.Proofs.YtmdgfpeglgpiiaaGreatDoor.eF MH.slot;rw[hr.len]
def HS.ep.kM (h:S.ep) (s i k:Int):(S.kM s i k).ep/\S.Alike (S.kM s i k):=by
 unfold HS.kM
 split
 ·exact⟨h,.refl S⟩
 ·exact h.gt _ _ _
def jg (s:Int) (g cap:Nat) (hs:eF S.rs s) (h:ak hb m rb S T R) (hR:At R w) (hg:w.heap[g]?=some (.cells #[s] 3 (0,0))):
  WA 58 #[Wz hb,.slice (some ⟨g,0,none⟩) 1 cap] w λe w'=>∃b cp Rf,e= .returned (.tuple #[.slice (some ⟨b,0,none⟩) 1 cp,Wy])/\(∀W,Has Rf W->W.cell? ⟨b,0,none⟩=some (.int .i64 (S.rt s:Nat)))/\ag [] Rf w w':=by
 refine (vI [s] g cap (by simp) h hR hg).mono ?_;rintro e w' (⟨al,cp,rfl, -,Rf,r,d⟩ | ⟨-,⟨i,hi,hn⟩, -⟩)
 ·obtain⟨b,rfl, -⟩:=r.cell d.has (j:=0) (v:= .int .i64 (S.rt s:Nat)) rfl;refine⟨b,cp,Rf,rfl,λW hW=>?_,d⟩;obtain⟨b',e,hc⟩:=r.cell hW (j:=0) (v:= .int .i64 (S.rt s:Nat)) rfl
  cases e
  exact hc
 ·rw[List.mem_singleton] at hi;exact absurd hs (hi▸hn)
def kI (s:Int) (g cap:Nat) (hs:¬eF S.rs s) (h:ak hb m rb S T R) (hR:At R w) (hg:w.heap[g]?=some (.cells #[s] 3 (0,0))):
  WR 58 #[Wz hb,.slice (some ⟨g,0,none⟩) 1 cap] w (.tuple #[.slice none 0 0,(17:Int)]) λw'=>Below w.heap.size w w':=by
 refine (vI [s] g cap (by simp) h hR hg).mono ?_;rintro e w' (⟨al,cp, -,hok, -⟩ | ⟨rfl, -,hb⟩)
 ·exact absurd (hok s (by simp)) hs
 ·exact⟨rfl,hb⟩
def pB (s f:Int) (g cap:Nat) (hs:eF S.rs s/\eF S.rs f) (h:ak hb m rb S T R) (hR:At R w) (hg:w.heap[g]?=some (.cells #[s,f] 3 (0,0))):
  WA 58 #[Wz hb,.slice (some ⟨g,0,none⟩) 2 cap] w λe w'=>∃b cp Rf,e= .returned (.tuple #[.slice (some ⟨b,0,none⟩) 2 cp,Wy])/\(∀W,Has Rf W->W.cell? ⟨b,0,none⟩=some (.int .i64 (S.rt s:Nat))/\W.cell? ⟨b,1,none⟩=some (.int .i64 (S.rt f:Nat)))/\ag [] Rf w w':=by
 refine (vI [s,f] g cap (by simp) h hR hg).mono ?_;rintro e w' (⟨al,cp,rfl, -,Rf,r,d⟩ | ⟨-,⟨i,hi,hn⟩, -⟩)
 ·obtain⟨b,rfl, -⟩:=r.cell d.has (j:=0) (v:= .int .i64 (S.rt s:Nat)) rfl;refine⟨b,cp,Rf,rfl,λW hW=>?_,d⟩;obtain⟨b',e,hc⟩:=r.cell hW (j:=0) (v:= .int .i64 (S.rt s:Nat)) rfl;obtain⟨b2,e2,Bb⟩:=r.cell hW (j:=1) (v:= .int .i64 (S.rt f:Nat)) rfl
  cases e
  cases e2
  exact⟨hc,Bb⟩
 ·simp only[List.mem_cons,List.not_mem_nil,or_false] at hi;rcases hi with rfl | rfl
  ·exact absurd hs.1 hn
  ·exact absurd hs.2 hn
def rW (s f:Int) (g cap:Nat) (hs:¬(eF S.rs s/\eF S.rs f)) (h:ak hb m rb S T R) (hR:At R w) (hg:w.heap[g]?=some (.cells #[s,f] 3 (0,0))):
  WR 58 #[Wz hb,.slice (some ⟨g,0,none⟩) 2 cap] w (.tuple #[.slice none 0 0,(17:Int)]) λw'=>Below w.heap.size w w':=by
 refine (vI [s,f] g cap (by simp) h hR hg).mono ?_;rintro e w' (⟨al,cp, -,hok, -⟩ | ⟨rfl, -,hb⟩)
 ·exact absurd ⟨hok s (by simp),hok f (by simp)⟩ hs
 ·exact⟨rfl,hb⟩
end
section
attribute [local go_sem] Oper.semAt_some
noncomputable def HS.jw (S:HS) (s i k:Int) (x y:Nat):HS:=(S.Fb s i k y).iT (if S.rt s=0 then S.m else (S.m.set s i k x).1)
section
variable {hb m rb T x y:Nat} {S S':HS} {R Rx:BL} {w w':World} {cy:Option Nat} {s i k:Int}
def HS.get_eq (hs:S.m.slot s):S.get s i k=(S.kM s i k).fin:=by
 unfold HS.get HS.kM;rw[b9 hs]
 split<;>rfl
def HS.Ap (hs:S.m.slot s):S.set s i k x y=(S.jw s i k x y).fin:=by
 unfold HS.set HS.jw HS.Fb;rw[b9 hs]
 split<;>rfl
def HS.Good.pt0_phy (h:S.Good) (hk:k≠0) (hy:y<18446744073709551616):(S.Fb s i k y).ep:=by
 unfold HS.Fb
 split
 ·exact h.aX
 ·next h0=>
  obtain⟨p1,p2⟩:=h.aX.ld (S.rt s);unfold HS.pt
  split
  ·next hf=>
   rw[(h.at_ h0).2.2.2.2] at hf;exact (p1.st ((S.EJ (S.rt s) _).2 (h.sz h0 hk hf)) hy).1
  ·exact p1
def HS.ep.iT (h:S.ep) (mm:MH):(S.iT mm).ep:=⟨h.bG,h.aa,h.top,h.tP,h.used,h.aM,h.closed,h.opened⟩
def HS.Good.tc (h:S.Good) (hk:k≠0) (hy:y<18446744073709551616):(S.jw s i k x y).ep:=(h.pt0_phy hk hy).iT _
def HS.nH (S:HS) (s i k:Int):(S.kM s i k).c=S.c/\(S.kM s i k).rs=S.rs/\(S.kM s i k).aa=S.aa/\(S.kM s i k).top=S.top/\(S.kM s i k).ae=S.ae/\(S.kM s i k).af=S.af:=by
 unfold HS.kM HS.gt
 split
 ·exact⟨rfl,rfl,rfl,rfl,rfl,rfl⟩
 ·obtain⟨a1,a2,a3,a4,a5,a6,a7⟩:=S.iP (S.rt s)
  split
  ·obtain⟨b1,b2,b3,b4,b5,b6,b7⟩:=(S.ld (S.rt s)).iP (S.rt s+1+i.toNat);exact⟨b1.trans a1,b2.trans a2,b3.trans a3,b4.trans a4,b5.trans a5,b6.trans a6⟩
  ·exact⟨a1,a2,a3,a4,a5,a6⟩
def HS.pY (S:HS) (s i k:Int) (x y:Nat):(S.jw s i k x y).c=S.c/\(S.jw s i k x y).rs=S.rs/\(S.jw s i k x y).aa=S.aa/\(S.jw s i k x y).top=S.top/\(S.jw s i k x y).ae=S.ae/\(S.jw s i k x y).af=S.af:=by
 unfold HS.jw HS.iT HS.Fb HS.pt
 split
 ·exact⟨rfl,rfl,rfl,rfl,rfl,rfl⟩
 ·obtain⟨a1,a2,a3,a4,a5,a6,a7⟩:=S.iP (S.rt s)
  split
  ·obtain⟨b1,b2,b3,b4,b5,b6,b7⟩:=(S.ld (S.rt s)).iP (S.rt s+1+i.toNat);exact⟨b1.trans a1,b2.trans a2,b3.trans a3,b4.trans a4,b5.trans a5,b6.trans a6⟩
  ·exact⟨a1,a2,a3,a4,a5,a6⟩
def setWord_h2 (hg:S.Good) (hM:cJ m S T cy Rx) (hR:At Rx w) (hT:ax w) (hN:aD Rx) (bJ:T<=900000000000000) (s i:Int) (hx:x<18446744073709551616):
  WR 236 #[(oR m cy).s.val,(S.rt s:Nat),i,WB x] w (S.m.fe (S.m.sl s) i 3:Int) λw'=>∃Rx',cJ m (S.jw s i 3 x x) T cy Rx'/\ag Rx Rx' w w':=
 (setWord_h hg hM hR hT hN bJ s i hx).mono λe w' ⟨a,Rx',x,d⟩=>⟨a,Rx',x,d⟩
def setFloat_h2 (hg:S.Good) (hM:cJ m S T cy Rx) (hR:At Rx w) (hT:ax w) (hN:aD Rx) (bJ:T<=900000000000000) (s i:Int) (hx:x<18446744073709551616):
  WR 59 #[(oR m cy).s.val,(S.rt s:Nat),i,.float .f64 x] w (S.m.fe (S.m.sl s) i 2:Int) λw'=>∃Rx',cJ m (S.jw s i 2 x x) T cy Rx'/\ag Rx Rx' w w':=
 (setFloat_h hg hM hR hT hN bJ s i hx).mono λe w' ⟨a,Rx',x,d⟩=>⟨a,Rx',x,d⟩
def setPointer_h2 (hg:S.Good) (hM:cJ m S T cy Rx) (hR:At Rx w) (hT:ax w) (hN:aD Rx) (bJ:T<=900000000000000) (s i:Int) (hx:x<=2147483647) (y:Nat):
  WR 235 #[(oR m cy).s.val,(S.rt s:Nat),i,(x:Nat)] w (S.m.fe (S.m.sl s) i 1:Int) λw'=>∃Rx',cJ m (S.jw s i 1 y x) T cy Rx'/\ag Rx Rx' w w':=
 (setPointer_h hg hM hR hT hN bJ s i hx).mono λe w' ⟨a,Rx',x,d⟩=>⟨a,Rx',x,d⟩
def hGet_h (h:ak hb m rb S T R) (hg:S.Good) (hR:At R w) (hT:ax w) (hN:aD R) (bJ:T<=700000000000000) (s i:Int):
  WR 36 #[Wz hb,s,i] w (.tuple #[WB ((S.m.get s i 3).1),.int .i64 (S.m.get s i 3).2]) λw'=>∃R',ak hb m rb (S.get s i 3) (T+2000000) R'/\ag R R' w w':=by
 obtain⟨H,HR⟩:=aO h hR;have D0:=a_ ((ag.refl hR).box #[s] 3);have dz:=a_ (h.more (T':=T+2000000) (by omega));by_cases hs:S.m.slot s
 ·have hok:=(hg.eF s).2 hs;have HF:=a_ (λW (hd:ag R ((w.heap.size,WD #[s] 3)::R) w W)=>jg (w:=W) s w.heap.size 1 hok h hd.at_.tail hd.has.head);have e1:(.tuple #[WB ((S.m.get s i 3).1),.int .i64 (S.m.get s i 3).2]:Value)= .tuple #[WB (S.m.fw (S.m.sl s) i 3),(S.m.fe (S.m.sl s) i 3:Int)]:=by
   unfold MH.get;rw[b9 hs]
   try rfl
  rw[e1,HS.get_eq hs];obtain⟨en,dX,run,cy,Rr,Rx,hr,hM,rfl⟩:=h;have ko:=a_ (λW (hh:W.heap[hb]?=some (bK S.c m rb run cy S.ae S.af))=>jX (hb:=hb) (m:=m) (cy:=cy) W (az (S:=S) hh).c8 (az (S:=S) hh).cC);have mo:=a_ (λK W (hd:ag ((hb,bK S.c m rb run cy S.ae S.af)::(run,bF m S.aa S.top (S.aa+S.c.d_))::(Rr++Rx)) (Rx++K) w W)=>word_h (w:=W) hg hM hd.at_.left (hd.tz hT hN) (aD.app.1 (hd.cK hT hN)).1 (by omega) s i);have jC:=a_ (λK Rx' W (hd:ag ((hb,bK S.c m rb run cy S.ae S.af)::(run,bF m S.aa S.top (S.aa+S.c.d_))::(Rr++Rx)) (Rx'++((hb,bK S.c m rb run cy S.ae S.af)::(run,bF m S.aa S.top (S.aa+S.c.d_))::(Rr++K))) w W) (hx:cJ m (S.kM s i 3) T cy Rx')=>nD (w:=W) (ak.qJ (hb:=hb) (run:=run) en dX hr hx (S.nH s i 3)) ((hg.aX.kM s i 3).1) ((hd.perm (R':=K++((hb,bK S.c m rb run cy S.ae S.af)::(run,bF m S.aa S.top (S.aa+S.c.d_))::(Rr++Rx'))) aF).drop.at_) (by omega));generalize S.kM s i 3=S1 at *;obtain⟨uZ,gH⟩:∃uZ,(oR m cy).s.val=uZ:=⟨_,rfl⟩
  rw[gH] at ko mo;clear hr hM en dX hg hT hN dz e1 gH;go_enter func36,ntmps36
  go_wp2_with (go_at_call 58;refine (HF _ D0).mono ?_;rintro e w2 ⟨b,cp,Rf,rfl,hrow,d2⟩;have eh:=a_ hrow;have D2:=a_ ((D0.bh d2).perm (R':=Rx++((hb,bK S.c m rb run cy S.ae S.af)::(run,bF m S.aa S.top (S.aa+S.c.d_))::(Rr++((w.heap.size,.cells #[s] 3 (0,0))::Rf)))) aF);clear hrow d2)
  have c0:=eh w2 D2.has.right.tail.tail.right.tail;have c8:=(az (S:=S) D2.has.right.head).c8;have cC:=(az (S:=S) D2.has.right.head).cC
  go_region_held3 (λW=>W.cell? ⟨b,0,none⟩=some (.int .i64 (S.rt s:Nat))/\W.cell? ⟨hb,8,none⟩=some (.pointer (some ⟨m,0,none⟩))/\W.cell? ⟨hb,11,none⟩=some (.pointer (cy.map λb=>⟨b,0,none⟩))) (first | exact⟨c0,c8,cC⟩ | exact⟨d0,d8,d11⟩ | go_keep) ((first
   | (go_at_call 60;refine (ko _ (D2.grow (ay w2)).has.right.head).kq ?_;rintro w3 rfl)
   | (go_at_call 99;refine (mo _ _ (D2.grow (ay w2))).kq ?_;rintro w4 ⟨vu,x4,d4⟩;have X4:=a_ x4;have D4:=a_ ((D2.grow (ay w2)).step d4);have d0:=eh w4 D4.has.right.tail.tail.right.tail;have d8:=(az (S:=S) D4.has.right.head).c8;have d11:=(az (S:=S) D4.has.right.head).cC;clear x4 d4)))
  clear c0 c8 cC d0 d8 d11 D2 mo ko eh
  go_wp2_with (go_at_call 61;refine (jC _ _ _ D4 X4).kq ?_;rintro w5 ⟨R5,x5,d5⟩;have X5:=a_ x5;have D5:=a_ ((D4.perm (R':=((hb,bK S.c m rb run cy S.ae S.af)::(run,bF m S.aa S.top (S.aa+S.c.d_))::(Rr++vu))++((w.heap.size,.cells #[s] 3 (0,0))::Rf)) aF).step d5);clear x5 d5)
  go_ret2
  exact⟨rfl,R5,X5,D5.bN⟩
 ·have hok:=λq=>hs ((hg.eF s).1 q)
  have HF:=a_ (λW (hd:ag R ((w.heap.size,WD #[s] 3)::R) w W)=>kI (w:=W) s w.heap.size 1 hok h hd.at_.tail hd.has.head);have e1:(.tuple #[WB ((S.m.get s i 3).1),.int .i64 (S.m.get s i 3).2]:Value)= .tuple #[.int .u64 0,(17:Int)]:=by
   unfold MH.get;rw[b_ hs]
   try rfl
  have e2:S.get s i 3=S:=by
   unfold HS.get;rw[b_ hs]
  rw[e1,e2];clear hg hT hN h hR e1 e2 hs hok;go_enter func36,ntmps36
  go_wp2_with (go_at_call 58;refine (HF _ D0).kq ?_;rintro w2 hb;have D2:=a_ (D0.grow hb);clear hb)
  go_ret2
  exact⟨rfl,R,dz,D2.tail⟩
def iO (h:ak hb m rb S T R) (hg:S.Good) (hR:At R w) (hT:ax w) (hN:aD R) (bJ:T<=700000000000000) (s i:Int):
  WR 17 #[Wz hb,s,i] w (.tuple #[.float .f64 (S.m.get s i 2).1,.int .i64 (S.m.get s i 2).2]) λw'=>∃R',ak hb m rb (S.get s i 2) (T+2000000) R'/\ag R R' w w':=by
 obtain⟨H,HR⟩:=aO h hR;have D0:=a_ ((ag.refl hR).box #[s] 3);have dz:=a_ (h.more (T':=T+2000000) (by omega));by_cases hs:S.m.slot s
 ·have hok:=(hg.eF s).2 hs;have HF:=a_ (λW (hd:ag R ((w.heap.size,WD #[s] 3)::R) w W)=>jg (w:=W) s w.heap.size 1 hok h hd.at_.tail hd.has.head);have e1:(.tuple #[.float .f64 (S.m.get s i 2).1,.int .i64 (S.m.get s i 2).2]:Value)= .tuple #[.float .f64 (S.m.fw (S.m.sl s) i 2),(S.m.fe (S.m.sl s) i 2:Int)]:=by
   unfold MH.get;rw[b9 hs]
   try rfl
  rw[e1,HS.get_eq hs];obtain⟨en,dX,run,cy,Rr,Rx,hr,hM,rfl⟩:=h;have ko:=a_ (λW (hh:W.heap[hb]?=some (bK S.c m rb run cy S.ae S.af))=>jX (hb:=hb) (m:=m) (cy:=cy) W (az (S:=S) hh).c8 (az (S:=S) hh).cC);have mo:=a_ (λK W (hd:ag ((hb,bK S.c m rb run cy S.ae S.af)::(run,bF m S.aa S.top (S.aa+S.c.d_))::(Rr++Rx)) (Rx++K) w W)=>float_h (w:=W) hg hM hd.at_.left (hd.tz hT hN) (aD.app.1 (hd.cK hT hN)).1 (by omega) s i);have jC:=a_ (λK Rx' W (hd:ag ((hb,bK S.c m rb run cy S.ae S.af)::(run,bF m S.aa S.top (S.aa+S.c.d_))::(Rr++Rx)) (Rx'++((hb,bK S.c m rb run cy S.ae S.af)::(run,bF m S.aa S.top (S.aa+S.c.d_))::(Rr++K))) w W) (hx:cJ m (S.kM s i 2) T cy Rx')=>nD (w:=W) (ak.qJ (hb:=hb) (run:=run) en dX hr hx (S.nH s i 2)) ((hg.aX.kM s i 2).1) ((hd.perm (R':=K++((hb,bK S.c m rb run cy S.ae S.af)::(run,bF m S.aa S.top (S.aa+S.c.d_))::(Rr++Rx'))) aF).drop.at_) (by omega));generalize S.kM s i 2=S1 at *;obtain⟨uZ,gH⟩:∃uZ,(oR m cy).s.val=uZ:=⟨_,rfl⟩
  rw[gH] at ko mo;clear hr hM en dX hg hT hN dz e1 gH;go_enter func17,ntmps17
  go_wp2_with (go_at_call 58;refine (HF _ D0).mono ?_;rintro e w2 ⟨b,cp,Rf,rfl,hrow,d2⟩;have eh:=a_ hrow;have D2:=a_ ((D0.bh d2).perm (R':=Rx++((hb,bK S.c m rb run cy S.ae S.af)::(run,bF m S.aa S.top (S.aa+S.c.d_))::(Rr++((w.heap.size,.cells #[s] 3 (0,0))::Rf)))) aF);clear hrow d2)
  have c0:=eh w2 D2.has.right.tail.tail.right.tail;have c8:=(az (S:=S) D2.has.right.head).c8;have cC:=(az (S:=S) D2.has.right.head).cC
  go_region_held3 (λW=>W.cell? ⟨b,0,none⟩=some (.int .i64 (S.rt s:Nat))/\W.cell? ⟨hb,8,none⟩=some (.pointer (some ⟨m,0,none⟩))/\W.cell? ⟨hb,11,none⟩=some (.pointer (cy.map λb=>⟨b,0,none⟩))) (first | exact⟨c0,c8,cC⟩ | exact⟨d0,d8,d11⟩ | go_keep) ((first
   | (go_at_call 60;refine (ko _ (D2.grow (ay w2)).has.right.head).kq ?_;rintro w3 rfl)
   | (go_at_call 63;refine (mo _ _ (D2.grow (ay w2))).kq ?_;rintro w4 ⟨vu,x4,d4⟩;have X4:=a_ x4;have D4:=a_ ((D2.grow (ay w2)).step d4);have d0:=eh w4 D4.has.right.tail.tail.right.tail;have d8:=(az (S:=S) D4.has.right.head).c8;have d11:=(az (S:=S) D4.has.right.head).cC;clear x4 d4)))
  clear c0 c8 cC d0 d8 d11 D2 mo ko eh
  go_wp2_with (go_at_call 61;refine (jC _ _ _ D4 X4).kq ?_;rintro w5 ⟨R5,x5,d5⟩;have X5:=a_ x5;have D5:=a_ ((D4.perm (R':=((hb,bK S.c m rb run cy S.ae S.af)::(run,bF m S.aa S.top (S.aa+S.c.d_))::(Rr++vu))++((w.heap.size,.cells #[s] 3 (0,0))::Rf)) aF).step d5);clear x5 d5)
  go_ret2
  exact⟨rfl,R5,X5,D5.bN⟩
 ·have hok:=λq=>hs ((hg.eF s).1 q)
  have HF:=a_ (λW (hd:ag R ((w.heap.size,WD #[s] 3)::R) w W)=>kI (w:=W) s w.heap.size 1 hok h hd.at_.tail hd.has.head);have e1:(.tuple #[.float .f64 (S.m.get s i 2).1,.int .i64 (S.m.get s i 2).2]:Value)= .tuple #[.float .f64 0,(17:Int)]:=by
   unfold MH.get;rw[b_ hs]
   try rfl
  have e2:S.get s i 2=S:=by
   unfold HS.get;rw[b_ hs]
  rw[e1,e2];clear hg hT hN h hR e1 e2 hs hok;go_enter func17,ntmps17
  go_wp2_with (go_at_call 58;refine (HF _ D0).kq ?_;rintro w2 hb;have D2:=a_ (D0.grow hb);clear hb)
  go_ret2
  exact⟨rfl,R,dz,D2.tail⟩
def hSet_h (h:ak hb m rb S T R) (hg:S.Good) (hR:At R w) (hT:ax w) (hN:aD R) (bJ:T<=700000000000000) (s i:Int) (sy:x<18446744073709551616):
  WR 155 #[Wz hb,s,i,WB x] w (.int .i64 (S.m.set s i 3 x).2) λw'=>∃R',ak hb m rb (S.set s i 3 x x) (T+2000000) R'/\ag R R' w w':=by
 obtain⟨H,HR⟩:=aO h hR;have D0:=a_ ((ag.refl hR).box #[s] 3);have dz:=a_ (h.more (T':=T+2000000) (by omega));by_cases hs:S.m.slot s
 ·have hok:=(hg.eF s).2 hs;have HF:=a_ (λW (hd:ag R ((w.heap.size,WD #[s] 3)::R) w W)=>jg (w:=W) s w.heap.size 1 hok h hd.at_.tail hd.has.head);have e1:(.int .i64 (S.m.set s i 3 x).2:Value)= .int .i64 (S.m.fe (S.m.sl s) i 3):=by
   unfold MH.set;rw[b9 hs]
   try rfl
  rw[e1,HS.Ap hs];obtain⟨en,dX,run,cy,Rr,Rx,hr,hM,rfl⟩:=h;have ko:=a_ (λW (hh:W.heap[hb]?=some (bK S.c m rb run cy S.ae S.af))=>jX (hb:=hb) (m:=m) (cy:=cy) W (az (S:=S) hh).c8 (az (S:=S) hh).cC);have mo:=a_ (λK W (hd:ag ((hb,bK S.c m rb run cy S.ae S.af)::(run,bF m S.aa S.top (S.aa+S.c.d_))::(Rr++Rx)) (Rx++K) w W)=>setWord_h2 (w:=W) hg hM hd.at_.left (hd.tz hT hN) (aD.app.1 (hd.cK hT hN)).1 (by omega) s i sy);have jC:=a_ (λK Rx' W (hd:ag ((hb,bK S.c m rb run cy S.ae S.af)::(run,bF m S.aa S.top (S.aa+S.c.d_))::(Rr++Rx)) (Rx'++((hb,bK S.c m rb run cy S.ae S.af)::(run,bF m S.aa S.top (S.aa+S.c.d_))::(Rr++K))) w W) (hx:cJ m (S.jw s i 3 x x) T cy Rx')=>nD (w:=W) (ak.qJ (hb:=hb) (run:=run) en dX hr hx (S.pY s i 3 x x)) (hg.tc (by decide) sy) ((hd.perm (R':=K++((hb,bK S.c m rb run cy S.ae S.af)::(run,bF m S.aa S.top (S.aa+S.c.d_))::(Rr++Rx'))) aF).drop.at_) (by omega));generalize S.jw s i 3 x x=S1 at *;obtain⟨uZ,gH⟩:∃uZ,(oR m cy).s.val=uZ:=⟨_,rfl⟩
  rw[gH] at ko mo;clear hr hM en dX hg hT hN dz e1 gH;go_enter func155,ntmps155
  go_wp2_with (go_at_call 58;refine (HF _ D0).mono ?_;rintro e w2 ⟨b,cp,Rf,rfl,hrow,d2⟩;have eh:=a_ hrow;have D2:=a_ ((D0.bh d2).perm (R':=Rx++((hb,bK S.c m rb run cy S.ae S.af)::(run,bF m S.aa S.top (S.aa+S.c.d_))::(Rr++((w.heap.size,.cells #[s] 3 (0,0))::Rf)))) aF);clear hrow d2)
  have c0:=eh w2 D2.has.right.tail.tail.right.tail;have c8:=(az (S:=S) D2.has.right.head).c8;have cC:=(az (S:=S) D2.has.right.head).cC
  go_region_held3 (λW=>W.cell? ⟨b,0,none⟩=some (.int .i64 (S.rt s:Nat))/\W.cell? ⟨hb,8,none⟩=some (.pointer (some ⟨m,0,none⟩))/\W.cell? ⟨hb,11,none⟩=some (.pointer (cy.map λb=>⟨b,0,none⟩))) (first | exact⟨c0,c8,cC⟩ | exact⟨d0,d8,d11⟩ | go_keep) ((first
   | (go_at_call 60;refine (ko _ (D2.grow (ay w2)).has.right.head).kq ?_;rintro w3 rfl)
   | (go_at_call 236;refine (mo _ _ (D2.grow (ay w2))).kq ?_;rintro w4 ⟨vu,x4,d4⟩;have X4:=a_ x4;have D4:=a_ ((D2.grow (ay w2)).step d4);have d0:=eh w4 D4.has.right.tail.tail.right.tail;have d8:=(az (S:=S) D4.has.right.head).c8;have d11:=(az (S:=S) D4.has.right.head).cC;clear x4 d4)))
  clear c0 c8 cC d0 d8 d11 D2 mo ko eh
  go_wp2_with (go_at_call 61;refine (jC _ _ _ D4 X4).kq ?_;rintro w5 ⟨R5,x5,d5⟩;have X5:=a_ x5;have D5:=a_ ((D4.perm (R':=((hb,bK S.c m rb run cy S.ae S.af)::(run,bF m S.aa S.top (S.aa+S.c.d_))::(Rr++vu))++((w.heap.size,.cells #[s] 3 (0,0))::Rf)) aF).step d5);clear x5 d5)
  go_ret;exact⟨rfl,R5,X5,D5.bN⟩
 ·have hok:=λq=>hs ((hg.eF s).1 q)
  have HF:=a_ (λW (hd:ag R ((w.heap.size,WD #[s] 3)::R) w W)=>kI (w:=W) s w.heap.size 1 hok h hd.at_.tail hd.has.head);have e1:(.int .i64 (S.m.set s i 3 x).2:Value)= .int .i64 17:=by
   unfold MH.set;rw[b_ hs]
   try rfl
  have e2:S.set s i 3 x x=S:=by
   unfold HS.set;rw[b_ hs]
  rw[e1,e2];clear hg hT hN h hR e1 e2 hs hok;go_enter func155,ntmps155
  go_wp2_with (go_at_call 58;refine (HF _ D0).kq ?_;rintro w2 hb;have D2:=a_ (D0.grow hb);clear hb)
  go_ret;exact⟨rfl,R,dz,D2.tail⟩
def hSetFloat_h (h:ak hb m rb S T R) (hg:S.Good) (hR:At R w) (hT:ax w) (hN:aD R) (bJ:T<=700000000000000) (s i:Int) (sy:x<18446744073709551616):
  WR 13 #[Wz hb,s,i,.float .f64 x] w (.int .i64 (S.m.set s i 2 x).2) λw'=>∃R',ak hb m rb (S.set s i 2 x x) (T+2000000) R'/\ag R R' w w':=by
 obtain⟨H,HR⟩:=aO h hR;have D0:=a_ ((ag.refl hR).box #[s] 3);have dz:=a_ (h.more (T':=T+2000000) (by omega));by_cases hs:S.m.slot s
 ·have hok:=(hg.eF s).2 hs;have HF:=a_ (λW (hd:ag R ((w.heap.size,WD #[s] 3)::R) w W)=>jg (w:=W) s w.heap.size 1 hok h hd.at_.tail hd.has.head);have e1:(.int .i64 (S.m.set s i 2 x).2:Value)= .int .i64 (S.m.fe (S.m.sl s) i 2):=by
   unfold MH.set;rw[b9 hs]
   try rfl
  rw[e1,HS.Ap hs];obtain⟨en,dX,run,cy,Rr,Rx,hr,hM,rfl⟩:=h;have ko:=a_ (λW (hh:W.heap[hb]?=some (bK S.c m rb run cy S.ae S.af))=>jX (hb:=hb) (m:=m) (cy:=cy) W (az (S:=S) hh).c8 (az (S:=S) hh).cC);have mo:=a_ (λK W (hd:ag ((hb,bK S.c m rb run cy S.ae S.af)::(run,bF m S.aa S.top (S.aa+S.c.d_))::(Rr++Rx)) (Rx++K) w W)=>setFloat_h2 (w:=W) hg hM hd.at_.left (hd.tz hT hN) (aD.app.1 (hd.cK hT hN)).1 (by omega) s i sy);have jC:=a_ (λK Rx' W (hd:ag ((hb,bK S.c m rb run cy S.ae S.af)::(run,bF m S.aa S.top (S.aa+S.c.d_))::(Rr++Rx)) (Rx'++((hb,bK S.c m rb run cy S.ae S.af)::(run,bF m S.aa S.top (S.aa+S.c.d_))::(Rr++K))) w W) (hx:cJ m (S.jw s i 2 x x) T cy Rx')=>nD (w:=W) (ak.qJ (hb:=hb) (run:=run) en dX hr hx (S.pY s i 2 x x)) (hg.tc (by decide) sy) ((hd.perm (R':=K++((hb,bK S.c m rb run cy S.ae S.af)::(run,bF m S.aa S.top (S.aa+S.c.d_))::(Rr++Rx'))) aF).drop.at_) (by omega));generalize S.jw s i 2 x x=S1 at *;obtain⟨uZ,gH⟩:∃uZ,(oR m cy).s.val=uZ:=⟨_,rfl⟩
  rw[gH] at ko mo;clear hr hM en dX hg hT hN dz e1 gH;go_enter func13,ntmps13
  go_wp2_with (go_at_call 58;refine (HF _ D0).mono ?_;rintro e w2 ⟨b,cp,Rf,rfl,hrow,d2⟩;have eh:=a_ hrow;have D2:=a_ ((D0.bh d2).perm (R':=Rx++((hb,bK S.c m rb run cy S.ae S.af)::(run,bF m S.aa S.top (S.aa+S.c.d_))::(Rr++((w.heap.size,.cells #[s] 3 (0,0))::Rf)))) aF);clear hrow d2)
  have c0:=eh w2 D2.has.right.tail.tail.right.tail;have c8:=(az (S:=S) D2.has.right.head).c8;have cC:=(az (S:=S) D2.has.right.head).cC
  go_region_held3 (λW=>W.cell? ⟨b,0,none⟩=some (.int .i64 (S.rt s:Nat))/\W.cell? ⟨hb,8,none⟩=some (.pointer (some ⟨m,0,none⟩))/\W.cell? ⟨hb,11,none⟩=some (.pointer (cy.map λb=>⟨b,0,none⟩))) (first | exact⟨c0,c8,cC⟩ | exact⟨d0,d8,d11⟩ | go_keep) ((first
   | (go_at_call 60;refine (ko _ (D2.grow (ay w2)).has.right.head).kq ?_;rintro w3 rfl)
   | (go_at_call 59;refine (mo _ _ (D2.grow (ay w2))).kq ?_;rintro w4 ⟨vu,x4,d4⟩;have X4:=a_ x4;have D4:=a_ ((D2.grow (ay w2)).step d4);have d0:=eh w4 D4.has.right.tail.tail.right.tail;have d8:=(az (S:=S) D4.has.right.head).c8;have d11:=(az (S:=S) D4.has.right.head).cC;clear x4 d4)))
  clear c0 c8 cC d0 d8 d11 D2 mo ko eh
  go_wp2_with (go_at_call 61;refine (jC _ _ _ D4 X4).kq ?_;rintro w5 ⟨R5,x5,d5⟩;have X5:=a_ x5;have D5:=a_ ((D4.perm (R':=((hb,bK S.c m rb run cy S.ae S.af)::(run,bF m S.aa S.top (S.aa+S.c.d_))::(Rr++vu))++((w.heap.size,.cells #[s] 3 (0,0))::Rf)) aF).step d5);clear x5 d5)
  go_ret;exact⟨rfl,R5,X5,D5.bN⟩
 ·have hok:=λq=>hs ((hg.eF s).1 q)
  have HF:=a_ (λW (hd:ag R ((w.heap.size,WD #[s] 3)::R) w W)=>kI (w:=W) s w.heap.size 1 hok h hd.at_.tail hd.has.head);have e1:(.int .i64 (S.m.set s i 2 x).2:Value)= .int .i64 17:=by
   unfold MH.set;rw[b_ hs]
   try rfl
  have e2:S.set s i 2 x x=S:=by
   unfold HS.set;rw[b_ hs]
  rw[e1,e2];clear hg hT hN h hR e1 e2 hs hok;go_enter func13,ntmps13
  go_wp2_with (go_at_call 58;refine (HF _ D0).kq ?_;rintro w2 hb;have D2:=a_ (D0.grow hb);clear hb)
  go_ret;exact⟨rfl,R,dz,D2.tail⟩
end
section
variable {hb m rb T x y:Nat} {S S':HS} {R Rx Rr:BL} {w w':World} {cy:Option Nat} {s f i k:Int}
def ak.bV {run:Nat} {a b:Nat} {mm:MH} (h1:S.ae<=T) (h2:S.af<=T) (hM:cJ m S T cy Rx) (hr:dO rb (S.rs.set a b) Rr):
  ak hb m rb (S.oy a b mm) T ((hb,bK S.c m rb run cy S.ae S.af)::(run,bF m S.aa S.top (S.aa+S.c.d_))::(Rr++Rx)):=
 ⟨h1,h2,run,cy,Rr,Rx,hr,hM,rfl⟩
def hCopy_h (h:ak hb m rb S T R) (hg:S.Good) (hR:At R w) (s f:Int):
  WR 33 #[Wz hb,s,f] w (.int .i64 (S.m.copy s f).2) λw'=>∃R',ak hb m rb (S.copy s f) T R'/\ag R R' w w':=by
 have H:=a_ h;have DR:=a_ (ag.refl hR);obtain⟨en,dX,run,cy,Rr,Rx,hr,hM,rfl⟩:=h;have hcs:=az (S:=S) hR.1.head;have hn:=a_ (ev w hcs.c8);have c9:=hcs.c9;have D0:=a_ ((ag.refl hR).perm (R':=Rr++((hb,bK S.c m rb run cy S.ae S.af)::(run,bF m S.aa S.top (S.aa+S.c.d_))::Rx)) aF);by_cases hs:S.m.slot s/\S.m.slot f
 ·have h1:=(hg.eF s).2 hs.1;have h2:=(hg.eF f).2 hs.2;unfold eF at h1 h2;have e1:(S.m.copy s f).2=0:=by unfold MH.copy;rw[b9 hs]
  have e2:S.copy s f=S.oy s.toNat (S.rt f) (S.m.copy s f).1:=by unfold HS.copy;rw[b9 hs]
  rw[e1,e2];generalize (S.m.copy s f).1=mm at *;unfold HS.rt;obtain⟨k,rfl⟩:∃k:Nat,s=k:=⟨s.toNat,by omega⟩
  obtain⟨j,rfl⟩:∃j:Nat,f=j:=⟨f.toNat,by omega⟩
  rw[Int.toNat_natCast,Int.toNat_natCast];have HC:=a_ (rts_copy_yes hr D0.at_.left k j (by omega) (by omega));have HM:=a_ (And.intro (And.intro en dX) hM);clear hcs hM hr en dX hs h1 h2 hR hg e1 e2;go_enter func33,ntmps33
  go_wp2_with (first
   | (go_at_call 48;refine hn.out.kq ?_;rintro w1 rfl)
   | (go_at_call 96;refine HC.kq ?_;rintro w2 ⟨R2,r2,d2⟩;have X2:=a_ r2;have D2:=a_ ((D0.step d2).perm (R':=(hb,bK S.c m rb run cy S.ae S.af)::(run,bF m S.aa S.top (S.aa+S.c.d_))::(R2++Rx)) aF);clear r2 d2))
  go_ret;exact⟨rfl,_,ak.bV HM.1.1 HM.1.2 HM.2 X2,D2⟩
 ·have h1:¬(eF S.rs s/\eF S.rs f):=λq=>hs ⟨(hg.eF s).1 q.1,(hg.eF f).1 q.2⟩
  unfold eF at h1;have e1:(S.m.copy s f).2=17:=by unfold MH.copy;rw[b_ hs]
  have e2:S.copy s f=S:=by unfold HS.copy;rw[b_ hs]
  rw[e1,e2];have HC:=a_ (rts_copy_no hr D0.at_.left.1 s f (by omega));clear hcs hM hr en dX hs h1 hR hg e1 e2;go_enter func33,ntmps33
  go_wp2_with (first
   | (go_at_call 48;refine hn.out.kq ?_;rintro w1 rfl)
   | (go_at_call 96;refine HC.kq ?_;rintro w2 dw;have D2:=a_ (DR.grow dw);clear dw))
  go_ret;exact⟨rfl,_,H,D2⟩
def xN (h:ak hb m rb S T R) (hg:S.Good) (hR:At R w) (s:Int):
  WR 31 #[Wz hb,s] w (.int .i64 (S.m.clear s).2) λw'=>∃R',ak hb m rb (S.clear s) T R'/\ag R R' w w':=by
 have H:=a_ h;have DR:=a_ (ag.refl hR);obtain⟨en,dX,run,cy,Rr,Rx,hr,hM,rfl⟩:=h;have hcs:=az (S:=S) hR.1.head;have hn:=a_ (ev w hcs.c8);have c9:=hcs.c9;have D0:=a_ ((ag.refl hR).perm (R':=Rr++((hb,bK S.c m rb run cy S.ae S.af)::(run,bF m S.aa S.top (S.aa+S.c.d_))::Rx)) aF);by_cases hs:S.m.slot s
 ·have h1:=(hg.eF s).2 hs;unfold eF at h1;have e1:(S.m.clear s).2=0:=by unfold MH.clear;rw[b9 hs]
  have e2:S.clear s=S.oy s.toNat 0 (S.m.clear s).1:=by unfold HS.clear;rw[b9 hs]
  rw[e1,e2];generalize (S.m.clear s).1=mm at *;obtain⟨k,rfl⟩:∃k:Nat,s=k:=⟨s.toNat,by omega⟩
  rw[Int.toNat_natCast];have HC:=a_ (qI hr D0.at_.left k 0 (by omega));have HM:=a_ (And.intro (And.intro en dX) hM);clear hcs hM hr en dX hs h1 hR hg e1 e2;go_enter func31,ntmps31
  go_wp2_with (first
   | (go_at_call 48;refine hn.out.kq ?_;rintro w1 rfl)
   | (go_at_call 54;refine HC.kq ?_;rintro w2 ⟨R2,r2,d2⟩;have X2:=a_ r2;have D2:=a_ ((D0.step d2).perm (R':=(hb,bK S.c m rb run cy S.ae S.af)::(run,bF m S.aa S.top (S.aa+S.c.d_))::(R2++Rx)) aF);clear r2 d2))
  go_ret;exact⟨rfl,_,ak.bV HM.1.1 HM.1.2 HM.2 X2,D2⟩
 ·have h1:¬eF S.rs s:=λq=>hs ((hg.eF s).1 q)
  unfold eF at h1;have e1:(S.m.clear s).2=17:=by unfold MH.clear;rw[b_ hs]
  have e2:S.clear s=S:=by unfold HS.clear;rw[b_ hs]
  rw[e1,e2];have HC:=a_ (rts_set_no hr D0.at_.left.1 s 0 (by omega));clear hcs hM hr en dX hs h1 hR hg e1 e2;go_enter func31,ntmps31
  go_wp2_with (first
   | (go_at_call 48;refine hn.out.kq ?_;rintro w1 rfl)
   | (go_at_call 54;refine HC.kq ?_;rintro w2 dw;have D2:=a_ (DR.grow dw);clear dw))
  go_ret;exact⟨rfl,_,H,D2⟩
def HS.Good.same_iff (h:S.Good) (a b:Int):S.rt a=S.rt b↔S.m.sl a=S.m.sl b:=by
 obtain⟨Q,φ,hr⟩:=h.rep;constructor
 ·intro e;rcases hr.Q0 a with⟨a1,a2⟩ | ⟨a1,a2,a3,a4⟩
  ·rcases hr.Q0 b with⟨b1,b2⟩ | ⟨b1,b2,b3,b4⟩
   ·rw[a1,b1]
   ·exact absurd (e▸a2) b3
  ·rcases hr.Q0 b with⟨b1,b2⟩ | ⟨b1,b2,b3,b4⟩
   ·exact absurd (e.trans b2) a3
   ·exact hr.inj _ _ a1 b1 (by rw[←a2,←b2,e])
 ·intro e;rcases hr.Q0 a with⟨a1,a2⟩ | ⟨a1,a2,a3,a4⟩
  ·rcases hr.Q0 b with⟨b1,b2⟩ | ⟨b1,b2,b3,b4⟩
   ·rw[a2,b2]
   ·exact absurd (e▸a1) b4
  ·rcases hr.Q0 b with⟨b1,b2⟩ | ⟨b1,b2,b3,b4⟩
   ·exact absurd (e.trans b1) a4
   ·rw[a2,b2,e]
def hSame_h (h:ak hb m rb S T R) (hg:S.Good) (hR:At R w) (s f:Int):
  WR 151 #[Wz hb,s,f] w (.tuple #[.bool (S.m.same s f).1,.int .i64 (S.m.same s f).2]) λw'=>ag R R w w':=by
 have D0:=a_ ((ag.refl hR).box #[s,f] 3);by_cases hs:S.m.slot s/\S.m.slot f
 ·have hok:eF S.rs s/\eF S.rs f:=⟨(hg.eF s).2 hs.1,(hg.eF f).2 hs.2⟩
  have HF:=a_ (λW (hd:ag R ((w.heap.size,WD #[s,f] 3)::R) w W)=>pB (w:=W) s f w.heap.size 2 hok h hd.at_.tail hd.has.head);have e1:(S.m.same s f).1=decide (S.rt s=S.rt f):=by
   unfold MH.same;rw[b9 hs];exact decide_eq_decide.2 (hg.same_iff s f).symm
  have e2:(S.m.same s f).2=0:=by unfold MH.same;rw[b9 hs]
  rw[e1,e2];have e3:decide (S.rt s=S.rt f)=((S.rt s:Int)==(S.rt f:Int)):=by
   rw[Bool.eq_iff_iff,decide_eq_true_eq,beq_iff_eq];omega
  rw[e3];clear hg h hR hs hok e1 e2 e3;go_enter func151,ntmps151
  go_wp2_with (go_at_call 58;refine (HF _ D0).mono ?_;rintro e w2 ⟨b,cp,Rf,rfl,hrow,d2⟩;have eh:=a_ hrow;have D2:=a_ (D0.bh d2);clear hrow d2)
  obtain⟨c0,c1⟩:=eh w2 D2.has.left
  go_quiet (fail)
  have D3:=a_ (D2.grow (Fr.aA nq w2));go_wp2
  go_ret2
  exact⟨rfl,(D3.drop).tail⟩
 ·have hok:¬(eF S.rs s/\eF S.rs f):=λq=>hs ⟨(hg.eF s).1 q.1,(hg.eF f).1 q.2⟩
  have HF:=a_ (λW (hd:ag R ((w.heap.size,WD #[s,f] 3)::R) w W)=>rW (w:=W) s f w.heap.size 2 hok h hd.at_.tail hd.has.head);have e1:(S.m.same s f)=(false,17):=by unfold MH.same;rw[b_ hs]
  rw[e1];clear hg h hR hs hok e1;go_enter func151,ntmps151
  go_wp2_with (go_at_call 58;refine (HF _ D0).kq ?_;rintro w2 hb;have D2:=a_ (D0.grow hb);clear hb)
  go_ret2
  exact⟨rfl,D2.tail⟩
end
section
variable {hb m rb T x y:Nat} {S S':HS} {R Rx Rr:BL} {w w':World} {cy:Option Nat} {s f i k:Int}
def ak.yE (h:ak hb m rb S T R) (hR:At R w) {k v:Nat} (hk:k<S.rs.length) (mm:MH):
  WR 54 #[Wz rb,k,v] w Wy λw'=>∃R',ak hb m rb (S.oy k v mm) T R'/\ag R R' w w':=by
 obtain⟨en,dX,run,cy,Rr,Rx,hr,hM,rfl⟩:=h;have D0:=(ag.refl hR).perm (R':=Rr++((hb,bK S.c m rb run cy S.ae S.af)::(run,bF m S.aa S.top (S.aa+S.c.d_))::Rx)) aF;refine (qI hr D0.at_.left k v hk).kq ?_;rintro w' ⟨R',r,d⟩;exact⟨rfl,_,ak.bV en dX hM r,(D0.step d).perm aF⟩
def ak.c9 (h:ak hb m rb S T R) (hR:Has R w):w.cell? ⟨hb,9,none⟩=some (.pointer (some ⟨rb,0,none⟩)):=by
 obtain⟨en,dX,run,cy,Rr,Rx,hr,hM,rfl⟩:=h;exact (az (S:=S) hR.head).c9
def HS.Good.load_eq (hg:S.Good) (hs:S.m.slot s/\S.m.slot f):S.load s f i=if S.m.fe (S.m.sl f) i 1=0 then (S.kM f i 1).fin.oy s.toNat (S.CR f i 1) (S.m.load s f i).1 else (S.kM f i 1).fin:=by
 unfold HS.load HS.kM HS.CR;rw[b9 hs];by_cases h0:S.rt f=0
 ·rw[b9 h0,b9 h0,hg.Ir h0,b_ (by decide)]
 ·rw[b_ h0,b_ h0,b_ h0,(hg.at_ h0).2.2.2.2]
def hLoad_h (h:ak hb m rb S T R) (hg:S.Good) (hR:At R w) (hT:ax w) (hN:aD R) (bJ:T<=700000000000000) (s f i:Int):
  WR 34 #[Wz hb,s,f,i] w (.int .i64 (S.m.load s f i).2) λw'=>∃R',ak hb m rb (S.load s f i) (T+2000000) R'/\ag R R' w w':=by
 have D0:=a_ ((ag.refl hR).box #[s,f] 3);have dz:=a_ (h.more (T':=T+2000000) (by omega));by_cases hs:S.m.slot s/\S.m.slot f
 ·have hok:eF S.rs s/\eF S.rs f:=⟨(hg.eF s).2 hs.1,(hg.eF f).2 hs.2⟩
  have HF:=a_ (λW (hd:ag R ((w.heap.size,WD #[s,f] 3)::R) w W)=>pB (w:=W) s f w.heap.size 2 hok h hd.at_.tail hd.has.head);have e1:(S.m.load s f i).2=S.m.fe (S.m.sl f) i 1:=by
   unfold MH.load;rw[b9 hs]
  have e2:=hg.load_eq (i:=i) hs;rw[e1];have hs1:s.toNat<S.rs.length/\s=(s.toNat:Nat):=by have:=hok.1;unfold eF at this;omega
  have VX:=(S.nH f i 1).2.1;have nM:=(S.kM f i 1).xD.2.1;have vM:s.toNat<(S.kM f i 1).fin.rs.length:=by rw[nM,VX];exact hs1.1
  obtain⟨en,dX,run,cy,Rr,Rx,hr,hM,rfl⟩:=h;have ko:=a_ (λW (hh:W.heap[hb]?=some (bK S.c m rb run cy S.ae S.af))=>jX (hb:=hb) (m:=m) (cy:=cy) W (az (S:=S) hh).c8 (az (S:=S) hh).cC);have mo:=a_ (λK W (hd:ag ((hb,bK S.c m rb run cy S.ae S.af)::(run,bF m S.aa S.top (S.aa+S.c.d_))::(Rr++Rx)) (Rx++K) w W)=>pointer_h (w:=W) hg hM hd.at_.left (hd.tz hT hN) (aD.app.1 (hd.cK hT hN)).1 (by omega) f i);have jC:=a_ (λK Rx' W (hd:ag ((hb,bK S.c m rb run cy S.ae S.af)::(run,bF m S.aa S.top (S.aa+S.c.d_))::(Rr++Rx)) (Rx'++((hb,bK S.c m rb run cy S.ae S.af)::(run,bF m S.aa S.top (S.aa+S.c.d_))::(Rr++K))) w W) (hx:cJ m (S.kM f i 1) T cy Rx')=>nD (w:=W) (ak.qJ (hb:=hb) (run:=run) en dX hr hx (S.nH f i 1)) ((hg.aX.kM f i 1).1) ((hd.perm (R':=K++((hb,bK S.c m rb run cy S.ae S.af)::(run,bF m S.aa S.top (S.aa+S.c.d_))::(Rr++Rx'))) aF).drop.at_) (by omega));have oS:=a_ (λR' W mm (hx:ak hb m rb (S.kM f i 1).fin (T+2000000) R') (hA:At R' W)=>hx.yE hA vM (v:=S.CR f i 1) mm);rw[←hs1.2] at oS;rw[e2];generalize (S.kM f i 1).fin=S2 at *;generalize S.kM f i 1=S1 at *;generalize S.CR f i 1=gw at *;obtain⟨uZ,gH⟩:∃uZ,(oR m cy).s.val=uZ:=⟨_,rfl⟩
  rw[gH] at ko mo;clear hr hM en dX hg hT hN dz e1 e2 gH hs hok hs1 VX nM vM;generalize (S.m.load s f i).1=mm at *;by_cases hz:S.m.fe (S.m.sl f) i 1=0
  ·rw[hz] at mo ⊢;rw[b9 rfl];clear hz;go_enter func34,ntmps34
   go_wp2_with (go_at_call 58;refine (HF _ D0).mono ?_;rintro e w2 ⟨b,cp,Rf,rfl,hrow,d2⟩;have eh:=a_ hrow;have D2:=a_ ((D0.bh d2).perm (R':=Rx++((hb,bK S.c m rb run cy S.ae S.af)::(run,bF m S.aa S.top (S.aa+S.c.d_))::(Rr++((w.heap.size,.cells #[s,f] 3 (0,0))::Rf)))) aF);clear hrow d2)
   have c0:=(eh w2 D2.has.right.tail.tail.right.tail).1;have c1:=(eh w2 D2.has.right.tail.tail.right.tail).2;have c8:=(az (S:=S) D2.has.right.head).c8;have cC:=(az (S:=S) D2.has.right.head).cC
   go_region_held3 (λW=>W.cell? ⟨b,0,none⟩=some (.int .i64 (S.rt s:Nat))/\W.cell? ⟨b,1,none⟩=some (.int .i64 (S.rt f:Nat))/\W.cell? ⟨hb,8,none⟩=some (.pointer (some ⟨m,0,none⟩))/\W.cell? ⟨hb,11,none⟩=some (.pointer (cy.map λb=>⟨b,0,none⟩))) (first | exact⟨c0,c1,c8,cC⟩ | exact⟨d0,d1,d8,d11⟩ | go_keep) ((first
    | (go_at_call 60;refine (ko _ (D2.grow (ay w2)).has.right.head).kq ?_;rintro w3 rfl)
    | (go_at_call 97;refine (mo _ _ (D2.grow (ay w2))).kq ?_;rintro w4 ⟨vu,x4,d4⟩;have X4:=a_ x4;have D4:=a_ ((D2.grow (ay w2)).step d4);have d0:=(eh w4 D4.has.right.tail.tail.right.tail).1;have d1:=(eh w4 D4.has.right.tail.tail.right.tail).2;have d8:=(az (S:=S) D4.has.right.head).c8;have d11:=(az (S:=S) D4.has.right.head).cC;clear x4 d4)))
   clear c0 c1 c8 cC d0 d1 d8 d11 D2 mo ko eh
   go_wp2_with (first
    | (go_at_call 61;refine (jC _ _ _ D4 X4).kq ?_;rintro w5 ⟨R5,x5,d5⟩;have X5:=a_ x5;have D5:=a_ ((D4.perm (R':=((hb,bK S.c m rb run cy S.ae S.af)::(run,bF m S.aa S.top (S.aa+S.c.d_))::(Rr++vu))++((w.heap.size,.cells #[s,f] 3 (0,0))::Rf)) aF).step d5);have c9:=X5.c9 D5.has.left;clear x5 d5)
    | (go_at_call 54;refine (oS _ _ mm X5 D5.at_.left).kq ?_;rintro w6 ⟨R6,x6,d6⟩;have X6:=a_ x6;have D6:=a_ (D5.step d6);clear x6 d6))
   go_ret;exact⟨rfl,R6,X6,D6.bN⟩
  ·rw[b_ hz];have Ae:(S.m.fe (S.m.sl f) i 1==0)=false:=by rw[beq_eq_false_iff_ne];exact hz
   generalize S.m.fe (S.m.sl f) i 1=fe at *;clear oS;go_enter func34,ntmps34
   go_wp2_with (go_at_call 58;refine (HF _ D0).mono ?_;rintro e w2 ⟨b,cp,Rf,rfl,hrow,d2⟩;have eh:=a_ hrow;have D2:=a_ ((D0.bh d2).perm (R':=Rx++((hb,bK S.c m rb run cy S.ae S.af)::(run,bF m S.aa S.top (S.aa+S.c.d_))::(Rr++((w.heap.size,.cells #[s,f] 3 (0,0))::Rf)))) aF);clear hrow d2)
   have c0:=(eh w2 D2.has.right.tail.tail.right.tail).1;have c1:=(eh w2 D2.has.right.tail.tail.right.tail).2;have c8:=(az (S:=S) D2.has.right.head).c8;have cC:=(az (S:=S) D2.has.right.head).cC
   go_region_held3 (λW=>W.cell? ⟨b,0,none⟩=some (.int .i64 (S.rt s:Nat))/\W.cell? ⟨b,1,none⟩=some (.int .i64 (S.rt f:Nat))/\W.cell? ⟨hb,8,none⟩=some (.pointer (some ⟨m,0,none⟩))/\W.cell? ⟨hb,11,none⟩=some (.pointer (cy.map λb=>⟨b,0,none⟩))) (first | exact⟨c0,c1,c8,cC⟩ | exact⟨d0,d1,d8,d11⟩ | go_keep) ((first
    | (go_at_call 60;refine (ko _ (D2.grow (ay w2)).has.right.head).kq ?_;rintro w3 rfl)
    | (go_at_call 97;refine (mo _ _ (D2.grow (ay w2))).kq ?_;rintro w4 ⟨vu,x4,d4⟩;have X4:=a_ x4;have D4:=a_ ((D2.grow (ay w2)).step d4);have d0:=(eh w4 D4.has.right.tail.tail.right.tail).1;have d1:=(eh w4 D4.has.right.tail.tail.right.tail).2;have d8:=(az (S:=S) D4.has.right.head).c8;have d11:=(az (S:=S) D4.has.right.head).cC;clear x4 d4)))
   clear c0 c1 c8 cC d0 d1 d8 d11 D2 mo ko eh
   go_wp2_with (go_at_call 61;refine (jC _ _ _ D4 X4).kq ?_;rintro w5 ⟨R5,x5,d5⟩;have X5:=a_ x5;have D5:=a_ ((D4.perm (R':=((hb,bK S.c m rb run cy S.ae S.af)::(run,bF m S.aa S.top (S.aa+S.c.d_))::(Rr++vu))++((w.heap.size,.cells #[s,f] 3 (0,0))::Rf)) aF).step d5);clear x5 d5)
   go_ret;exact⟨rfl,R5,X5,D5.bN⟩
 ·have hok:¬(eF S.rs s/\eF S.rs f):=λq=>hs ⟨(hg.eF s).1 q.1,(hg.eF f).1 q.2⟩
  have HF:=a_ (λW (hd:ag R ((w.heap.size,WD #[s,f] 3)::R) w W)=>rW (w:=W) s f w.heap.size 2 hok h hd.at_.tail hd.has.head);have e1:(S.m.load s f i).2=17:=by unfold MH.load;rw[b_ hs]
  have e2:S.load s f i=S:=by unfold HS.load;rw[b_ hs]
  rw[e1,e2];clear hg h hR hs hok e1 e2 hT hN;go_enter func34,ntmps34
  go_wp2_with (go_at_call 58;refine (HF _ D0).kq ?_;rintro w2 hb;have D2:=a_ (D0.grow hb);clear hb)
  go_ret;exact⟨rfl,R,dz,D2.tail⟩
def hStore_h (h:ak hb m rb S T R) (hg:S.Good) (hR:At R w) (hT:ax w) (hN:aD R) (bJ:T<=700000000000000) (s i f:Int):
  WR 154 #[Wz hb,s,i,f] w (.int .i64 (S.m.store s i f).2) λw'=>∃R',ak hb m rb (S.store s i f) (T+2000000) R'/\ag R R' w w':=by
 have D0:=a_ ((ag.refl hR).box #[s,f] 3);have dz:=a_ (h.more (T':=T+2000000) (by omega));by_cases hs:S.m.slot s/\S.m.slot f
 ·have hok:eF S.rs s/\eF S.rs f:=⟨(hg.eF s).2 hs.1,(hg.eF f).2 hs.2⟩
  have HF:=a_ (λW (hd:ag R ((w.heap.size,WD #[s,f] 3)::R) w W)=>pB (w:=W) s f w.heap.size 2 hok h hd.at_.tail hd.has.head);have e1:(S.m.store s i f).2=S.m.fe (S.m.sl s) i 1:=by
   unfold MH.store;rw[b9 hs]
  have e2:S.store s i f=(S.jw s i 1 (S.m.sl f) (S.rt f)).fin:=by
   unfold HS.store;rw[b9 hs,HS.Ap hs.1]
  have uD:S.rt f<=4352:=by
   obtain⟨Q,φ,hr⟩:=hg.rep;have hrun:=hg.aX.run;rcases hr.Q0 f with⟨a1,a2⟩ | ⟨q,a1,a2,a3⟩
   ·omega
   ·have:=hr.lies _ q;omega
  rw[e1,e2];obtain⟨en,dX,run,cy,Rr,Rx,hr,hM,rfl⟩:=h;have ko:=a_ (λW (hh:W.heap[hb]?=some (bK S.c m rb run cy S.ae S.af))=>jX (hb:=hb) (m:=m) (cy:=cy) W (az (S:=S) hh).c8 (az (S:=S) hh).cC);have mo:=a_ (λK W (hd:ag ((hb,bK S.c m rb run cy S.ae S.af)::(run,bF m S.aa S.top (S.aa+S.c.d_))::(Rr++Rx)) (Rx++K) w W)=>setPointer_h2 (w:=W) hg hM hd.at_.left (hd.tz hT hN) (aD.app.1 (hd.cK hT hN)).1 (by omega) s i (x:=S.rt f) (by omega) (S.m.sl f));have jC:=a_ (λK Rx' W (hd:ag ((hb,bK S.c m rb run cy S.ae S.af)::(run,bF m S.aa S.top (S.aa+S.c.d_))::(Rr++Rx)) (Rx'++((hb,bK S.c m rb run cy S.ae S.af)::(run,bF m S.aa S.top (S.aa+S.c.d_))::(Rr++K))) w W) (hx:cJ m (S.jw s i 1 (S.m.sl f) (S.rt f)) T cy Rx')=>nD (w:=W) (ak.qJ (hb:=hb) (run:=run) en dX hr hx (S.pY s i 1 (S.m.sl f) (S.rt f))) (hg.tc (by decide) (by omega)) ((hd.perm (R':=K++((hb,bK S.c m rb run cy S.ae S.af)::(run,bF m S.aa S.top (S.aa+S.c.d_))::(Rr++Rx'))) aF).drop.at_) (by omega));generalize S.jw s i 1 (S.m.sl f) (S.rt f)=S1 at *;obtain⟨uZ,gH⟩:∃uZ,(oR m cy).s.val=uZ:=⟨_,rfl⟩
  rw[gH] at ko mo;clear hr hM en dX hg hT hN dz e1 e2 gH hs hok uD;generalize S.m.fe (S.m.sl s) i 1=fe at *;go_enter func154,ntmps154
  go_wp2_with (go_at_call 58;refine (HF _ D0).mono ?_;rintro e w2 ⟨b,cp,Rf,rfl,hrow,d2⟩;have eh:=a_ hrow;have D2:=a_ ((D0.bh d2).perm (R':=Rx++((hb,bK S.c m rb run cy S.ae S.af)::(run,bF m S.aa S.top (S.aa+S.c.d_))::(Rr++((w.heap.size,.cells #[s,f] 3 (0,0))::Rf)))) aF);clear hrow d2)
  have c0:=(eh w2 D2.has.right.tail.tail.right.tail).1;have c1:=(eh w2 D2.has.right.tail.tail.right.tail).2;have c8:=(az (S:=S) D2.has.right.head).c8;have cC:=(az (S:=S) D2.has.right.head).cC
  go_region_held3 (λW=>W.cell? ⟨b,0,none⟩=some (.int .i64 (S.rt s:Nat))/\W.cell? ⟨b,1,none⟩=some (.int .i64 (S.rt f:Nat))/\W.cell? ⟨hb,8,none⟩=some (.pointer (some ⟨m,0,none⟩))/\W.cell? ⟨hb,11,none⟩=some (.pointer (cy.map λb=>⟨b,0,none⟩))) (first | exact⟨c0,c1,c8,cC⟩ | exact⟨d0,d1,d8,d11⟩ | go_keep) ((first
   | (go_at_call 60;refine (ko _ (D2.grow (ay w2)).has.right.head).kq ?_;rintro w3 rfl)
   | (go_at_call 235;refine (mo _ _ (D2.grow (ay w2))).kq ?_;rintro w4 ⟨vu,x4,d4⟩;have X4:=a_ x4;have D4:=a_ ((D2.grow (ay w2)).step d4);have d0:=(eh w4 D4.has.right.tail.tail.right.tail).1;have d1:=(eh w4 D4.has.right.tail.tail.right.tail).2;have d8:=(az (S:=S) D4.has.right.head).c8;have d11:=(az (S:=S) D4.has.right.head).cC;clear x4 d4)))
  clear c0 c1 c8 cC d0 d1 d8 d11 D2 mo ko eh
  go_wp2_with (go_at_call 61;refine (jC _ _ _ D4 X4).kq ?_;rintro w5 ⟨R5,x5,d5⟩;have X5:=a_ x5;have D5:=a_ ((D4.perm (R':=((hb,bK S.c m rb run cy S.ae S.af)::(run,bF m S.aa S.top (S.aa+S.c.d_))::(Rr++vu))++((w.heap.size,.cells #[s,f] 3 (0,0))::Rf)) aF).step d5);clear x5 d5)
  go_ret;exact⟨rfl,R5,X5,D5.bN⟩
 ·have hok:¬(eF S.rs s/\eF S.rs f):=λq=>hs ⟨(hg.eF s).1 q.1,(hg.eF f).1 q.2⟩
  have HF:=a_ (λW (hd:ag R ((w.heap.size,WD #[s,f] 3)::R) w W)=>rW (w:=W) s f w.heap.size 2 hok h hd.at_.tail hd.has.head);have e1:(S.m.store s i f).2=17:=by unfold MH.store;rw[b_ hs]
  have e2:S.store s i f=S:=by unfold HS.store;rw[b_ hs]
  rw[e1,e2];clear hg h hR hs hok e1 e2 hT hN;go_enter func154,ntmps154
  go_wp2_with (go_at_call 58;refine (HF _ D0).kq ?_;rintro w2 hb;have D2:=a_ (D0.grow hb);clear hb)
  go_ret;exact⟨rfl,R,dz,D2.tail⟩
end
end
end Go.Proofs.YtmdgfpeglgpiiaaGreatDoor

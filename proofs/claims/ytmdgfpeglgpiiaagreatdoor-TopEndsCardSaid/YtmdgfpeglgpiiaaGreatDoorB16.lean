import Derived.Deep.Cut
import Derived.Test.YtmdgfpeglgpiiaaGreatDoorB15
set_option linter.unusedVariables false
set_option linter.unusedSimpArgs false
set_option maxRecDepth 100000
set_option maxHeartbeats 16000000
namespace Go.Proofs.YtmdgfpeglgpiiaaGreatDoor
open Go.ChangeShapes Go.WideShapes Go.ChangeAt Go.RowKit Go.Maps Go.Sort
open Vq Oq Go.Proofs.Tryz
section
attribute [local go_sem] Oper.semAt_some
def HC.nC (c:HC) (x:Nat):Bool:=match floatBits .mul .f64 c.ig (floatOfInt .f64 (c.words:Nat)) with
 | none=>false
 | some r=>FloatKind.f64.format.order (floatOfInt .f64 (x:Nat)) r==some .gt || FloatKind.f64.format.order (floatOfInt .f64 (x:Nat)) r==some .eq
theorem nan_order (x a b t:Nat):FloatKind.f64.format.order x ((Question.nanBits .f64 a b).cut t)=none:=by
 have e:(Question.nanBits .f64 a b).cut t=(t%2)*9223372036854775808+9218868437227405312+1+(t/2)%4503599627370495:=rfl;rw[e];have hk:(t/2)%4503599627370495<4503599627370495:=Nat.mod_lt _ (by decide);have hb:t%2=0\/t%2=1:=by omega
 generalize (t/2)%4503599627370495=kk at hk ⊢;generalize t%2=bb at hb ⊢;generalize hz:bb*9223372036854775808+9218868437227405312+1+kk=z;have h1:9218868437227405312<z%9223372036854775808:=by
  rcases hb with rfl | rfl<;>omega
 have e1:FloatKind.f64.format.signWeight=9223372036854775808:=by decide+kernel
 have e2:FloatKind.f64.format.infRung=9218868437227405312:=by decide+kernel
 have e3:FloatKind.f64.format.binade=4503599627370496:=by decide+kernel
 have hr:∃s p,FloatKind.f64.format.read z= .nan s p:=by
  unfold Ieee.Format.read;simp only[e1,e2,e3];rw[cG,cG,cG];exact⟨_,_,rfl⟩
 obtain⟨s,p,hr⟩:=hr;unfold Ieee.Format.order;rw[hr]
 cases FloatKind.f64.format.read x<;>rfl
section
variable {hb m rb run jn:Nat} {cy:Option Nat} {S:HS} {w w':World}
theorem due_c (h:Has [(hb,bK S.c m rb run cy S.ae S.af),(run,bF m S.aa S.top jn)] w) (bp:S.aa<=S.top/\S.top<=100000) (hw:S.c.words<=2048):
  WA 55 #[Wz hb] w λe w'=>e= .returned (.bool (S.c.nC (S.top-S.aa)))/\Below w.heap.size w w':=by
 have H:=a_ h;have HB:=a_ (λW (h:Has [(hb,bK S.c m rb run cy S.ae S.af),(run,bF m S.aa S.top jn)] W)=>oo (w:=W) h.tail.head);have HT:=a_ (λW (h:Has [(hb,bK S.c m rb run cy S.ae S.af),(run,bF m S.aa S.top jn)] W)=>wF (w:=W) h.tail.head);have gd:=a_ (λW (h:Has [(hb,bK S.c m rb run cy S.ae S.af),(run,bF m S.aa S.top jn)] W)=>(show W.cell? ⟨hb,3,none⟩=some (.int .i64 S.c.words)/\W.cell? ⟨hb,7,none⟩=some (.float .f64 S.c.ig)/\W.cell? ⟨hb,10,none⟩=some (.pointer (some ⟨run,0,none⟩)) from
  have hc:=az (S:=S) h.head
  ⟨hc.c3,hc.c7,hc.dW⟩))
 obtain⟨c3,c7,dW⟩:=gd _ h;have s1:IntKind.i64.wrap ((S.top:Int)-S.aa)=((S.top-S.aa:Nat):Int):=by rw[IntWalk.i64_in _ (by omega)];omega
 generalize S.top-S.aa=sz at *;unfold HC.nC
 cases hr:floatBits .mul .f64 S.c.ig (floatOfInt .f64 (S.c.words:Nat)) with
 | some r=>
  simp only;have hmul:∀t W,(binOp .mul t (.float .f64 S.c.ig) (.float .f64 (floatOfInt .f64 (S.c.words:Nat)))).run prog W= .ok (.float .f64 r) W:=λt W=>run_float_arith W .mul t .f64 _ _ r hr
  clear h hr;go_enter func55,ntmps55;go_wp2
  go_quiet ((first | (go_at_call 77;exact gl (HB _ (H.grow (Fr.aA _ _)))) | (go_at_call 76;exact gl (HT _ (H.grow (Fr.aA _ _))))))
  have H2:=a_ (H.grow (Fr.aA nq w));have QR:=a_ (Fr.aA nq w);generalize w.drewN nq=w2 at *;clear c3 c7 dW;obtain⟨c3,c7,dW⟩:=gd _ H2;go_wp2;refine aP (S:=λW=>W.cell? ⟨hb,3,none⟩=some (.int .i64 S.c.words)/\W.cell? ⟨hb,7,none⟩=some (.float .f64 S.c.ig)) (by kernel_rfl) ⟨c3,c7⟩ (λhHeld=>?_);refine aR 0 ?_;refine aR 1 ?_;refine aR 2 ?_;refine aR 3 ?_;refine aR 4 ?_;refine aR 5 ?_;refine aR 6 ?_;refine aR 7 ?_;refine aR 8 ?_;refine aR 9 ?_;refine aR 10 ?_;refine aR 11 ?_;simp only[aI];refine jS 12 (λK hK=>?_);go_simp;refine hK _ _ hHeld (λhHeld=>?_);clear hK K
  try simp only[aI]
  refine aR 13 ?_;simp only[aI];refine sD 14 (λK hK=>?_);go_simp;refine hK _ _ ?_;clear hK K
  try simp only[aI]
  have jB:=a_ (seq QR (ay _));go_wp2;go_ret;exact⟨rfl,jB⟩
 | none=>
  simp only;have hmul:∀t W,(binOp .mul t (.float .f64 S.c.ig) (.float .f64 (floatOfInt .f64 (S.c.words:Nat)))).run prog W= .ok (.float .f64 ((Question.nanBits .f64 S.c.ig (floatOfInt .f64 (S.c.words:Nat))).cut (W.tape W.drawn (.nanBits .f64 S.c.ig (floatOfInt .f64 (S.c.words:Nat)))))) W.drew:=λt W=>by
   unfold floatBits at hr;simp only at hr;simp[binOp,Op.floatArith,hr,Question.forced]
  have Om:∀z t,FloatKind.f64.format.order z ((Question.nanBits .f64 S.c.ig (floatOfInt .f64 (S.c.words:Nat))).cut t)=none:=λz t=>nan_order _ _ _ _
  clear h hr;go_enter func55,ntmps55;go_wp2
  go_quiet ((first | (go_at_call 77;exact gl (HB _ (H.grow (Fr.aA _ _)))) | (go_at_call 76;exact gl (HT _ (H.grow (Fr.aA _ _))))))
  have H2:=a_ (H.grow (Fr.aA nq w));have QR:=a_ (Fr.aA nq w);generalize w.drewN nq=w2 at *;clear c3 c7 dW;obtain⟨c3,c7,dW⟩:=gd _ H2;go_wp2;refine aP (S:=λW=>W.cell? ⟨hb,3,none⟩=some (.int .i64 S.c.words)/\W.cell? ⟨hb,7,none⟩=some (.float .f64 S.c.ig)) (by kernel_rfl) ⟨c3,c7⟩ (λhHeld=>?_);refine aR 0 ?_;refine aR 1 ?_;refine aR 2 ?_;refine aR 3 ?_;refine aR 4 ?_;refine aR 5 ?_;refine aR 6 ?_;refine aR 7 ?_;refine aR 8 ?_;refine aR 9 ?_;refine aR 10 ?_;refine aR 11 ?_;simp only[aI];refine jS 12 (λK hK=>?_);go_simp;refine hK _ _ hHeld (λhHeld=>?_);clear hK K
  try simp only[aI]
  generalize hcut:(Question.nanBits .f64 S.c.ig (floatOfInt .f64 (S.c.words:Nat))).cut _=nn;have Ab:∀z,FloatKind.f64.format.order z nn=none:=λz=>by rw[←hcut];exact Om _ _
  clear hcut Om;refine aR 13 ?_;simp only[aI];refine sD 14 (λK hK=>?_);go_simp;refine hK _ _ ?_;clear hK K
  try simp only[aI]
  have jB:=a_ (seq QR (seq (ay _) (ay _)));go_wp2;go_ret;exact⟨rfl,jB⟩
end
section
variable {hb m rb T n run:Nat} {S:HS} {R Rx Rr:BL} {w w':World} {p f o:Nat}
theorem ym {words page room t:Nat} (v:VS) (a x:Nat):∀n,(bT m words page room t).mk' v a x n=Ah v a x n
 | 0=>rfl
 | n+1=>by
  have ih:(bT m words page room t).mk' v a x n=Ah v a x n:=ym v a x n;show fB _ _ _=fB _ _ _
  have e:(bT m words page room t).ld ((bT m words page room t).mk' v a x n) (a+1+n)=Ah v a x n:=ih;rw[e]
noncomputable def HS.CF (S:HS) (p f o:Nat):HS:={S.ext (1+(p+f+o)) with v:=Ah (S.ext (1+(p+f+o))).v S.top (Hd.dv p f o) (p+f+o)}
theorem HS.mkO_eq (S:HS) (s p f o:Nat):S.pK s p f o=(S.CF p f o).oy s S.top ((S.m.new p f o).ic s (S.m.L.length+1)):=rfl
theorem HS.Good.CF (h:S.Good) (hok:Hd.Ok p f o) (hf:S.fits (1+(p+f+o))) (hs:∀k,S.bX=some k->S.gC (1+(p+f+o))):
  (S.CF p f o).ep/\(S.ext (1+(p+f+o))).ep/\∀i,i<=p+f+o->cR S.c.mw S.c.page (S.ext (1+(p+f+o))).v (S.top+i):=by
 have ht:=h.aX.top;obtain⟨e1,e2,e3⟩:=h.aX.ext (n:=1+(p+f+o)) (by omega) hf hs;have CC:∀k,S.bX=some k->∀i,¬k.y.waits k.mv (S.top+i):=λk hk i q=>by
  obtain⟨k1,k2,k3,k4,k5,k6,k7,k8,k9,hg⟩:=h.aX.opened k hk;have oO:=hg.mc.yK;have hl:bB k.y.E k.y.words=k.y.aq:=rfl;have:=q.2.1;omega
 have hD:∀i,i<=p+f+o->(S.ext (1+(p+f+o))).D (S.top+i):=λi hi=>⟨by show S.aa<=_;omega,by show _<S.top+(1+(p+f+o));omega⟩
 refine⟨(e2.Ah (yU p f o hok) S.top (p+f+o) hD (λk hk i _=>CC k hk i)).1,e2,λi hi=>?_⟩
 cases hk:S.bX with
 | none=>exact e2.cR (S:=S.ext (1+(p+f+o))) hk (hD i hi)
 | some k=>
  obtain⟨k1,k2,k3,k4,k5,k6,k7,k8,k9,hg⟩:=h.aX.opened k hk;obtain⟨d1,d2,d3⟩:=e2.mD (S:=S.ext (1+(p+f+o))) hk (hD i hi);rcases d3 with d3 | d3
  ·exact absurd d3 (CC k hk i)
  ·rw[k3] at d3;have hrun:=h.aX.run;unfold HS.fits at hf;exact⟨by omega,d3⟩
theorem make_hp (h:ak hb m rb (S.ext (1+(p+f+o))) T R) (hg:S.Good) (hR:At R w) (hT:ax w) (hN:aD R) (hok:Hd.Ok p f o) (hf:S.fits (1+(p+f+o))) (hs:∀k,S.bX=some k->S.gC (1+(p+f+o))):
  WA 53 #[.iface 92 (.pointer (some ⟨m,0,none⟩)),S.top,Hd.hv p f o] w λe w'=>e= .returned Wy/\∃R',ak hb m rb (S.CF p f o) T R'/\ag R R' w w':=by
 obtain⟨en,dX,run,cy,Rr,Rx,hr,hM,rfl⟩:=h;have hrun:=hg.aX.run;have sx:=hg.aX.top;obtain⟨p1,p2,p3⟩:=hg.CF hok hf hs;obtain⟨t,Rm,Rc,rfl,ht,hm,xR⟩:=hM.mem p2;have D0:=(ag.refl hR).perm (R':=Rm++((hb,bK (S.ext (1+(p+f+o))).c m rb run cy (S.ext (1+(p+f+o))).ae (S.ext (1+(p+f+o))).af)::(run,bF m (S.ext (1+(p+f+o))).aa (S.ext (1+(p+f+o))).top ((S.ext (1+(p+f+o))).aa+(S.ext (1+(p+f+o))).c.words))::(Rr++Rc))) aF;unfold HS.fits at hf;refine (make_w (p:=cF m) (P:=bT m S.c.mw S.c.page S.c.room t) (z:=(S.ext (1+(p+f+o))).v) (Rx:=Rm) (a:=S.top) eQ memSp_dom p f o hok (by omega) (λi hi=>⟨p3 i hi,by have:=hg.aX.bG.fX;omega⟩) ⟨hm,p2.tP⟩ hT (aD.sub hN (λx hx=>by simp[hx])) D0.at_.left).kq ?_;rintro w' ⟨bI,hx,d⟩;rw[ym] at hx;have Su:=xR (S.CF p f o) 0 t bI p1 rfl rfl (by omega) hx.1;exact⟨rfl,(hb,bK (S.ext (1+(p+f+o))).c m rb run cy (S.ext (1+(p+f+o))).ae (S.ext (1+(p+f+o))).af)::(run,bF m (S.ext (1+(p+f+o))).aa (S.ext (1+(p+f+o))).top ((S.ext (1+(p+f+o))).aa+(S.ext (1+(p+f+o))).c.words))::(Rr++(bI++Rc)),⟨en,dX,run,cy,Rr,bI++Rc,hr,Su,rfl⟩,(D0.step d).perm aF⟩
theorem ak.due_ (h:ak hb m rb S T R) (hg:S.Good) (hR:At R w):
  WA 55 #[Wz hb] w λe w'=>e= .returned (.bool (S.c.nC (S.top-S.aa)))/\Below w.heap.size w w':=by
 obtain⟨en,dX,run,cy,Rr,Rx,hr,hM,rfl⟩:=h;have hrun:=hg.aX.run;have sx:=hg.aX.top;have GI:=hg.aX.bG.GQ;exact due_c (At.left (A:= [_,_]) hR).1 ⟨sx.1,by omega⟩ GI.2
theorem ak.get_root (h:ak hb m rb S T R) (hR:At R w) (s:Int):
  WA 49 #[Wz rb,s] w λe w'=>e= .returned (.tuple #[(if eF S.rs s then S.rt s else 0:Nat),.int .i64 (if eF S.rs s then 0 else 17)])/\Below w.heap.size w w':=by
 obtain⟨en,dX,run,cy,Rr,Rx,hr,hM,rfl⟩:=h;by_cases hs:eF S.rs s
 ·rw[b9 hs,b9 hs];unfold eF at hs;unfold HS.rt;obtain⟨k,rfl⟩:∃k:Nat,s=k:=⟨s.toNat,by omega⟩
  rw[Int.toNat_natCast];exact qH hr hR.1.tail.tail.left k (by omega)
 ·rw[b_ hs,b_ hs];unfold eF at hs;exact ta hr hR.1.tail.tail.left s (by omega)
theorem xM (h:ak hb m rb S T R) (hg:S.Good) (hR:At R w) (hT:ax w) (hN:aD R) (bJ:T<=400000000000000) (s p f o:Int):
  WA 11 #[Wz hb,s,.agg #[p,f,o]] w λe w'=>e= .returned (.int .i64 (S.m.alloc s p f o).2)/\∃R',ak hb m rb (S.alloc S.c.nC s p f o) (T+30000000000) R'/\ag R R' w w':=by
 have D0:=a_ ((ag.refl hR).box #[p,f,o] 31);have dz:=a_ (h.more (T':=T+30000000000) (by omega));obtain⟨OV,UR, -,bu⟩:=h.cells;have c8:=(bu _ D0.has.tail).1.c8;have c9:=(bu _ D0.has.tail).1.c9;have HN:=a_ (ev (hb:=hb) _ c8);have CM:=a_ (h.get_root D0.at_.tail s);have qT:=a_ (λW=>Hd.cM p f o W);have nc:=a_ (λW=>Hd.iC p f o W);unfold Hd.hv at qT nc;by_cases hs:S.m.slot s
 ·have hok:=(hg.eF s).2 hs;rw[b9 hok,b9 hok] at CM;by_cases ho:Hd.Ok p f o
  ·obtain⟨p,rfl⟩:=Int.eq_ofNat_of_zero_le (show 0<=p by unfold Hd.Ok at ho;omega);obtain⟨f,rfl⟩:=Int.eq_ofNat_of_zero_le (show 0<=f by unfold Hd.Ok at ho;omega);obtain⟨o,rfl⟩:=Int.eq_ofNat_of_zero_le (show 0<=o by unfold Hd.Ok at ho;omega);have CY:1<=1+(p+f+o)/\1+(p+f+o)<=256:=by
    have h2:=ho;unfold Hd.Ok at h2;omega
   rw[show Hd.code p f o=0 from b9 ho] at qT;have hsz:Hd.dH p f o=((1+(p+f+o):Nat):Int):=by
    unfold Hd.dH;rw[b9 ho];omega
   rw[hsz] at nc;obtain⟨r1,r2,r3,r4,r5⟩:=hg.rm (n:=1+(p+f+o));have hC:=hg.yB;have LO:(S.m.alloc s p f o)=if S.m.aq+(1+(p+f+o))<=S.m.C then ((S.m.new p f o).ic s.toNat (S.m.L.length+1),0) else (S.m,21):=by
    unfold MH.alloc;rw[b9 hs,b9 ho];have e:(1+((p:Int)+f+o)).toNat=1+(p+f+o):=by omega
    rw[e,Int.toNat_natCast,Int.toNat_natCast,Int.toNat_natCast]
   have hal:S.alloc S.c.nC s p f o=if (S.rm (1+(p+f+o))).fits (1+(p+f+o)) then (if S.c.kind=1/\((S.rm (1+(p+f+o))).pK s.toNat p f o).bX=none/\S.c.nC (((S.rm (1+(p+f+o))).pK s.toNat p f o).top-((S.rm (1+(p+f+o))).pK s.toNat p f o).aa)=true then ((S.rm (1+(p+f+o))).pK s.toNat p f o).open else (S.rm (1+(p+f+o))).pK s.toNat p f o) else S.rm (1+(p+f+o)):=by
    unfold HS.alloc;rw[b9 ⟨hs,ho⟩];have e:(1+((p:Int)+f+o)).toNat=1+(p+f+o):=by omega
    rw[e,Int.toNat_natCast,Int.toNat_natCast,Int.toNat_natCast]
   have Po:=a_ (D0.perm (R':=R++ [(w.heap.size,.cells #[p,f,o] 31 (0,0))]) aF);have RF:=a_ (λW (hd:ag R (R++ [(w.heap.size,.cells #[p,f,o] 31 (0,0))]) w W)=>room_h (w:=W) h hg hd.at_.left (hd.tz hT hN) (aD.app.1 (hd.cK hT hN)).1 (by omega) CY);have xh:=a_ (λR2 W (h:Has (R2++ [(w.heap.size,.cells #[p,f,o] 31 (0,0))]) W)=>(show W.cell? ⟨w.heap.size,0,none⟩=some (.int .i64 p)/\W.cell? ⟨w.heap.size,1,none⟩=some (.int .i64 f)/\W.cell? ⟨w.heap.size,2,none⟩=some (.int .i64 o) from⟨an h.right.head 0 _ rfl,an h.right.head 1 _ rfl,an h.right.head 2 _ rfl⟩));by_cases hfit:(S.rm (1+(p+f+o))).fits (1+(p+f+o))
   ·have hle:S.m.aq+(1+(p+f+o))<=S.m.C:=by rw[hC.2];exact r4.1 hfit
    rw[b9 hle] at LO;rw[b9 hfit] at hal;have hsl:s.toNat<(S.rm (1+(p+f+o))).c.bV:=by
     rw[r3,←hC.1];unfold eF at hok;omega
    have Ma:s=(s.toNat:Nat):=by unfold eF at hok;omega
    obtain⟨m1,m2,m3⟩:=r1.pK (s:=s.toNat) ho hfit r5 hsl;obtain⟨w1,w2,w3⟩:=r1.CF ho hfit r5;have Cz:s.toNat<((S.rm (1+(p+f+o))).CF p f o).rs.length:=by
     show s.toNat<(S.rm (1+(p+f+o))).rs.length
     rw[r1.yB.1];exact hsl
    have VG:=HS.mkO_eq (S.rm (1+(p+f+o))) s.toNat p f o;have hct:((S.rm (1+(p+f+o))).ext (1+(p+f+o))).c=S.c:=r3;have Gq:((S.rm (1+(p+f+o))).pK s.toNat p f o).c=S.c:=r3;rw[LO,hal];obtain⟨T2,lT⟩:∃T2,T+20000000000=T2:=⟨_,rfl⟩
    have MD:=a_ (λW (hd:ag R (R++ [(w.heap.size,.cells #[p,f,o] 31 (0,0))]) w W)=>(show WA 51 #[Wz hb,(1+(p+f+o):Nat)] W λe w'=>∃R',ag R R' W w'/\e= .returned (.tuple #[.int .i64 (S.rm (1+(p+f+o))).top,Wy])/\ak hb m rb ((S.rm (1+(p+f+o))).ext (1+(p+f+o))) T2 R' from by
     refine (RF W hd).mono ?_;rintro e w' ⟨R',d,⟨-,a,b⟩ | ⟨a, -, -⟩⟩
     ·exact⟨R',d,a,lT▸b⟩
     ·exact absurd hfit a))
    have TN:=a_ (λR2 K W (hx:ak hb m rb ((S.rm (1+(p+f+o))).ext (1+(p+f+o))) T2 R2) (hd:ag R (R2++K) w W)=>(show WA 53 #[.iface 92 (.pointer (some ⟨m,0,none⟩)),.int .i64 (S.rm (1+(p+f+o))).top,.agg #[p,f,o]] W λe w'=>e= .returned Wy/\∃R',ak hb m rb ((S.rm (1+(p+f+o))).CF p f o) T2 R'/\ag R2 R' W w' from make_hp hx r1 hd.at_.left (hd.tz hT hN) (aD.app.1 (hd.cK hT hN)).1 ho hfit r5));have oS:=a_ (λR2 W (hx:ak hb m rb ((S.rm (1+(p+f+o))).CF p f o) T2 R2) (hA:At R2 W)=>(show WA 54 #[Wz rb,s,.int .i64 (S.rm (1+(p+f+o))).top] W λe w'=>e= .returned Wy/\∃R',ak hb m rb ((S.rm (1+(p+f+o))).pK s.toNat p f o) T2 R'/\ag R2 R' W w' from by
     rw[VG];have:=hx.yE hA Cz (v:=(S.rm (1+(p+f+o))).top) (((S.rm (1+(p+f+o))).m.new p f o).ic s.toNat ((S.rm (1+(p+f+o))).m.L.length+1));rw[←Ma] at this;exact this))
    have HC3:=a_ (λR2 W (hx:ak hb m rb ((S.rm (1+(p+f+o))).ext (1+(p+f+o))) T2 R2) (hA:Has R2 W)=>(show W.cell? ⟨hb,8,none⟩=some (.pointer (some ⟨m,0,none⟩)) from by
     obtain⟨r,c, -,hh⟩:=hx.cells;exact (hh W hA).1.c8))
    have HC3b:=a_ (λR2 W (hx:ak hb m rb ((S.rm (1+(p+f+o))).CF p f o) T2 R2) (hA:Has R2 W)=>(show W.cell? ⟨hb,8,none⟩=some (.pointer (some ⟨m,0,none⟩)) from by
     obtain⟨r,c, -,hh⟩:=hx.cells;exact (hh W hA).1.c8))
    have HC4:=a_ (λR2 W (hx:ak hb m rb ((S.rm (1+(p+f+o))).CF p f o) T2 R2) (hA:Has R2 W)=>hx.c9 hA);have TE:=a_ (λR2 W (hx:ak hb m rb ((S.rm (1+(p+f+o))).pK s.toNat p f o) T2 R2) (hA:At R2 W)=>Gq▸hx.due_ m2 hA);have vr:=a_ (λR2 K W (hx:ak hb m rb ((S.rm (1+(p+f+o))).pK s.toNat p f o) T2 R2) (hd:ag R (R2++K) w W) (hk:((S.rm (1+(p+f+o))).pK s.toNat p f o).bX=none) (h1:S.c.kind=1)=>(show WA 56 #[Wz hb] W λe w'=>e= .returned (.tuple #[])/\∃R',ak hb m rb ((S.rm (1+(p+f+o))).pK s.toNat p f o).open (T+30000000000) R'/\ag R2 R' W w' from by
     refine (Ak hx m2 hk (by rw[Gq];exact h1) hd.at_.left (hd.tz hT hN) (aD.app.1 (hd.cK hT hN)).1 (by omega)).kq ?_;rintro w' ⟨R',x,d⟩;exact⟨rfl,R',x.more (by omega),d⟩))
    have QS:=a_ (λR2 (hx:ak hb m rb ((S.rm (1+(p+f+o))).pK s.toNat p f o) T2 R2)=>hx.cells);obtain⟨MJ,Hct4⟩:=aO lT Gq;generalize (S.rm (1+(p+f+o))).pK s.toNat p f o=S4 at *;generalize (S.rm (1+(p+f+o))).CF p f o=S3 at *;generalize (S.rm (1+(p+f+o))).ext (1+(p+f+o))=S2 at *;generalize (S.rm (1+(p+f+o))).top=tp at *;obtain⟨Sf,Kk⟩:∃Sf,(if S.c.kind=1/\S4.bX=none/\S.c.nC (S4.top-S4.aa)=true then S4.open else S4)=Sf:=⟨_,rfl⟩
    rw[Kk];have FZ:=a_ Kk;clear h hg hR hT hN bJ bu hs hok ho LO hal hsz r1 r2 r3 r4 r5 hC RF hfit hle hsl Ma m1 m2 m3 w1 w2 w3 Cz VG hct Gq lT Kk;generalize 1+(p+f+o)=n at *;obtain⟨b0,b1,b2⟩:=xh _ _ Po.has;go_enter func11,ntmps11
    go_upto_region 12 with (first
     | (go_at_call 48;refine HN.kq ?_;rintro w1 rfl)
     | (go_at_call 49;refine CM.kq ?_;rintro w2 dw;have D2:=a_ (Po.grow dw);obtain⟨b0,b1,b2⟩:=xh _ _ D2.has;clear dw)
     | (go_at_call 50;refine (qT _).kq ?_;rintro w3 qX;have D3:=a_ (D2.grow qX);obtain⟨b0,b1,b2⟩:=xh _ _ D3.has;clear qX)
     | (go_at_call 52;refine (nc _).kq ?_;rintro w4 hb4;have D4:=a_ (D3.grow hb4);clear hb4)
     | (go_at_call 51;refine (MD _ D4).mono ?_;rintro e w5 ⟨R5,d5,rfl,x5⟩;have X5:=a_ x5;have D5:=a_ (D4.step d5);clear x5 d5))
    clear b0 b1 b2 c8 c9 MD HN CM qT nc;obtain⟨b0,b1,b2⟩:=xh _ _ (D5.perm (R':=R5++ [(w.heap.size,.cells #[p,f,o] 31 (0,0))]) (.refl _)).has;have c8:=HC3 _ _ X5 D5.has.left
    go_region_held3 (λW=>W.cell? ⟨hb,8,none⟩=some (.pointer (some ⟨m,0,none⟩))/\W.cell? ⟨w.heap.size,0,none⟩=some (.int .i64 p)/\W.cell? ⟨w.heap.size,1,none⟩=some (.int .i64 f)/\W.cell? ⟨w.heap.size,2,none⟩=some (.int .i64 o)) (first | exact⟨c8,b0,b1,b2⟩ | exact⟨d8,d0,d1,d2⟩ | go_keep) ((first
     | (go_at_call 53;refine (TN _ _ _ X5 (D5.grow (ay _))).kq ?_;rintro w6 ⟨R6,x6,d6⟩;have X6:=a_ x6;have D6:=a_ ((D5.grow (ay _)).step d6);have d8:=HC3b _ _ X6 D6.has.left;obtain⟨d0,d1,d2⟩:=xh _ _ D6.has;clear x6 d6)))
    clear b0 b1 b2 c8;have c9:=HC4 _ _ X6 D6.has.left
    go_upto_region 14 with (go_at_call 54;refine (oS _ _ X6 D6.at_.left).kq ?_;rintro w7 ⟨R7,x7,d7⟩;have X7:=a_ x7;have D7:=a_ (D6.step d7);clear x7 d7)
    clear c9 d8 d0 d1 d2;obtain⟨run7,PN,xT,SE⟩:=QS _ X7;have c0:=(SE _ D7.has.left).1.c0;have cC:=(SE _ D7.has.left).1.cC;rw[Hct4.out] at c0;have FQ:=a_ (TE _ _ X7 D7.at_.left);clear SE TE;by_cases h1:S.c.kind=1
    ·rw[h1] at c0
     cases hk:S4.bX with
     | none=>
      rw[hk] at xT;obtain rfl:PN=none:=by cases PN with
       | none=>rfl
       | some c=>cases xT
      have pa:w7.cell? ⟨hb,11,none⟩=some (.pointer none):=cC;have HOP2:=a_ (λW (hd:ag R (R7++ [(w.heap.size,.cells #[p,f,o] 31 (0,0))]) w W)=>vr _ _ W X7 hd hk h1)
      cases hd:S.c.nC (S4.top-S4.aa) with
      | true=>
       rw[hd] at FQ;have E:=a_ (show S4.open=Sf from (b9 ⟨h1,hk,hd⟩).symm.trans FZ);clear cC hd hk h1 xT vr
       go_wp2_with (first
        | (go_at_call 55;refine FQ.kq ?_;rintro w8 CV;have Pt:=a_ CV;clear CV)
        | (go_at_call 56;refine (HOP2 _ (D7.grow Pt)).kq ?_;rintro w9 ⟨R9,x9,d9⟩;have X9:=a_ x9;have D9:=a_ ((D7.grow Pt).step d9);clear x9 d9))
       go_ret;exact⟨rfl,R9,E.out▸X9.out,D9.bN⟩
      | false=>
       rw[hd] at FQ;have E:=a_ (show S4=Sf from (b_ (λq=>by rw[hd] at q;cases q.2.2)).symm.trans FZ);clear cC hd hk h1 xT vr
       go_wp2_with (go_at_call 55;refine FQ.kq ?_;rintro w8 CV;have Pt:=a_ CV;clear CV)
       go_ret;exact⟨rfl,R7,E.out▸X7.more (by have:=MJ.out;omega),(D7.grow Pt).bN⟩
     | some k=>
      rw[hk] at xT;obtain⟨cb,rfl⟩:∃cb,PN=some cb:=by cases PN with
       | none=>cases xT
       | some c=>exact⟨c,rfl⟩
      have pa:w7.cell? ⟨hb,11,none⟩=some (.pointer (some ⟨cb,0,none⟩)):=cC;have E:=a_ (show S4=Sf from (b_ (λq=>by rw[hk] at q;cases q.2.1)).symm.trans FZ);clear cC hk h1 xT vr;go_wp2;go_ret;exact⟨rfl,R7,E.out▸X7.more (by have:=MJ.out;omega),D7.bN⟩
    ·have E:=a_ (show S4=Sf from (b_ (λq=>h1 q.1)).symm.trans FZ);have g1:((S.c.kind:Int)==1)=false:=by rw[beq_eq_false_iff_ne];omega
     have g2:¬(S.c.kind:Int)=1:=by omega
     clear cC h1 xT vr;go_wp2;go_ret;exact⟨rfl,R7,E.out▸X7.more (by have:=MJ.out;omega),D7.bN⟩
   ·have hle:¬S.m.aq+(1+(p+f+o))<=S.m.C:=by rw[hC.2];exact λz=>hfit (r4.2 z)
    rw[b_ hle] at LO;rw[b_ hfit] at hal;rw[LO,hal];have Hfit:=a_ hfit;clear h hg hR hT hN bJ bu hs hok ho LO hal hsz r1 r2 r3 r4 r5 hC hfit hle;generalize hSr:S.rm (1+(p+f+o))=S1 at *;clear hSr;generalize 1+(p+f+o)=n at *;obtain⟨b0,b1,b2⟩:=xh _ _ Po.has;go_enter func11,ntmps11
    go_wp2_with (first
     | (go_at_call 48;refine HN.kq ?_;rintro w1 rfl)
     | (go_at_call 49;refine CM.kq ?_;rintro w2 dw;have D2:=a_ (Po.grow dw);obtain⟨b0,b1,b2⟩:=xh _ _ D2.has;clear dw)
     | (go_at_call 50;refine (qT _).kq ?_;rintro w3 qX;have D3:=a_ (D2.grow qX);obtain⟨b0,b1,b2⟩:=xh _ _ D3.has;clear qX)
     | (go_at_call 52;refine (nc _).kq ?_;rintro w4 hb4;have D4:=a_ (D3.grow hb4);clear hb4)
     | (go_at_call 51;refine (RF _ D4).mono ?_;rintro e w5 ⟨R5,d5,⟨a, -, -⟩ | ⟨-,rfl,x5⟩⟩;(exact absurd a Hfit.out);have X5:=a_ x5;have D5:=a_ (D4.step d5);clear x5 d5))
    go_ret;exact⟨rfl,R5,X5.more (by omega),D5.bN⟩
  ·have e1:(S.m.alloc s p f o).2=15:=by
    unfold MH.alloc;rw[b9 hs,b_ ho]
   have e2:S.alloc S.c.nC s p f o=S:=by
    unfold HS.alloc;rw[b_ (λq=>ho q.2)]
   rw[e1,e2];rw[show Hd.code p f o=15 from b_ ho] at qT;clear h hg hR hT hN bJ bu hs hok ho e1 e2 nc;have q:=D0.has.head;obtain⟨b0,b1,b2, -⟩:=ft q;clear q;go_enter func11,ntmps11
   go_wp2_with (first
    | (go_at_call 48;refine HN.kq ?_;rintro w1 rfl)
    | (go_at_call 49;refine CM.kq ?_;rintro w2 dw;have D2:=a_ (D0.grow dw);have q:=D2.has.head;have b0:=an q 0 (.int .i64 p) rfl;have b1:=an q 1 (.int .i64 f) rfl;have b2:=an q 2 (.int .i64 o) rfl;clear dw q)
    | (go_at_call 50;refine (qT _).kq ?_;rintro w3 qX;have D3:=a_ (D2.grow qX);clear qX))
   go_ret;exact⟨rfl,R,dz,D3.tail⟩
 ·have hok:¬eF S.rs s:=λq=>hs ((hg.eF s).1 q)
  rw[b_ hok,b_ hok] at CM;have e1:(S.m.alloc s p f o).2=17:=by
   unfold MH.alloc;rw[b_ hs]
  have e2:S.alloc S.c.nC s p f o=S:=by
   unfold HS.alloc;rw[b_ (λq=>hs q.1)]
  rw[e1,e2];clear h hg hR hT hN bJ bu hs hok e1 e2 nc qT;go_enter func11,ntmps11
  go_wp2_with (first
   | (go_at_call 48;refine HN.kq ?_;rintro w1 rfl)
   | (go_at_call 49;refine CM.kq ?_;rintro w2 dw;have D2:=a_ (D0.grow dw);clear dw))
  go_ret;exact⟨rfl,R,dz,D2.tail⟩
end
end
end Go.Proofs.YtmdgfpeglgpiiaaGreatDoor

import Derived.Test.YtmdgfpeglgpiiaaGreatDoorB07
set_option linter.unusedVariables false
set_option linter.unusedSimpArgs false
set_option maxRecDepth 100000
set_option maxHeartbeats 16000000
namespace Go.Proofs.YtmdgfpeglgpiiaaGreatDoor
open Go.ChangeShapes Go.WideShapes Go.ChangeAt Go.RowKit Go.Maps Go.Sort
open Vq Oq Go.Proofs.Tryz
section
attribute [local go_sem] Oper.semAt_some
section
variable {cb m top T0 a x:Nat} {y:aJ} {g0:Nat->Nat} {mv:Nat->Bool} {s:ml} {R:BL} {w w':World}
theorem iM.c0 (h:iM cb m y g0 top T0 s R) (hR:At R w):w.cell? ⟨cb,0,none⟩=some (.pointer (some ⟨m,0,none⟩)):=by
 obtain⟨pb,ob,vb,sb,Rp,Ro,ns,ms,os,hx, -⟩:=h.cells hR;exact hx.c0
theorem iM.Bw (h:iM cb m y g0 top T0 s R) (hR:At R w) (a:Nat):WA 258 #[Wz m,(a:Nat)] w λe w'=>e= .returned (.tuple #[.int .u64 (eU y.words y.page s.v a),(ga y.words y.page s.v a:Int)])/\Below w.heap.size w w':=by
 obtain⟨t,Rm,Rc,rfl,hm,ht,hc,hgd,hw⟩:=h;exact jN hm hR.1.left a
theorem iM.wordx (h:iM cb m y g0 top T0 s R) (hR:At R w) {j:Nat} (hj:j<y.aq):
  WA 281 #[Wz cb,(y.bw j:Nat),(qS y.E (y.bw j):Nat),.agg (El (y.g (qS y.E (y.bw j))))] w λe w'=>e= .returned (WB (y.jx s.v j))/\Below w.heap.size w w':=by
 have ey:=h.jn;obtain⟨t,Rm,Rc,rfl,hm,ht,hc,hgd,hw⟩:=h;have hb:=fy y hj;have hs:=oq hb.2.1;exact Ft (y.bw j) (qS y.E (y.bw j)) hc hm hR.right hR.1.left (by omega) (by omega) (hw.load _)
theorem cload_x (h:iM cb m y g0 top T0 s R) (zt:T0<=900000000000000) (hR:At R w) (hT:ax w) (hg:aD R) (ha:a<=1048576) (h1:y.c.to<=a) (h2:a<y.c.aT) (h3:y.waits s.mv a\/s.v.mp (a/y.page)=true):
  WA 360 #[Wz cb,(a:Nat)] w λe w'=>e= .returned (.tuple #[WB (y.ba g0 s a),Wy])/\∃R',iM cb m y g0 top T0 (y.bO s a) R'/\ag R R' w w':=by
 obtain⟨l1,l2⟩:=h.jh.load h1 h2 h3;have CN:=a_ (BS h zt hR hT hg ha);have Jw:=a_ (λR1 W (h:iM cb m y g0 top T0 (y.bO s a) R1) (hR:At R1 W)=>(show WA 258 #[Wz m,(a:Nat)] W λe w'=>e= .returned (.tuple #[WB (y.ba g0 s a),Wy])/\Below W.heap.size W w' from by
  have:=h.Bw hR a;rw[l1,l2] at this;exact this))
 have HC:=a_ (λR1 W (h:iM cb m y g0 top T0 (y.bO s a) R1) (hR:At R1 W)=>h.c0 hR);generalize y.ba g0 s a=z at *;generalize y.bO s a=s1 at *;clear h hR hT hg l1 l2 h1 h2 h3;go_enter func360,ntmps360
 go_wp2_with (first | (go_at_call 362;refine CN.kq ?_;rintro w1 ⟨R1,x1,d1⟩;have c0:=HC R1 w1 x1 d1.at_;have HML1:=a_ (Jw R1 w1 x1 d1.at_);have X1:=a_ x1;have D1:=a_ d1;clear x1 d1) | (go_at_call 258;refine HML1.kq ?_;rintro w2 hb;have D2:=a_ (D1.grow hb);clear hb))
 go_ret2
 exact⟨rfl,R1,X1,D2⟩
theorem cstore_x (h:iM cb m y g0 top T0 s R) (zt:T0<=900000000000000) (hR:At R w) (hT:ax w) (hg:aD R) (ha:a<=1048576) (h1:y.c.to<=a) (h2:a<y.c.aT) (h3:y.waits s.mv a\/s.v.mp (a/y.page)=true) (hx:x<18446744073709551616):
  WA 361 #[Wz cb,(a:Nat),WB x] w λe w'=>e= .returned Wy/\∃R',iM cb m y g0 top T0 ⟨fB (y.bO s a).v a x,(y.bO s a).mv⟩ R'/\ag R R' w w':=by
 have hgd:=h.jh;obtain⟨t1,t2⟩:=hgd.bO a;have hm:=((t1.ba a h1 h2 h3).2).resolve_left t2;have ey:=hgd.ok.jn;have hE:=(hgd.ok.mD (a:=a) (by omega) hm).1;obtain⟨g1, -, -⟩:=t1.jh.store h1 h2 t2 hm x;have e:du y.words y.page (y.bO s a).v a x=fB (y.bO s a).v a x:=by
  unfold du;rw[b9 hE];rfl
 rw[e] at g1;have CN:=a_ (BS h zt hR hT hg ha);have HMS:=a_ (λR1 W (h:iM cb m y g0 top T0 (y.bO s a) R1) (hR:At R1 W)=>(show WA 259 #[Wz m,(a:Nat),WB x] W λe w'=>e= .returned Wy/\∃R',iM cb m y g0 top T0 ⟨fB (y.bO s a).v a x,(y.bO s a).mv⟩ R'/\ag R1 R' W w' from by
  obtain⟨t,Rm,Rc,rfl,hm,ht,hc, -,hw⟩:=h;have:=la hm hR.left (a:Nat) x hx;rw[hE,e] at this;refine this.kq ?_;rintro w2 ⟨JN,m2,d2⟩;exact⟨rfl,_,⟨t,JN,Rc,rfl,m2,ht,hc,g1,hw.put a hx⟩,ag.frame hR d2⟩))
 have HC:=a_ (λR1 W (h:iM cb m y g0 top T0 (y.bO s a) R1) (hR:At R1 W)=>h.c0 hR);generalize (⟨fB (y.bO s a).v a x,(y.bO s a).mv⟩:ml)=s2 at *;generalize y.bO s a=s1 at *;clear h hR hT hg h1 h2 h3 t1 t2 hm hE g1 e ey hgd;go_enter func361,ntmps361
 go_wp2_with (first | (go_at_call 362;refine CN.kq ?_;rintro w1 ⟨R1,x1,d1⟩;have c0:=HC R1 w1 x1 d1.at_;have HMS1:=a_ (HMS R1 w1 x1 d1.at_);have D1:=a_ d1;clear x1 d1) | (go_at_call 259;refine HMS1.kq ?_;rintro w2 ⟨R2,x2,d2⟩;have X2:=a_ x2;have D2:=a_ (D1.trans d2);clear x2 d2))
 go_ret;exact⟨rfl,R2,X2,D2⟩
theorem peek_x (h:iM cb m y g0 top T0 s R) (hR:At R w) (hT:ax w) (ha:a<=1048576) (h1:y.c.to<=a) (h2:a<y.c.aT) (h3:y.waits s.mv a\/s.v.mp (a/y.page)=true):
  WA 366 #[Wz cb,(a:Nat)] w λe w'=>e= .returned (.tuple #[WB (y.ba g0 s a),Wy])/\Below w.heap.size w w':=by
 have ey:=h.jn;have hgd:=h.jh;have hlv:bB y.E y.words=y.aq:=rfl;obtain⟨p1,p2⟩:=hgd.EY h1 h2 h3;rw[←p2];unfold aJ.EZ at p1;unfold aJ.EY;have ks:=h.c0 hR;have Jw:=a_ (λW (hb:Below w.heap.size w W)=>h.Bw (hR.grow hb) a);have en:=h;obtain⟨pb,ob,vb,sb,Rp,Ro,ns,ms,os,hx,kj,sd,ho,PU,zx,hos,lU⟩:=h.cells hR;have c8:=hx.c8;have dW:=hx.dW;by_cases hw:y.waits s.mv a
 ·rw[b9 hw];clear p1 p2 Jw;obtain⟨b1,b2⟩:=aJ.lO hgd.ok hw;have nP:=hw.2.2;obtain⟨j,rfl⟩:∃j,a=y.c.to+j:=⟨a-y.c.to,by omega⟩
  rw[Nat.add_sub_cancel_left] at *;have hrow:=hx.row _ b2;rw[nP] at hrow;have c9:=hx.c9;have PL:=hx.PL;have HB:=a_ (jU (w:=w) j kj sd hT b1);obtain⟨fb,Rf,hf, -,Iz, -⟩:=og kj sd;have Px:=a_ (λW (hb:Below w.heap.size w W)=>og (w:=W) kj (sd.grow hb));have mT:=a_ (λfb Rf W (hf:gO fb y.words y.c.block y.E y.c.to Rf) (hR:At Rf W) (hT:ax W)=>pA (w:=W) j hf hR hT b1);have zu:=fy y b1;have VW:=oq zu.2.1;have qL:=a_ (λW (hb:Below w.heap.size w W)=>py (w:=W) (y.bw j) (qS y.E (y.bw j)) ho (PU.grow hb) (hT.grow hb) VW);have hk:((j/y.c.block:Nat):Int)<y.nb:=by omega
  have Un:=a_ (λW (hb:Below w.heap.size w W)=>h.wordx (w:=W) (hR.grow hb) b1);have Ve:y.E (qS y.E (y.bw j))≠0:=by omega
  have PB:=a_ (λW (hb:Below w.heap.size w W)=>(show (Instr.lookup 217 (.map (some sb)) (.int .i64 (qS y.E (y.bw j):Nat)) false).run prog W= .ok (.agg (El (y.g (qS y.E (y.bw j))))) W from by
   have:=zx.look (w:=W) (b:=sb) (f:=((qS y.E (y.bw j):Nat):Int)) (t:=217) (e:=31) (by kernel_rfl) (zk W) (cQ hb (Nat.le_refl _) hos) (by unfold Ds;omega);rw[lU _ Ve] at this;exact this))
  have hbj:y.bw j<=1048576:=by omega
  have hsj:qS y.E (y.bw j)<=1048576:=by omega
  have e:((y.c.to+j:Nat):Int)=(y.c.to:Int)+j:=by omega
  rw[e];have zo:=a_ (λW (hb:Below w.heap.size w W)=>hT.grow hb);obtain⟨C9,C15,C8,FO,Ud⟩:=Es c9 PL c8 dW hrow;rw[show vD y.E y.words j=y.bw j from rfl] at mT;obtain⟨k,CX⟩:∃k,j/y.c.block=k:=⟨_,rfl⟩
  rw[CX] at HB Ud hk hrow;unfold El at Un PB;generalize y.jx s.v j=wd at *;generalize y.E (qS y.E (y.bw j))=zz at *;generalize qS y.E (y.bw j)=ss at *;generalize y.bw j=bb at *;clear h hR hT hx kj sd ho PU zx hos lU hgd en ks hw nP CX Ve VW zu hf Iz e c9 PL hrow;go_enter func366,ntmps366
  go_wp2_with (first
   | (go_at_call 363;refine HB.kq ?_;rintro w1 hb;have r1:=bA hb (Nat.le_refl _) Ud;have r2:=bA hb (Nat.le_refl _) FO;have r8:=bA hb (Nat.le_refl _) C8;have B1:=a_ hb;clear hb c8 dW)
   | (go_at_call 217;obtain⟨fb2,Rf2,Qf, -,NK,IB⟩:=Px _ B1;refine IB.kq ?_;rintro w2 rfl;have HFR1:=a_ (mT fb2 Rf2 _ Qf NK (zo _ B1));clear Qf NK IB)
   | (go_at_call 314;refine HFR1.kq ?_;rintro w3 hb;have B3:=a_ (seq B1 hb);clear hb r1 r2 r8;have r9:=bA B3 (Nat.le_refl _) C9;have Wr:=bA B3 (Nat.le_refl _) C15;have HFI3:=a_ (qL _ B3);have IL:=PB _ B3)
   | (go_at_call 280;refine HFI3.kq ?_;rintro w4 rfl)
   | (go_at_call 281;refine (Un _ B3).kq ?_;rintro w5 hb;have B5:=a_ (seq B3 hb);clear hb))
  go_ret2
  exact⟨rfl,B5⟩
 ·rw[b_ hw];rw[b_ hw] at p1;rw[p1] at Jw;have C0:=a_ ks;clear ks;generalize eU y.words y.page s.v a=zv at *;by_cases hin:y.c.to<=a/\a<y.c.to+y.aq
  ·obtain⟨j,rfl⟩:∃j,a=y.c.to+j:=⟨a-y.c.to,by omega⟩
   have hB:=jU (w:=w) j kj sd hT (by rw[hlv];omega);have hk:j/y.c.block<y.nb:=hgd.ok.OQ (by omega);have Oj:s.mv (j/y.c.block)=true:=by
    cases hm:s.mv (j/y.c.block) with
    | true=>rfl
    | false=>
     refine absurd ⟨by omega,by rw[hlv];omega,?_⟩ hw;rw[Nat.add_sub_cancel_left];exact hm
   have hrow:=hx.row _ hk;rw[Oj] at hrow;have k1:((j/y.c.block:Nat):Int)<y.nb:=by omega
   have e:((y.c.to+j:Nat):Int)=(y.c.to:Int)+j:=by omega
   rw[e] at Jw ⊢;obtain⟨k,CX⟩:∃k,j/y.c.block=k:=⟨_,rfl⟩
   rw[CX] at hB hrow k1 hk;have HB:=a_ hB;clear h hR hT hw hx kj sd hgd hlv hin hB Oj e CX ho PU zx hos lU en p1 p2;generalize y.nb=nb at *;go_enter func366,ntmps366
   go_wp2_with (first | (go_at_call 363;refine HB.kq ?_;rintro w1 hb;have r1:=bA hb (Nat.le_refl _) hrow;have r2:=bA hb (Nat.le_refl _) dW;have r0:=bA hb (Nat.le_refl _) C0;have B1:=a_ hb;clear hb) | (go_at_call 258;refine (Jw _ B1).kq ?_;rintro w2 hb;have B2:=a_ (seq B1 hb);clear hb))
   go_ret2
   exact⟨rfl,B2⟩
  ·have HB:=a_ (uU (w:=w) (a:Int) kj sd (by rw[hlv];omega));clear h hR hT hw hx kj sd hgd hlv hin ho PU zx hos lU en p1 p2;go_enter func366,ntmps366
   go_wp2_with (first | (go_at_call 363;refine HB.kq ?_;rintro w1 hb;have r0:=bA hb (Nat.le_refl _) C0;have B1:=a_ hb;clear hb) | (go_at_call 258;refine (Jw _ B1).kq ?_;rintro w2 hb;have B2:=a_ (seq B1 hb);clear hb))
   go_ret2
   exact⟨rfl,B2⟩
end
end
end Go.Proofs.YtmdgfpeglgpiiaaGreatDoor

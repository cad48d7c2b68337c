import Derived.Test.YtmdgfpeglgpiiaaGreatDoorB12
import Derived.Deep.Cut
set_option linter.all false
set_option maxRecDepth 100000
set_option maxHeartbeats 16000000
namespace Go.Proofs.YtmdgfpeglgpiiaaGreatDoor
open Go.ChangeShapes Go.WideShapes Go.ChangeAt Go.RowKit Go.Maps Go.Sort
open Vq Oq Go.Proofs.Tryz
section
attribute [local go_sem] Oper.semAt_some
section
variable {A A' K:BL} {w w':World}
def ag.same {F:BL} (h:ag (A++F) (A'++F) w w') (h0:Has (A++F) w):ag A A' w w':=
 ⟨⟨h.kD.1,h.kD.2.1,h.kD.2.2.1,h.kD.size,λk hk hn=>by
   rcases Classical.em (Keys F k) with⟨x,hx,rfl⟩ | hF
   ·rw[h.has.right x hx,h0.right x hx]
   ·exact h.kD.2.2.2.2 k hk λq=>(Keys.app.1 q).elim hn hF⟩,h.at_.left,λx hx=>(h.low x (List.mem_append_left _ hx)).imp (λq=>(Keys.app.1 q).elim id λr=>(h.at_.apart ⟨x,hx,rfl⟩ r).elim) id⟩
end
section
variable {m d_ c_ e_ t rb F T S n:Nat} {v:VS} {Rm Rr:BL} {zs:List Nat} {St:Nat->Prop} {w w':World} {y:aJ}
def pack_run (hy:oU y d_ c_ v) (Wg:y.E=aj v.wd zs) (Qx:y.c.to=F) (h:aH m d_ c_ e_ t v Rm) (ht:t<=999000000000000) (hr:dO rb zs Rr) (hw:Whole v.wd St (cR d_ c_ v) d_) (hz:∀a∈zs,a=0\/St a) (hfit:∀a,St a->F<=a/\a+bC (v.wd a)<=T)
  (hF:1<=F/\F<=T/\T<=d_) (Iy:F%c_=0) (hp:Fr.dp c_) (tN:1<=c_) (hS:1<=S/\S<=4096) (fZ:1<=d_/\d_<=1000000) (hn:y.aq=n)
  (hE:dc d_ c_ e_ v (F:Nat) (F+n:Nat)=0) (hV:bH d_ c_ e_ v (F:Nat) (F+n:Nat)=v) (hR:At (Rm++Rr) w) (hT:ax w) (hg:aD (Rm++Rr)):
  WR 86 #[Wz m,Wz rb,F,T,S] w (.tuple #[(F+n:Nat),Wy]) λw'=>∃bI fG,
   aH m d_ c_ e_ (t+d_/c_) (fA (d_/c_) (λq=>decide (F+n<=q*c_)) (F/c_) ((T+c_-1)/c_-F/c_) (y.pk v.wd v n)) bI/\
   dO rb (zs.map λx:Nat=>if x=0 then 0 else y.to x) fG/\ag (Rm++Rr) (bI++fG) w w':=by
 have hlv:bB y.E d_=n:=by rw[←hn,←hy.w];rfl
 have hnw:n<=d_:=by rw[←hlv];exact eE _ _
 have qT:=a_ (λK W (hd:ag (Rm++Rr) (Rm++(Rr++K)) w W)=>check_p (w:=W) h hr hF hS ⟨fZ.1,Nat.le_trans fZ.2 (by decide)⟩ (hd.has.left.app hd.has.right.left));have Fw:=a_ (λK W (hd:ag (Rm++Rr) (Rm++(Rr++K)) w W)=>reached_p (w:=W) h hr hw hz hfit hF.2 hS ⟨fZ.1,Nat.le_trans fZ.2 (by decide)⟩ (hd.perm (R':=(Rm++Rr)++K) aF).at_.left (hd.tz hT hg) hg);rw[←Wg] at Fw;have Px:=a_ (λob Ro K W (O:dg ob d_ y.E Ro) (hd:ag (Rm++Rr) (Ro++K) w W)=>(show WA 173 #[Wz ob,(64:Int),F] W λe w'=>∃b,e= .returned (.tuple #[Wz b,Wy])/\∃R',gO b d_ 64 y.E F R'/\ag Ro (R'++Ro) W w' from
  AT (w:=W) O hd.at_.left (hd.tz hT hg) (aD.app.1 (hd.cK hT hg)).1 ⟨6,by omega,rfl⟩ (by rw[←Qx];exact hy.to)))
 have CO:=a_ (λfb Rf W (hf:gO fb d_ 64 y.E F Rf) (hA:At Rf W)=>(show WR 174 #[Wz fb] W (F+n:Nat) λw'=>Below W.heap.size W w' from by
  have:=kL (w:=W) hf hA;rw[hlv] at this;exact this))
 have Mx:=a_ (λW (hA:At Rm W)=>(show WR 165 #[Wz m,F,(F+n:Nat)] W Wy λw'=>∃R',aH m d_ c_ e_ (t+d_/c_) v R'/\ag Rm R' W w' from by
  have:=rk h hA ht (F:Nat) (F+n:Nat);rw[hE,hV] at this;exact this))
 have D0:=a_ (((ag.refl hR).box #[Wz m] 92).perm (R':=Rm++(Rr++ [(w.heap.size,.cells #[Wz m] 92 (0,0))])) aF);have FW:=a_ (λfb Rf K' Rl x z n0 W (hf:gO fb d_ 64 y.E F Rf) (hA:(Rf.map (·.1)).Nodup) (hs:∀x∈Rf,x∈K') (hd:ag (Rm++Rr) (Rl++K') w W) (hm:aH m d_ c_ e_ (t+d_/c_) (y.pk v.wd v n0) Rl) (hx:y.E x≠0) (Wi:z=y.E x) (Qn:aG (dI y.E) x=n0)=>(show WR 176 #[Wz m,Wz fb,x,(z:Nat)] W (.tuple #[]) λw'=>∃bI,aH m d_ c_ e_ (t+d_/c_) (y.pk v.wd v (n0+z)) bI/\ag Rl bI W w' from by
  have jI:At (Rl++Rf) W:=At.join hd.at_.left ⟨hd.has.right.sub hs,hA⟩ λq ha ⟨u,hu,hk⟩=>hd.at_.apart ha ⟨u,hs u hu,hk⟩
  have VL:=aD.app.1 (hd.cK hT hg);subst Wi;refine (move_p (w:=W) hy hx Qn hm (by rw[Qx];exact hf) jI (hd.tz hT hg) (aD.app.2 ⟨VL.1,fun⟨u,hu,e⟩=>VL.2 ⟨u,hs u hu,e⟩⟩)).kq ?_;rintro w2 ⟨R',x1,d1⟩;exact⟨rfl,R',x1,d1.same jI.1⟩))
 have ug:=a_ (λfb gb Rf W (hf:gO fb d_ 64 y.E F Rf) (hA:At Rf W) (hg:W.cell? ⟨gb,0,none⟩=some (.pointer (some ⟨fb,0,none⟩))) (a:Int)=>run1_p (w:=W) (y:=y) (by rw[Qx];exact hf) hA hg a);obtain⟨HT,Hg,Hr⟩:=dF hT hg hr;have Hn:=a_ (And.intro hlv hnw);clear hy Wg Qx h hr hw hz hfit hE hV hT hg hR hn hlv ht;refine (callsIn_wide (n:=3)).1 ?_;refine callsIn_of_wp_marks func86 rfl trivial ?_ rfl;simp only[ntmps86,List.size_toArray,List.length_cons,List.length_nil,Nat.reduceAdd,Nat.reduceSub,Array.replicate_succ,Array.replicate_zero,List.push_toArray,List.append_toArray,List.nil_append,List.cons_append];refine wpIn_wide.2 ?_
 go_wp2_with (first
  | (go_at_call 171;refine (qT _ _ D0).kq ?_;rintro w1 rfl;have k0:(w.alloc (.cells #[Wz m] 92)).cell? ⟨w.heap.size,0,none⟩=some (.pointer (some ⟨m,0,none⟩)):=an D0.has.right.right.head 0 _ rfl)
  | (go_at_call 172;refine (Fw _ _ D0).mono ?_;rintro e w2 ⟨ob,rfl,Ro,o2,d2⟩;have O2:=a_ o2;have D2:=a_ (D0.bh d2);clear o2 d2)
  | (go_at_call 173;refine (Px ob Ro _ _ O2 D2).mono ?_;rintro e w3 ⟨fb,rfl,Rf,f3,d3⟩;have F3:=a_ f3;have D3:=a_ (D2.step d3);clear f3 d3 k0))
 clear D0 D2 qT Fw Px;have tR:=D3.box #[Wz fb] 251;obtain⟨gb,SL⟩:∃gb,w3.heap.size=gb:=⟨_,rfl⟩
 obtain⟨bm,Kn⟩:∃bm,w.heap.size=bm:=⟨_,rfl⟩
 rw[SL,Kn] at tR;rw[SL,Kn];generalize w3.alloc (.cells #[Wz fb] 251)=w4 at *;have D4:=a_ (tR.perm (R':=Rm++(Rf++(Ro++((gb,.cells #[Wz fb] 251 (0,0))::(Rr++ [(bm,.cells #[Wz m] 92 (0,0))]))))) aF);clear tR D3 SL Kn;have gd:=a_ (λRx W (h:Has (Rx++(Rf++(Ro++((gb,.cells #[Wz fb] 251 (0,0))::(Rr++ [(bm,.cells #[Wz m] 92 (0,0))]))))) W)=>(show W.cell? ⟨bm,0,none⟩=some (.pointer (some ⟨m,0,none⟩))/\W.cell? ⟨gb,0,none⟩=some (.pointer (some ⟨fb,0,none⟩)) from
  ⟨an h.right.right.right.tail.right.head 0 _ rfl,an h.right.right.right.head 0 _ rfl⟩))
 obtain⟨k1,k2⟩:=gd Rm w4 D4.has;refine wp_region_noPanic ?_;refine aP (S:=λW=>W.cell? ⟨bm,0,none⟩=some (.pointer (some ⟨m,0,none⟩))/\W.cell? ⟨gb,0,none⟩=some (.pointer (some ⟨fb,0,none⟩))) (by kernel_rfl) ⟨k1,k2⟩ (λhHeld=>?_);refine aR 0 ?_;refine aR 1 ?_;refine aR 2 ?_;simp only[aI];refine jS 3 (λK hK=>?_);go_simp;refine (CO fb Rf w4.drew F3 D4.drew.at_.right.left).kq ?_;rintro w5 hb;have D5:=a_ (D4.drew.grow hb);clear hb;refine hK _ _ (gd Rm w5 D5.has) (λhHeld=>?_);clear hK K
 try simp only[aI]
 refine jS 4 (λK hK=>?_);go_simp;refine (Mx w5 D5.at_.left).kq ?_;rintro w6 ⟨UK,m6,d6⟩;have M6:=a_ m6;have D6:=a_ (D5.step d6);clear m6 d6;refine hK _ _ (gd UK w6 D6.has) (λhHeld=>?_);clear hK K
 try simp only[aI]
 refine sD 5 (λK hK=>?_);go_simp;refine hK _ _ ?_;clear hK K
 try simp only[aI]
 refine NoPanic.normal ?_;clear k1 k2 hHeld D4 D5 Mx
 go_wp2_with (go_at_call 175;refine (all_mk _ _).kq ?_;rintro w8 rfl)
 have QM:=D6.box #[Wz ob] 215;obtain⟨Bm,rZ⟩:∃Bm,w6.heap.size=Bm:=⟨_,rfl⟩
 simp only[rZ] at QM ⊢;generalize w6.alloc (.cells #[Wz ob] 215)=w8 at *;have D7:=a_ (QM.perm (R':=UK++((Bm,.cells #[Wz ob] 215 (0,0))::(Ro++(Rf++((gb,.cells #[Wz fb] 251 (0,0))::(Rr++ [(bm,.cells #[Wz m] 92 (0,0))])))))) aF);have Qo:=a_ (D6.at_.right.left.2);clear D6 rZ QM;refine (wpIn_wide (n:=3)).1 ?_;have gv:=eM (λ(pre:List (Nat×Nat)) (Rl:BL)=>aH m d_ c_ e_ (t+d_/c_) (y.pk v.wd v (aG (ek pre) d_)) Rl) (Rm++Rr) w HT Hg;refine dC (gf:=254) (lb:= #[.pointer (some ⟨Bm,0,none⟩)]) rfl dS (fL (Bm:=Bm) (T:=215) O2) (λ_=>rfl) ((Bm,.cells #[Wz ob] 215 (0,0))::(Ro++(Rf++((gb,.cells #[Wz fb] 251 (0,0))::(Rr++ [(bm,.cells #[Wz m] 92 (0,0))])))))
  (λx hx=>by
   rcases List.mem_cons.1 hx with rfl | hx
   ·exact List.mem_cons_self ..
   ·exact List.mem_cons_of_mem _ (List.mem_append_left _ hx))
  (λpre K W=>∃Rl:BL,(aH m d_ c_ e_ (t+d_/c_) (y.pk v.wd v (aG (ek pre) d_)) Rl)/\ag (Rm++Rr) (Rl++K) w W) (λc pre K W=>False/\∃Rl:BL,(aH m d_ c_ e_ (t+d_/c_) (y.pk v.wd v (aG (ek pre) d_)) Rl)/\ag (Rm++Rr) (Rl++K) w W) gv (λc=>gv.and _) ⟨_,(by rw[show aG (ek []) d_=0 from dD λi _=>rfl];exact M6),D7.out⟩ ?Nb ?jE ?rG ?rR ?th
 case jE=>
  intro l x W K hK;simp only[gg,eK,List.setIfInBounds_toArray,List.set_cons_zero,List.set_cons_succ]
  gi_wp2
  exact hK
 case rG=>
  clear D7;intro l' pre x post K' W gz hsub hi;obtain⟨e1,e2,e3⟩:=eC O2.ok gz;obtain⟨x,z0⟩:=x;simp only at e1 e2 e3;obtain⟨Rl,hm,hD⟩:=hi;have hcm:=cnt_more O2.ok gz;rw[uj O2.out.ok gz] at hm;have HM:=a_ (FW fb Rf K' Rl x z0 (aG (dI y.E) x) W F3 Qo (λu hu=>hsub u (by simp[hu])) hD hm e2 e1 rfl);rw[←hcm] at HM;have HD:=a_ hD;have k1:=an (hD.has.right.one (hsub (bm,.cells #[Wz m] 92 (0,0)) (by simp))) 0 _ rfl;have k2:=an (hD.has.right.one (hsub (gb,.cells #[Wz fb] 251 (0,0)) (by simp))) 0 _ rfl;clear hm hD e1 e2 e3 gz gv hsub hcm FW CO ug gd
  gi_wp2_with (refine⟨trivial,rfl,?_⟩;gi_at_call 176;refine (CallsIn.inRound l' (callsIn_wide.2 HM)).mono ?_;rintro e w9 ⟨rfl,R9,x9,d9⟩;have X9:=a_ x9;have H9:=a_ (HD.step d9);clear x9 d9)
  exact⟨R9,X9,H9⟩
 case rR=>
  clear D7 gv FW gd M6;intro D W hi;obtain⟨Rl,hm,hD⟩:=hi;rw[cnt_whole O2.out.ok,Hn.out.1] at hm;have H:=a_ hm;have D8:=a_ (hD.perm (R':=Rr++(Rl++((D,.deferred (some []))::(Bm,.cells #[Wz ob] 215 (0,0))::(Ro++(Rf++((gb,.cells #[Wz fb] 251 (0,0)):: [(bm,.cells #[Wz m] 92 (0,0))])))))) aF);clear hm hD;have JF:=a_ (pW (w:=W) (step:=λ(_:Unit) x=>((),y.to x)) (first:= #[]) (caps:= #[.pointer (some ⟨gb,0,none⟩)]) (F:=177) (λargs w=>(by kernel_rfl))
   (I:=λ(_:Unit) Rst=>Rst=(Rl++((D,.deferred (some []))::(Bm,.cells #[Wz ob] 215 (0,0))::(Ro++(Rf++((gb,.cells #[Wz fb] 251 (0,0)):: [(bm,.cells #[Wz m] 92 (0,0))])))))) (st:=()) (λs x E Rst W2 _ _ hI hd=>by
    subst hI;refine (ug fb gb Rf W2 F3 hd.at_.right.right.tail.tail.right.left (an hd.has.right.right.tail.tail.right.right.head 0 _ rfl) (x:Nat)).kq ?_;rintro W3 hb;exact⟨rfl,_,rfl,hd.grow hb⟩) Hr rfl D8)
  rw[Ar λx:Nat=>y.to x] at JF;have gd:=a_ (λRx zK W2 (h:Has (Rx++(zK++((D,.deferred (some []))::(Bm,.cells #[Wz ob] 215 (0,0))::(Ro++(Rf++((gb,.cells #[Wz fb] 251 (0,0)):: [(bm,.cells #[Wz m] 92 (0,0))])))))) W2)=>
   (show W2.cell? ⟨bm,0,none⟩=some (.pointer (some ⟨m,0,none⟩))/\W2.cell? ⟨gb,0,none⟩=some (.pointer (some ⟨fb,0,none⟩)) from
   ⟨an h.right.right.tail.tail.right.right.tail.head 0 _ rfl,an h.right.right.tail.tail.right.right.head 0 _ rfl⟩))
  have zm:=a_ (λvv Rx W2 (h:aH m d_ c_ e_ (t+d_/c_) vv Rx) (hA:Has Rx W2)=>lG h hA);obtain⟨hF1,Vf,PW⟩:=hF;obtain⟨qF,Bj⟩:∃qF,F/c_=qF:=⟨_,rfl⟩
  obtain⟨nn,hn⟩:∃nn,(T+c_-1)/c_-qF=nn:=⟨_,rfl⟩
  have Iw:F=qF*c_:=by rw[←Bj,Nat.div_mul_cancel (Nat.dvd_of_mod_eq_zero Iy)]
  have Ad:∀x,x<(T+c_-1)/c_↔x*c_<T:=λx=>tx tN
  have qz:qF+nn=(T+c_-1)/c_:=by
   have:qF<=(T+c_-1)/c_:=by
    rw[Nat.le_div_iff_mul_le (by omega),←Iw];omega
   omega
  have qy:∀j,j<nn↔(qF+j)*c_<T:=λj=>by
   rw[←Ad];omega
  have sa:=a_ qy;have ht1:(F:Int).tdiv (c_:Int)=(qF:Int):=by
   rw[Int.tdiv_eq_ediv_of_nonneg (by omega),←Bj];rfl
  have ht2:IntKind.i64.wrap (qF:Int)=qF:=IntWalk.i64_in _ (by have:=Nat.div_le_self F c_;omega);have KQ:((c_:Int)==0)=false:=by rw[beq_eq_false_iff_ne];omega
  have KR:¬(c_:Int)=0:=by omega
  have KS:¬c_=0:=by omega
  have Ib:=a_ (And.intro Bj (And.intro hn qz));clear Bj hn qz Iw Ad qy Iy
  gi_wp2
  go_wp2_with (first
   | (go_at_call 166;refine JF.kq ?_;rintro w9 ⟨zK,Rst9,r9,rfl,d9⟩;have RR:=a_ r9;have iJ:=a_ (d9.perm (R':=Rl++(zK++((D,.deferred (some []))::(Bm,.cells #[Wz ob] 215 (0,0))::(Ro++(Rf++((gb,.cells #[Wz fb] 251 (0,0)):: [(bm,.cells #[Wz m] 92 (0,0))])))))) aF);clear r9 d9;obtain⟨k1,k2⟩:=gd Rl zK w9 iJ.has)
   | (go_at_call 169;refine (zm _ Rl w9 H iJ.has.left).kq ?_;rintro FN rfl))
  clear JF D8 ug k1 k2 ht1 ht2
  go_loopw [20] (λqv wr=>∃(j:Nat) (Rx:BL),qv= .int .i64 ((qF:Int)+j)/\j<=nn/\aH m d_ c_ e_ (t+d_/c_) (fA (d_/c_) (λq=>decide (F+n<=q*c_)) qF j (y.pk v.wd v n)) Rx/\ag (Rm++Rr) (Rx++(zK++((D,.deferred (some []))::(Bm,.cells #[Wz ob] 215 (0,0))::(Ro++(Rf++((gb,.cells #[Wz fb] 251 (0,0)):: [(bm,.cells #[Wz m] 92 (0,0))])))))) w wr) (λqv _=>(qF+nn)-(intOf qv).toNat)
  case atStart=>exact⟨0,Rl,by simp,Nat.zero_le _,H,iJ⟩
  case round=>
   clear iJ H;obtain⟨j,Rx,rfl,hj,hM,hD⟩:=hrel;obtain⟨-, -,qz⟩:=Ib.out;have NG:(qF+j)*c_<=2000000:=by
    have h1:(qF+j)*c_<=(qF+nn)*c_:=Nat.mul_le_mul_right _ (by omega);rw[qz] at h1;have h2:=Nat.div_mul_le_self (T+c_-1) c_;have h3:c_<=256:=by rcases hp with q | q | q | q | q | q | q | q | q<;>omega
    omega
   have KM:qF+j<=d_:=by
    have h1:qF+nn<=T:=by
     rw[qz];have:(T+c_-1)/c_<T+1:=by
      rw[Nat.div_lt_iff_lt_mul (by omega),Nat.add_mul,Nat.one_mul];have:=Nat.le_mul_of_pos_right T (show 0<c_ by omega);omega
     omega
    omega
   have nK:fA (d_/c_) (λq=>decide (F+n<=q*c_)) qF (j+1) (y.pk v.wd v n)=if F+n<=(qF+j)*c_ then bY (d_/c_) (fA (d_/c_) (λq=>decide (F+n<=q*c_)) qF j (y.pk v.wd v n)) ((qF:Int)+j) else fA (d_/c_) (λq=>decide (F+n<=q*c_)) qF j (y.pk v.wd v n):=by
    rw[fA,show ((qF+j:Nat):Int)=(qF:Int)+j from by omega];simp only[decide_eq_true_eq]
   obtain⟨Pq,Eg⟩:∃Pq,(qF+j)*c_=Pq:=⟨_,rfl⟩
   have tM:IntKind.i64.wrap (((qF:Int)+j)*c_)=(Pq:Int):=by
    have e:((qF:Int)+j)*c_=(Pq:Int):=by
     rw[←Eg]
     push_cast
     rfl
    rw[e];exact IntWalk.i64_in _ (by omega)
   have kO:=sa j;rw[Eg] at kO NG nK;obtain⟨HM,HD⟩:=aO hM hD;obtain⟨k1,k2⟩:=gd Rx zK wr hD.has;have Sx:=a_ (zm _ Rx wr hM hD.has.left);have TW:=a_ (fV (w:=wr) λW hW=>Calls.gE (zm _ Rx W hM (hD.grow hW).has.left));have TZ:=a_ (fV (w:=wr) λW hW=>CO fb Rf W F3 (hD.grow hW).at_.right.right.tail.tail.right.left);clear hM hD qz Eg;by_cases gR:j<nn
   ·have KC:=kO.1 gR;have g1:decide ((Pq:Int)<T)=true:=kr;clear kO;have c1:=cell_regrown k1;have c2:=cell_regrown k2
    go_wp2_with (go_at_call 169;refine Sx.kq ?_;rintro FN rfl)
    refine wp_region_quiet_below (by kernel_rfl) (by kernel_rfl) ?_
    repeat (quiet_step ((first | (go_at_call 169;exact TW _ _) | (go_at_call 174;exact TZ _ _))))
    refine wpQuiet_nil ?_;intro _ tZ;obtain⟨⟨dq,sQ⟩,iW⟩:=tZ;subst iW;have gq:=a_ (HD.grow (below_regrown wr dq sQ));clear c1 c2 k1 k2 Sx TW TZ g1 HD;obtain⟨Au,KV⟩:∃Au,grow (redrawn wr dq) sQ=Au:=⟨_,rfl⟩
    rw[KV] at gq;simp only[KV];clear KV;obtain⟨k1,k2⟩:=gd Rx zK Au gq.has;have Fy:=a_ (oE (w:=Au) HM gq.at_.left ((qF+j:Nat):Int));rw[show ((qF+j:Nat):Int)=(qF:Int)+j from by omega] at Fy;have t2:=eH ((qF:Int)+j+1);have zH:=a_ nK;clear nK KC tM;by_cases hz0:F+n<=Pq
    ·have g3:((F+n:Nat):Int)<=Pq:=by omega
     have g4:decide (((F+n:Nat):Int)<=Pq)=true:=decide_eq_true g3;have g5:(F:Int)+n<=Pq:=by omega
     have JL:=a_ hz0
     go_wp2_with (go_at_call 170;refine Fy.kq ?_;rintro Ww ⟨Ly,m3,d3⟩;have M3:=a_ m3;have D3:=a_ (gq.step d3);clear m3 d3)
     go_roundw
     case rel=>exact⟨j+1,Ly,by go_num,gR,by rw[zH.out,b9 JL.out];exact M3,D3⟩
     case measure=>simp[intOf];omega
    ·have g3:¬((F+n:Nat):Int)<=Pq:=by omega
     have g4:decide (((F+n:Nat):Int)<=Pq)=false:=decide_eq_false g3;have g5:¬(F:Int)+n<=Pq:=by omega
     have JL:=a_ hz0;clear Fy;go_wp2
     go_roundw
     case rel=>exact⟨j+1,Rx,by go_num,gR,by rw[zH.out,b_ JL.out];exact HM,gq⟩
     case measure=>simp[intOf];omega
   ·obtain rfl:j=nn:=by omega
    have g2:¬Pq<T:=λq=>gR (kO.2 q)
    have g1:decide ((Pq:Int)<T)=false:=dP;clear kO;have HTOP:=a_ (CO fb Rf wr F3 HD.at_.right.right.tail.tail.right.left)
    go_wp2_with (first | (go_at_call 169;refine Sx.kq ?_;rintro FN rfl) | (go_at_call 174;refine HTOP.kq ?_;rintro Wv hb;have gq:=a_ (HD.grow hb);clear hb))
    obtain⟨h1,h2,h3⟩:=Ib.out;have qe:=(gq.perm (R':=(D,.deferred (some []))::((Rx++zK)++((Bm,.cells #[Wz ob] 215 (0,0))::(Ro++(Rf++((gb,.cells #[Wz fb] 251 (0,0)):: [(bm,.cells #[Wz m] 92 (0,0))])))))) aF)
    have tX:=qe.has.head;refine⟨by simp,.inl ⟨_,_,rfl,run_takeDeferred tX,?_⟩⟩;refine⟨.tuple #[(F+n:Nat),Wy],by simp[results,results86,go_sem],rfl,Rx,zK,?_,RR,(qe.putObj (.deferred none)).tail.bN⟩;rw[h1,h2];exact HM
 case th=>
  rintro D c pre W hp ⟨hf, -⟩;exact hf.elim
end
section
variable {hb m rb T:Nat} {S:HS} {R:BL} {w w':World}
def HS.Good.needP (h:S.Good) (h1:S.c.kind≠1) (h2:S.c.kind≠2):dc S.c.mw S.c.c_ S.c.e_ S.v (S.aa:Nat) (S.aa+S.iX.aq:Nat)=0/\bH S.c.mw S.c.c_ S.c.e_ S.v (S.aa:Nat) (S.aa+S.iX.aq:Nat)=S.v:=by
 have hk:=h.iN h1;obtain⟨l1,l2,l3⟩:=h.nS hk;have hl:S.iX.aq=S.m.aq:=l1;rw[hl];obtain⟨r1,r2,r3,r4,r5⟩:=h.aX.run;obtain⟨⟨d1,d2⟩,d3,d4,d5,d6,d7⟩:=h.aX.bG.fX;have ht:=h.aX.top;rcases (h.EX h1).2.2.2.2.2 with q | q
 ·by_cases h0:S.m.aq=0
  ·exact jQ (by omega) (by omega)
  ·have EF:=nu (h.aX.closed hk) h.aX.used d1 r2 ht.1 (by rw[Nat.div_mul_cancel (Nat.dvd_of_mod_eq_zero d4)];omega);have hu:=(Nat.le_div_iff_mul_le (by omega)).2 (Jn (p:=S.c.c_) (t:=S.top-S.aa) (x:=S.c.d_) d1 (by omega) d3);have hroom:S.c.e_=S.c.d_/S.c.c_:=by
    unfold HC.e_;rw[b_ h1,b_ h2]
   have:=jq (d_:=S.c.mw) (c_:=S.c.c_) (e_:=S.c.e_) (v:=S.v) (a:=S.aa) (b:=S.aa+S.m.aq) (by omega) (by omega) (by rw[q,EF,hroom];exact hu);rw[q] at this;exact this
 ·exact jQ (by omega) (by omega)
def pack_hs {Rm Rr:BL} (h:S.Good) (h1:S.c.kind≠1) (h2:S.c.kind≠2) (hm:aH m S.c.mw S.c.c_ S.c.e_ T S.v Rm) (ht:T<=999000000000000) (hr:dO rb S.rs Rr) (hR:At (Rm++Rr) w) (hT:ax w) (hg:aD (Rm++Rr)):
  WR 86 #[Wz m,Wz rb,S.aa,S.top,S.c.aL] w (.tuple #[(S.aa+S.iX.aq:Nat),Wy]) λw'=>∃bI fG,
   aH m S.c.mw S.c.c_ S.c.e_ (T+S.c.mw/S.c.c_) S.packed.v bI/\dO rb S.packed.rs fG/\ag (Rm++Rr) (bI++fG) w w':=by
 have hk:=h.iN h1;obtain⟨St,hw,hz,hf⟩:=h.wP hk;obtain⟨⟨d1,d2⟩,d3,d4,d5,d6,d7⟩:=h.aX.bG.fX;obtain⟨r1,r2,r3,r4,r5⟩:=h.aX.run;obtain⟨n1,n2⟩:=h.needP h1 h2;refine (pack_run (w:=w) (y:=S.iX) (n:=S.iX.aq) (h.pkW hk) rfl rfl hm ht hr hw hz hf ⟨r1,h.aX.top.1,r4⟩ r2 h.aX.bG.c_ d1 h.aX.bG.aL ⟨by omega,by omega⟩ rfl n1 n2 hR hT hg).kq ?_;rintro w' ⟨bI,fG,x1,x2,x3⟩;exact⟨rfl,bI,fG,x1,by rw[show S.packed.rs=_ from (h.BJ hk S.iX rfl).symm];exact x2,x3⟩
end
section
variable {hb m rb T:Nat} {S:HS} {R:BL} {w w':World}
def collect3_h (h:ak hb m rb S T R) (hg:S.Good) (h1:S.c.kind≠1) (h2:S.c.kind≠2) (hR:At R w) (hT:ax w) (hN:aD R) (bJ:T<=600000000000000):
  WR 28 #[Wz hb] w (.tuple #[]) λw'=>∃R',ak hb m rb S.collect (T+10000000000) R'/\ag R R' w w':=by
 have hk:=hg.iN h1;have xS:S.collect=S.packed:=by
  unfold HS.collect;rw[b_ h1,b_ h2]
 have h3:S.c.kind=3:=by have:=hg.aX.bG.kind;omega
 obtain⟨p1,p2,p3,p4,p5,p6⟩:=hg.EX h1;have Fc:S.aa<=S.packed.top/\S.packed.top<=S.aa+S.c.d_:=p1.aX.top;obtain⟨en,dX,run,cy,Rr,Rx,hr,hM,rfl⟩:=h;obtain⟨rfl,hm⟩:=hM.none_ hk;obtain⟨⟨d1,d2⟩,d3,d4,d5,d6,d7⟩:=hg.aX.bG.fX;have SH:S.c.mw/S.c.c_<=4352:=Nat.le_trans (Nat.div_le_self _ _) d5;have TS:=a_ (λK W (hd:ag ((hb,bK S.c m rb run none S.ae S.af)::(run,bF m S.aa S.top (S.aa+S.c.d_))::(Rr++Rx)) ((Rx++Rr)++K) w W)=>(show WR 86 #[Wz m,Wz rb,S.aa,S.top,S.c.aL] W (.tuple #[(S.packed.top:Nat),Wy]) λw'=>∃bI fG,aH m S.c.mw S.c.c_ S.c.e_ (T+S.c.mw/S.c.c_) S.packed.v bI/\dO rb S.packed.rs fG/\ag (Rx++Rr) (bI++fG) W w' from
  pack_hs (w:=W) hg h1 h2 hm (by omega) hr hd.at_.left (hd.tz hT hN) (aD.app.1 (hd.cK hT hN)).1))
 have TB:=a_ (λW (h:Has [(run,bF m S.aa S.top (S.aa+S.c.d_))] W)=>oo (w:=W) h.head);have CN:=a_ (λW (h:Has [(run,bF m S.aa S.top (S.aa+S.c.d_))] W)=>wF (w:=W) h.head);have HSE:=a_ (λW (h:At [(run,bF m S.aa S.top (S.aa+S.c.d_))] W)=>Fg (w:=W) h Fc);have gd:=a_ (λW K (h:Has ((hb,bK S.c m rb run none S.ae S.af)::K) W)=>(show W.cell? ⟨hb,8,none⟩=some (.pointer (some ⟨m,0,none⟩))/\W.cell? ⟨hb,9,none⟩=some (.pointer (some ⟨rb,0,none⟩))/\W.cell? ⟨hb,10,none⟩=some (.pointer (some ⟨run,0,none⟩))/\W.cell? ⟨hb,5,none⟩=some (.int .i64 S.c.aL) from
  have hc:=az (S:=S) h.head
  ⟨hc.c8,hc.c9,hc.dW,hc.c5⟩))
 have qL:=a_ (λbI fG (x1:aH m S.c.mw S.c.c_ S.c.e_ (T+S.c.mw/S.c.c_) S.packed.v bI) (x2:dO rb S.packed.rs fG)=>(show ak hb m rb S.packed (T+10000000000) ((hb,bK S.c m rb run none (S.ae+1) S.af)::(run,bF m S.aa S.packed.top (S.aa+S.c.d_))::(fG++bI)) from
  ⟨by show S.ae+1<=_;omega,by show S.af<=_;omega,run,none,fG,bI,x2,.KZ p4 (x1.more (by omega)),rfl⟩))
 have s1:IntKind.i64.wrap ((S.ae:Int)+1)=((S.ae+1:Nat):Int):=by rw[IntWalk.i64_in _ (by omega)];omega
 have S1:=a_ s1;rw[xS];have D0:=a_ (ag.refl hR);have hcs:=az (S:=S) hR.1.head;have hn:=a_ (ev w hcs.c8);have c0:=hcs.c0;rw[h3] at c0;have ks:=gd _ _ hR.1;clear hcs hg h1 h2 h3 hk xS p1 p2 p3 p4 p5 p6 Fc en dX hr hM hm d1 d2 d3 d4 d5 d6 d7 SH hR hT hN bJ;generalize S.packed.top=tp at *;go_enter func28,ntmps28
 go_wp2_with (go_at_call 48;refine hn.out.kq ?_;rintro w1 rfl)
 have D1:=a_ (D0.drew.perm (R':=(run,bF m S.aa S.top (S.aa+S.c.d_))::((hb,bK S.c m rb run none S.ae S.af)::(Rr++Rx))) aF);clear c0;refine wp_region_held_drew (S:=λW=>W.cell? ⟨hb,8,none⟩=some (.pointer (some ⟨m,0,none⟩))/\W.cell? ⟨hb,9,none⟩=some (.pointer (some ⟨rb,0,none⟩))/\W.cell? ⟨hb,10,none⟩=some (.pointer (some ⟨run,0,none⟩))/\W.cell? ⟨hb,5,none⟩=some (.int .i64 S.c.aL)) (by kernel_rfl) ks (λhHeld=>?_);generalize w.drew=w1 at *;refine bz 0 ?_;refine bz 1 ?_;refine bz 2 ?_;refine bz 3 ?_;refine bz 4 ?_;refine bz 5 ?_;refine bz 6 ?_;refine bz 7 ?_;refine bz 8 ?_;refine bz 9 ?_;refine bz 10 ?_;refine bz 11 ?_;refine bz 13 ?_;refine bz 14 ?_;refine bz 15 ?_;refine bz 16 ?_;refine bz 18 ?_;refine bz 19 ?_;refine bz 20 ?_;refine bz 21 ?_;refine bz 22 ?_;simp only[aI];refine pT 12 (λK hK=>?_);go_simp;refine (TB _ (Has.left (A:= [_]) D1.has)).kq ?_;rintro w2 rfl;refine hK _ _ hHeld (λhHeld=>?_);clear hK K
 try simp only[aI]
 refine pT 17 (λK hK=>?_);go_simp;refine (CN _ (Has.left (A:= [_]) D1.has)).kq ?_;rintro w2 rfl;refine hK _ _ hHeld (λhHeld=>?_);clear hK K
 try simp only[aI]
 refine pT 23 (λK hK=>?_);go_simp;have D2:=a_ (D1.perm (R':=(Rx++Rr)++ [(run,bF m S.aa S.top (S.aa+S.c.d_)),(hb,bK S.c m rb run none S.ae S.af)]) aF);refine (TS _ _ D2).kq ?_;rintro w3 ⟨bI,fG,x1,x2,x3⟩;have X:=a_ (qL bI fG x1 x2);have D3:=a_ ((D2.step x3).perm (R':=(hb,bK S.c m rb run none S.ae S.af)::([(run,bF m S.aa S.top (S.aa+S.c.d_))]++(fG++bI))) aF);clear x1 x2 x3;refine hK _ _ (gd _ _ D3.has) (λhHeld=>?_);clear hK K
 try simp only[aI]
 refine bz 24 ?_;refine bz 25 ?_;refine bz 26 ?_;refine bz 27 ?_;refine bz 28 ?_;simp only[aI];refine wpAnyH_done (by kernel_rfl) ?_ _
 try simp only[aI]
 obtain⟨k8,k9,Wj,k5⟩:=hHeld;clear ks D0 D1 D2 TS TB CN qL
 go_wp2_with (go_at_call 87;refine (HSE _ (At.left (A:= [(run,bF m S.aa S.top (S.aa+S.c.d_))]) (At.right (A:= [(hb,bK S.c m rb run none S.ae S.af)]) D3.at_))).kq ?_;rintro w4 d4;have D4:=a_ (((D3.perm (R':= [(run,bF m S.aa S.top (S.aa+S.c.d_))]++((hb,bK S.c m rb run none S.ae S.af)::(fG++bI))) aF).step d4).perm (R':=(hb,bK S.c m rb run none S.ae S.af)::(run,bF m S.aa tp (S.aa+S.c.d_))::(fG++bI)) aF);clear d4;have nk:=an D4.has.head 12 (.int .i64 S.ae) rfl;have f12:=br D4.has.head 12)
 have D5:=a_ (show ag _ ((hb,bK S.c m rb run none (S.ae+1) S.af)::(run,bF m S.aa tp (S.aa+S.c.d_))::(fG++bI)) w (w4.setCell ⟨hb,12,none⟩ (.int .i64 (S.ae+1:Nat))) from D4.set 12 (S.ae+1:Nat))
 go_end0
 exact⟨rfl,_,X,D5⟩
end
section
variable {hb m rb T:Nat} {S:HS} {R:BL} {w w':World}
def copy_hs {Rm Rr:BL} (h:S.Good) (h2:S.c.kind=2) (hm:aH m S.c.mw S.c.c_ S.c.e_ T S.v Rm) (ht:T<=999000000000000) (hr:dO rb S.rs Rr) (hR:At (Rm++Rr) w) (hT:ax w) (hg:aD (Rm++Rr)):
  WR 84 #[Wz m,Wz rb,.agg S.bG.cells] w (.tuple #[(S.copied.top:Nat),Wy]) λw'=>∃bI fG,
   aH m S.c.mw S.c.c_ S.c.e_ (T+S.c.mw/S.c.c_) S.copied.v bI/\dO rb S.copied.rs fG/\ag (Rm++Rr) (bI++fG) w w':=by
 have hk:=h.iN (by omega);obtain⟨St,hw,hz,hf⟩:=h.wP hk;obtain⟨⟨d1,d2⟩,d3,d4,d5,d6,d7⟩:=h.aX.bG.fX;obtain⟨r1,r2,r3,r4,r5⟩:=h.aX.run;obtain⟨c1,c2,c3,c4⟩:=h.cpW h2;obtain⟨p1,p2,p3,p4,p5,p6,p7,p8,p9⟩:=h.zP h2;refine (copy_run (w:=w) (c:=S.bG) (n:=S.m.aq) (v1:=S.db) hm ht hr hw hz hf (h.aX.Jj (by omega)) h.aX.bG.c_ d1 (by
  rw[c3];show S.m.aq<=S.other+S.c.d_-S.other
  omega) ⟨by omega,by omega⟩ c3 p6 rfl c1 c2 hR hT hg).mono ?_
 rintro e w' ⟨rfl,bI,fG,x1,x2,x3⟩;refine⟨?_,bI,fG,x1,?_,x3⟩
 ·show Ending.returned (.tuple #[(S.other+bW S.db.wd S.Cl.l:Nat),Wy])=_
  rw[p8];rfl
 ·rw[←p7];exact x2
end
section
variable {hb m rb T:Nat} {S:HS} {R:BL} {w w':World}
def collect2_h (h:ak hb m rb S T R) (hG:S.Good) (h2:S.c.kind=2) (hR:At R w) (hT:ax w) (hN:aD R) (bJ:T<=600000000000000):
  WR 28 #[Wz hb] w (.tuple #[]) λw'=>∃R',ak hb m rb S.collect (T+10000000000) R'/\ag R R' w w':=by
 have hk:=hG.iN (by omega);have xS:S.collect=S.copied:=by
  unfold HS.collect;rw[cG,b9 h2]
 obtain⟨p1,p2,p3,p4,p5,p6,p7,p8,p9⟩:=hG.zP h2;have Fc:S.other<=S.copied.top/\S.copied.top<=S.other+S.c.d_:=p1.aX.top;obtain⟨en,dX,run,cy,Rr,Rx,hr,hM,rfl⟩:=h;obtain⟨rfl,hm⟩:=hM.none_ hk;obtain⟨⟨d1,d2⟩,d3,d4,d5,d6,d7⟩:=hG.aX.bG.fX;have GI:=hG.aX.bG.GQ;obtain⟨o1,o2,o3,o4⟩:=hG.aX.pN (by omega);have SH:S.c.mw/S.c.c_<=4352:=Nat.le_trans (Nat.div_le_self _ _) d5;have D0:=a_ (ag.refl hR);have Ho:=a_ (λW (h:At [(hb,bK S.c m rb run none S.ae S.af),(run,bF m S.aa S.top (S.aa+S.c.d_))] W)=>Fa (w:=W) h (by rcases hG.aX.aa with q | q<;>omega) ⟨by omega,by omega⟩);have vr:=a_ (λK W (hd:ag ((hb,bK S.c m rb run none S.ae S.af)::(run,bF m S.aa S.top (S.aa+S.c.d_))::(Rr++Rx)) ((Rx++Rr)++K) w W)=>copy_hs (w:=W) hG h2 hm (by omega) hr hd.at_.left (hd.tz hT hN) (aD.app.1 (hd.cK hT hN)).1);have PA:=a_ (λRm W (hm:aH m S.c.mw S.c.c_ S.c.e_ (T+S.c.mw/S.c.c_) S.copied.v Rm) (hA:At ((hb,bK S.c m rb run none S.ae S.af)::Rm) W)=>EL (S:=S) (w:=W) (b:=S.other) (x:=S.copied.top) hm (by omega) o3 Fc (by omega) hA);have qL:=a_ (λr bI fG (x1:aH m S.c.mw S.c.c_ S.c.e_ (T+S.c.mw/S.c.c_) S.copied.v bI) (x2:dO rb S.copied.rs fG)=>(show ak hb m rb S.copied (T+10000000000) ((hb,bK S.c m rb r none (S.ae+1) S.af)::(r,bF m S.other S.copied.top (S.other+S.c.d_))::(fG++bI)) from
  ⟨by show S.ae+1<=_;omega,by show S.af<=_;omega,r,none,fG,bI,x2,.KZ p4 (x1.more (by omega)),rfl⟩))
 have gd:=a_ (λW B K (h:Has ((hb,bK S.c m rb run none S.ae S.af)::(B,.cells S.bG.cells 126 (0,0))::K) W)=>(show W.cell? ⟨hb,8,none⟩=some (.pointer (some ⟨m,0,none⟩))/\W.cell? ⟨hb,9,none⟩=some (.pointer (some ⟨rb,0,none⟩))/\W.cell? ⟨B,0,none⟩=some (.int .i64 S.aa)/\W.cell? ⟨B,1,none⟩=some (.int .i64 S.top)/\W.cell? ⟨B,2,none⟩=some (.int .i64 S.other)/\W.cell? ⟨B,3,none⟩=some (.int .i64 (S.other+S.c.d_:Nat))/\W.cell? ⟨B,4,none⟩=some (.int .i64 S.c.block)/\W.cell? ⟨B,5,none⟩=some (.int .i64 S.c.aL)/\W.cell? ⟨B,6,none⟩=some (.int .i64 S.c.aE) from
  have hc:=az (S:=S) h.head;have q:=h.tail.head
  ⟨hc.c8,hc.c9,an q 0 _ rfl,an q 1 _ rfl,an q 2 _ rfl,an q 3 _ rfl,an q 4 _ rfl,an q 5 _ rfl,an q 6 _ rfl⟩))
 have s1:IntKind.i64.wrap ((S.ae:Int)+1)=((S.ae+1:Nat):Int):=by rw[IntWalk.i64_in _ (by omega)];omega
 have Ko:=az (S:=S) hR.1.head;have hn:=a_ (ev w Ko.c8);have c0:=Ko.c0;rw[h2] at c0;rw[xS];clear Ko xS en dX hr hM hm hG hk h2 hR hT hN bJ d1 d2 d3 d4 d5 d6 d7 GI o1 o2 o3 o4 SH p1 p2 p3 p4 p5 p6 p7 p8 p9 Fc;unfold HS.bG eZ.cells at *;simp only at *;generalize S.other+S.c.d_=lm at *;generalize S.copied.top=tp at *;go_enter func28,ntmps28
 go_wp2_with (first | (go_at_call 48;refine hn.out.kq ?_;rintro w1 rfl) | (go_at_call 83;refine (Ho _ (At.left (A:= [_,_]) D0.at_)).kq ?_;rintro w1 bp;have GR:=a_ (D0.grow bp);clear bp))
 have Cb:=GR.box #[S.aa,S.top,S.other,lm,S.c.block,S.c.aL,S.c.aE] 126;obtain⟨B,hB⟩:∃B,w1.heap.size=B:=⟨_,rfl⟩
 rw[hB] at Cb;rw[hB];generalize w1.alloc (.cells #[S.aa,S.top,S.other,lm,S.c.block,S.c.aL,S.c.aE] 126)=w2 at *;have D2:=a_ (Cb.perm (R':=(hb,bK S.c m rb run none S.ae S.af)::(B,.cells #[S.aa,S.top,S.other,lm,S.c.block,S.c.aL,S.c.aE] 126 (0,0))::(run,bF m S.aa S.top (S.aa+S.c.d_))::(Rr++Rx)) aF);clear Cb GR D0 Ho hB c0 hn;have D3:=a_ D2.drew;have hcs:=gd _ B _ D2.has;refine wp_region_held_drew (S:=λW=>W.cell? ⟨hb,8,none⟩=some (.pointer (some ⟨m,0,none⟩))/\W.cell? ⟨hb,9,none⟩=some (.pointer (some ⟨rb,0,none⟩))/\W.cell? ⟨B,0,none⟩=some (.int .i64 S.aa)/\W.cell? ⟨B,1,none⟩=some (.int .i64 S.top)/\W.cell? ⟨B,2,none⟩=some (.int .i64 S.other)/\W.cell? ⟨B,3,none⟩=some (.int .i64 lm)/\W.cell? ⟨B,4,none⟩=some (.int .i64 S.c.block)/\W.cell? ⟨B,5,none⟩=some (.int .i64 S.c.aL)/\W.cell? ⟨B,6,none⟩=some (.int .i64 S.c.aE)) (by kernel_rfl) hcs (λhHeld=>?_);generalize w2.drew=w3 at *;refine bz 0 ?_;refine bz 1 ?_;refine bz 2 ?_;refine bz 3 ?_;refine bz 4 ?_;refine bz 5 ?_;refine bz 6 ?_;refine bz 7 ?_;refine bz 8 ?_;simp only[aI];refine pT 9 (λK hK=>?_);go_simp;have Cc:=a_ (D3.perm (R':=(Rx++Rr)++((hb,bK S.c m rb run none S.ae S.af)::(B,.cells #[S.aa,S.top,S.other,lm,S.c.block,S.c.aL,S.c.aE] 126 (0,0)):: [(run,bF m S.aa S.top (S.aa+S.c.d_))])) aF);refine (vr _ _ Cc).kq ?_;rintro w4 ⟨bI,fG,m4,r4,d4⟩;obtain⟨M4,R4⟩:=aO m4 r4;have D4:=a_ ((Cc.step d4).perm (R':=(hb,bK S.c m rb run none S.ae S.af)::(B,.cells #[S.aa,S.top,S.other,lm,S.c.block,S.c.aL,S.c.aE] 126 (0,0))::((run,bF m S.aa S.top (S.aa+S.c.d_))::(bI++fG))) aF);clear m4 r4 d4 Cc;refine hK _ _ (gd _ _ _ D4.has) (λhHeld=>?_);clear hK K
 try simp only[aI]
 refine bz 10 ?_;refine bz 11 ?_;refine bz 12 ?_;refine bz 13 ?_;refine bz 14 ?_;simp only[aI];refine wpAnyH_done (by kernel_rfl) ?_ _
 try simp only[aI]
 clear hHeld hcs D3 D2 vr gd;have nJ:=an D4.has.tail.head 2 (.int .i64 S.other) rfl;have D7:=a_ (D4.perm (R':=((hb,bK S.c m rb run none S.ae S.af)::bI)++((B,.cells #[S.aa,S.top,S.other,lm,S.c.block,S.c.aL,S.c.aE] 126 (0,0))::((run,bF m S.aa S.top (S.aa+S.c.d_))::fG))) aF);clear D4
 go_wp2_with (go_at_call 85;refine (PA bI _ M4 D7.at_.left).kq ?_;rintro w8 ⟨r,d8⟩;have D8:=a_ ((D7.step d8).perm (R':=(hb,bK S.c m rb r none S.ae S.af)::(((r,bF m S.other tp lm)::(fG++bI))++ [(B,.cells #[S.aa,S.top,S.other,lm,S.c.block,S.c.aL,S.c.aE] 126 (0,0)),(run,bF m S.aa S.top (S.aa+S.c.d_))])) aF);clear d8 nJ;have nk:=an D8.has.head 12 (.int .i64 S.ae) rfl;have f12:=br D8.has.head 12)
 have D9:=a_ (show ag _ ((hb,bK S.c m rb r none (S.ae+1) S.af)::(((r,bF m S.other tp lm)::(fG++bI))++ [(B,.cells #[S.aa,S.top,S.other,lm,S.c.block,S.c.aL,S.c.aE] 126 (0,0)),(run,bF m S.aa S.top (S.aa+S.c.d_))])) w (w8.setCell ⟨hb,12,none⟩ (.int .i64 (S.ae+1:Nat))) from D8.set 12 (S.ae+1:Nat));have X:=a_ (qL r bI fG M4 R4)
 go_end0
 exact⟨rfl,_,X,ag.bN (K:= [(B,.cells #[S.aa,S.top,S.other,lm,S.c.block,S.c.aL,S.c.aE] 126 (0,0)),(run,bF m S.aa S.top (S.aa+S.c.d_))]) D9⟩
end
section
variable {hb m rb T:Nat} {S:HS} {R:BL} {w w':World}
def po (h:ak hb m rb S T R) (hg:S.Good) (hR:At R w) (hT:ax w) (hN:aD R) (bJ:T<=600000000000000):
  WR 28 #[Wz hb] w (.tuple #[]) λw'=>∃R',ak hb m rb S.collect (T+10000000000) R'/\ag R R' w w':=by
 by_cases h1:S.c.kind=1
 ·exact collect1_h h hg h1 hR hT hN bJ
 ·by_cases h2:S.c.kind=2
  ·exact collect2_h h hg h2 hR hT hN bJ
  ·exact collect3_h h hg h1 h2 hR hT hN bJ
noncomputable def HS.dJ (S:HS):HS:=match S.bX with
 | some _=>S
 | none=>if S.c.kind=1 then S.open else S.collect
def HS.Good.dJ (h:S.Good):S.dJ.Good/\S.dJ.m=S.m/\S.dJ.c=S.c:=by
 cases hk:S.bX with
 | some k=>
  have e:S.dJ=S:=by unfold HS.dJ;rw[hk]
  rw[e];exact⟨h,rfl,rfl⟩
 | none=>
  by_cases h1:S.c.kind=1
  ·have e:S.dJ=S.open:=by unfold HS.dJ;rw[hk];exact b9 h1
   rw[e];obtain⟨o1,o2,o3,o4,o5,o6,o7,o8⟩:=h.opens hk h1;exact⟨o3,o4,o5⟩
  ·have e:S.dJ=S.collect:=by unfold HS.dJ;rw[hk];exact b_ h1
   rw[e];obtain⟨o1,o2,o3,o4,o5⟩:=h.collect;exact⟨o1,o2,o3⟩
def start_h (h:ak hb m rb S T R) (hg:S.Good) (hR:At R w) (hT:ax w) (hN:aD R) (bJ:T<=600000000000000):
  WR 15 #[Wz hb] w (.tuple #[]) λw'=>∃R',ak hb m rb S.dJ (T+10000000000) R'/\ag R R' w w':=by
 have D0:=a_ (ag.refl hR);have HM:=a_ (h.more (T':=T+10000000000) (by omega));have Aw:=a_ (po h hg hR hT hN bJ);have vr:=a_ (λ(hk:S.bX=none) (h1:S.c.kind=1)=>(show WR 56 #[Wz hb] w (.tuple #[]) λw'=>∃R',ak hb m rb S.open (T+10000000000) R'/\ag R R' w w' from by
  refine (Ak h hg hk h1 hR hT hN (by omega)).kq ?_;rintro w' ⟨R',x,d⟩;exact⟨rfl,R',x.more (by omega),d⟩))
 have Ev:=hg.aX.bG.kind;obtain⟨-, -,run,cy,Rr,Rx, -,hM,rfl⟩:=h;have hcs:=az (S:=S) hR.1.head;have hn:=a_ (ev w hcs.c8);have c0:=hcs.c0;have cC:=hcs.cC
 cases hk:S.bX with
 | some k=>
  obtain⟨cb,T0,rfl, -, -⟩:=hM.some_ hk;have pa:w.cell? ⟨hb,11,none⟩=some (.pointer (some ⟨cb,0,none⟩)):=cC;have e:S.dJ=S:=by unfold HS.dJ;rw[hk]
  rw[e];clear e cC hcs hM hR hT hN bJ hg hk Aw vr Ev;go_enter func15,ntmps15
  go_wp2_with (go_at_call 48;refine hn.out.kq ?_;rintro w1 rfl)
  go_end0
  exact⟨rfl,_,HM,D0⟩
 | none=>
  obtain⟨rfl, -⟩:=hM.none_ hk;have pa:w.cell? ⟨hb,11,none⟩=some (.pointer none):=cC;by_cases h1:S.c.kind=1
  ·have e:S.dJ=S.open:=by unfold HS.dJ;rw[hk];exact b9 h1
   rw[e];have HO:=a_ (vr hk h1);rw[h1] at c0;clear e cC hcs hM hR hT hN bJ hg hk Aw vr Ev h1;go_enter func15,ntmps15
   go_wp2_with (first | (go_at_call 48;refine hn.out.kq ?_;rintro w1 rfl) | (go_at_call 56;refine HO.kq ?_;rintro w2 ⟨R2,x2,d2⟩;have X2:=a_ x2;have D2:=a_ d2;clear x2 d2))
   go_end0
   exact⟨rfl,_,X2,D2⟩
  ·have e:S.dJ=S.collect:=by unfold HS.dJ;rw[hk];exact b_ h1
   rw[e];have g1:((S.c.kind:Int)==1)=false:=by rw[beq_eq_false_iff_ne];omega
   have g2:¬(S.c.kind:Int)=1:=by omega
   clear e cC hcs hM hR hT hN bJ hg hk vr Ev;go_enter func15,ntmps15
   go_wp2_with (first | (go_at_call 48;refine hn.out.kq ?_;rintro w1 rfl) | (go_at_call 28;refine Aw.kq ?_;rintro w2 ⟨R2,x2,d2⟩;have X2:=a_ x2;have D2:=a_ d2;clear x2 d2))
   go_end0
   exact⟨rfl,_,X2,D2⟩
end
end
section
variable {P:Program} {ops:Array Oper} {md:Region.Mode} {C:World->Prop}
def oJ (P:Program) (md:Region.Mode) (ops:Array Oper) (C:World->Prop) (n:Nat) (L:Array Bool->Act->Prop):Nat->Array Bool->Act->Prop
 | 0,listed,a=>L listed a
 | f+1,listed,a=>Region.ready md ops listed≠ []/\∀i∈Region.ready md ops listed,i<n/\qOp P ops C i (oJ P md ops C n L f (listed.setIfInBounds i true)) a
def ll {n g:Nat} {L:Array Bool->Act->Prop} {Q':Exit->Act->World->Prop} (hL:∀listed a w,C w->L listed a->wpAny P md ops Q' g listed a w):
  ∀(f:Nat) (listed:Array Bool) (a:Act) (w:World),C w->oJ P md ops C n L f listed a->wpAny P md ops Q' (f+g) listed a w
 | 0,listed,a,w,hC,h=>by rw[Nat.zero_add];exact hL _ _ _ hC h
 | f+1,listed,a,w,hC,h=>by
  rw[show f+1+g=(f+g)+1 by omega];exact⟨λh0=>absurd h0 h.1,λi hi=>wpOp_of_qOp hC (λa' w' hC' h'=>ll hL f _ a' w' hC' h') (h.2 i hi).2⟩
def wpAnyQL_first {n i:Nat} {oi:Oper} {v:Value} {L:Array Bool->Act->Prop} (hi:ops[i]?=some oi) (jL:∀(j:Nat) (o:Oper) cs b,ops[j]?=some o->o.op≠ .select cs b)
  (hs:Region.sinkB md ops n=true) (hc:Region.chainB md ops n=true) (hn:n<ops.size) (hin:i<n)
  (xU:∀listed a,L listed a->∀j∈Region.ready md ops listed,n<=j):
  ∀(f:Nat) (listed:Array Bool) (a:Act),HeadInv md ops n listed->
   (∀j oj,ops[j]?=some oj->j≠i->listed.getD j true=false->(∀e∈oj.after,Region.binds md e=true->e.on≠i)->oi.apart ops oj=true)->
   i∈Region.ready md ops listed->YieldsIn P ops C oi v a->
   oJ P md ops C n L f (listed.setIfInBounds i true) (a.put oi.dst v)->oJ P md ops C n L (f+1) listed a:=by
 intro f
 induction f with
 | zero=>
  intro listed a inv _ hr hy H;have hun:=(mem_ready.1 hr).1;refine⟨λh=>(by rw[h] at hr;cases hr),λj hj=>?_⟩;have Qj:j<n:=by
   rcases Nat.lt_or_ge j n with h | h
   ·exact h
   ·exact absurd hj (tail_waits hs hc hn inv _ i rfl hin hun j h)
  refine⟨Qj,?_⟩;by_cases hO:j=i
  ·subst hO;exact hy.qOp hi H
  ·have:=xU _ _ H j (ready_mono hj hO);omega
 | succ f ih=>
  intro listed a inv dm hr hy H;have hun:=(mem_ready.1 hr).1;refine⟨λh=>(by rw[h] at hr;cases hr),λj hj=>?_⟩;have Qj:j<n:=by
   rcases Nat.lt_or_ge j n with h | h
   ·exact h
   ·exact absurd hj (tail_waits hs hc hn inv _ i rfl hin hun j h)
  refine⟨Qj,?_⟩;by_cases hO:j=i
  ·subst hO;exact hy.qOp hi H
  ·have h1:=(H.2 j (ready_mono hj hO)).2;obtain⟨nO,oj,pE,hall⟩:=mem_ready.1 hj;have lV:∀e∈oj.after,Region.binds md e=true->e.on≠i:=λe he hb heq=>by
    have h1:=hall e he hb;rw[heq,getD_both hun] at h1
    cases h1
   have h2:=qOp_put pE (dm j oj pE hO nO lV) (λcs b=>jL i oi cs b hi) (λcs b=>jL j oj cs b pE) hy h1;have jK:∀k ok,ops[k]?=some ok->k≠i->(listed.setIfInBounds j true).getD k true=false->
     (∀e∈ok.after,Region.binds md e=true->e.on≠i)->oi.apart ops ok=true:=λk ok hk mH hun hno=>by
    refine dm k ok hk mH ?_ hno;by_cases qP:j=k
    ·subst qP;exact nO
    ·rw[getD_set_ne true qP] at hun;exact hun
   refine qOp_mono (λa' h3=>ih (listed.setIfInBounds j true) a' (inv.set hj Qj) jK (ready_mono hr (Ne.symm hO)) h3.1 ?_) h2;rw[Array.setIfInBounds_comm _ _ hO];exact h3.2
def qK {n g:Nat} {Lq:Act->Prop} (jL:Region.noSelect ops=true) (hs:Region.sinkB md ops n=true) (hc:Region.chainB md ops n=true) (hn:n<ops.size):
  ∀(l:List Oper) (k:Nat) (listed:Array Bool) (a:Act),(∀j,j<l.length->l[j]?=ops[k+j]?)->k+l.length=n->HeadInv md ops n listed->
  Region.lexHead md ops g l.length k listed=true->wpQuiet P ops C Lq l a->
  oJ P md ops C n (λBs a'=>Region.seqB md ops g n Bs=true/\Lq a') l.length listed a
 | [],k,listed,a,_,hk,_,hB,h=>by
  have:k=n:=by simpa using hk
  subst this;exact⟨by simpa [Region.lexHead] using hB,h⟩
 | o::l,k,listed,a,hl,hk,inv,hB,h=>by
  have h0:ops[k]?=some o:=by simpa using (hl 0 (by simp)).symm
  simp only[List.length_cons,Region.lexHead,Bool.and_eq_true] at hB;obtain⟨⟨hr,hf⟩,LI⟩:=hB;have hkn:k<n:=by simp only[List.length_cons] at hk;omega
  have GB:k∈Region.ready md ops listed:=by simpa using hr
  have hst:qOp P ops C k (wpQuiet P ops C Lq l) a:=by unfold qOp;simp only[h0];exact h
  obtain⟨v,hy,hK⟩:=yieldsIn_of_qOp h0 hst;exact wpAnyQL_first h0 (Region.noSelect_spec jL) hs hc hn hkn (λBs a' hL=>seqB_ready hL.1) l.length listed a inv (Region.free_spec h0 hf) GB hy
   (qK jL hs hc hn l (k+1) _ _ (λj hj=>by have:=hl (j+1) (by simp;omega);simpa [Nat.add_assoc,Nat.add_comm 1 j] using this) (by simp only[List.length_cons] at hk;omega) (inv.set GB hkn) LI hK)
def wp_region_quiet_tail {id:Nat} {Q:Exit->Act->World->Prop} {a:Act} {w:World} {l:List Oper} (n:Nat) (hm:P.follows .mixedOrders=true) (hB:Region.lexTailB .any l.toArray n=true)
  (h:wpQuiet P l.toArray (λw'=>∃p:Regrown,w'=grow (redrawn w p.d) p.os) (λa'=>∀w',(∃p:Regrown,w'=grow (redrawn w p.d) p.os)->wpList P l.toArray Q (l.drop n) a' w') (l.take n) a):(Code.region id l.toArray true).wp P Q a w:=by
 simp only[Region.lexTailB,Bool.and_eq_true,decide_eq_true_eq] at hB;obtain⟨⟨⟨⟨jL,hn⟩,hs⟩,hc⟩,hlex⟩:=hB;have hn':n<l.length:=by simpa using hn
 have GF:(l.take n).length=n:=by simp;omega
 have NR:(l.drop n).length=l.toArray.size-n:=by simp
 have inv0:HeadInv .any l.toArray n (Array.replicate l.toArray.size false):=
  ⟨by simp,λj oj _ hl=>(by rw[getD_replicate_false] at hl;cases hl),λt _ ht=>getD_in (by simpa using ht) (getD_replicate_false _ _)⟩
 have H:=qK (md:= .any) (g:=l.toArray.size-n) jL hs hc hn (l.take n) 0 _ a (λj hj=>by
  have Qi:j<n:=by rw[GF] at hj;exact hj
  simp[Qi]) (by simpa using GF) inv0 (by rw[GF];exact hlex) h
 refine wp_region_any hm ?_;have:=ll (Q':=Q) (g:=l.toArray.size-n) (λlisted a' w' hC hL=>by
  have:=wpAny_of_seq (md:= .any) (Q':=Q) (l.drop n) n listed a' w' (λj=>by simp[List.getElem?_drop]) (by rw[NR];exact hL.1) (hL.2 w' hC)
  rwa [NR] at this) _ _ _ {w with drawn:=w.drawn+1} ⟨⟨w.drawn+1,#[]⟩,by rw[grow_empty];rfl⟩ H
 rw[GF,show n+(l.toArray.size-n)=l.toArray.size by omega] at this;exact this
end
section
attribute [local go_sem] Oper.semAt_some
section
variable {hb m rb T:Nat} {S:HS} {R:BL} {w w':World}
def ak.memory (h:ak hb m rb S T R) (hp:S.ep):∃t Rm Ro,R.Perm (Rm++Ro)/\aH m S.c.mw S.c.c_ S.c.e_ t S.v Rm:=by
 obtain⟨en,dX,run,cy,Rr,Rx,hr,hM,rfl⟩:=h;obtain⟨t,Rm,Rc,rfl,ht,hm, -⟩:=hM.mem hp;exact⟨t,Rm,(hb,bK S.c m rb run cy S.ae S.af)::(run,bF m S.aa S.top (S.aa+S.c.d_))::(Rr++Rc),aF,hm⟩
def ak.room_ (h:ak hb m rb S T R) (hp:S.ep) (hR:At R w):WR 209 #[Wz m] w S.c.e_ λw'=>w=w':=by
 obtain⟨t,Rm,Ro,KI,hm⟩:=h.memory hp;exact room_im hm (hR.perm KI).1.left
def ak.Jo (h:ak hb m rb S T R) (hp:S.ep) (hR:At R w):WR 78 #[Wz m] w S.v.used λw'=>w=w':=by
 obtain⟨t,Rm,Ro,KI,hm⟩:=h.memory hp;exact used_im hm (hR.perm KI).1.left
def ak.words_ (h:ak hb m rb S T R) (hp:S.ep) (hR:At R w):WR 157 #[Wz m] w S.c.mw λw'=>w=w':=by
 obtain⟨t,Rm,Ro,KI,hm⟩:=h.memory hp;exact iI hm (hR.perm KI).1.left
def ak.cells (h:ak hb m rb S T R):∃run cy,(cy.isSome=S.bX.isSome)/\∀W,Has R W->qV hb m rb run cy S W/\W.heap[run]?=some (bF m S.aa S.top (S.aa+S.c.d_)):=by
 obtain⟨en,dX,run,cy,Rr,Rx,hr,hM,rfl⟩:=h;refine⟨run,cy,?_,λW hR=>⟨az (S:=S) hR.head,hR.tail.head⟩⟩
 cases hk:S.bX with
 | none=>
  obtain⟨rfl, -⟩:=hM.none_ hk;rfl
 | some k=>
  obtain⟨cb,T0,rfl, -⟩:=hM.some_ hk;rfl
def HS.resv_none {n j:Nat} (hk:S.bX=none):HS.fI n j S=S:=by
 cases j with
 | zero=>rfl
 | succ j=>unfold HS.fI;rw[hk]
def HS.resv_spare {n j:Nat} (hs:S.gC n):HS.fI n j S=S:=by
 cases j with
 | zero=>rfl
 | succ j=>
  unfold HS.fI
  cases S.bX with
  | none=>rfl
  | some k=>exact b9 hs
def HS.resv_step {n j:Nat} {k:wR} (hk:S.bX=some k) (hs:¬S.gC n):HS.fI n (j+1) S=HS.fI n j S.step:=by
 rw[HS.fI,hk];exact b_ hs
def MX (hb m:Nat) (c:HC) (cy:Option Nat) (w:World):Prop:=
 w.cell? ⟨hb,0,none⟩=some (.int .i64 c.kind)/\w.cell? ⟨hb,1,none⟩=some (.int .i64 c.c_)/\w.cell? ⟨hb,2,none⟩=some (.int .i64 c.block)/\w.cell? ⟨hb,3,none⟩=some (.int .i64 c.d_)/\w.cell? ⟨hb,4,none⟩=some (.int .i64 c.bV)/\w.cell? ⟨hb,5,none⟩=some (.int .i64 c.aL)/\w.cell? ⟨hb,6,none⟩=some (.int .i64 c.aE)/\w.cell? ⟨hb,7,none⟩=some (.float .f64 c.ig)/\w.cell? ⟨hb,8,none⟩=some (.pointer (some ⟨m,0,none⟩))/\w.cell? ⟨hb,11,none⟩=some (.pointer (cy.map λb=>⟨b,0,none⟩))
def rsv_of {run:Nat} {cy:Option Nat} (h:qV hb m rb run cy S w):MX hb m S.c cy w:=⟨h.c0,h.c1,h.c2,h.c3,h.c4,h.c5,h.c6,h.c7,h.c8,h.cC⟩
def reserve_h (n:Nat) (hn:n<=256) (h:ak hb m rb S T R) (hg:S.Good) (hR:At R w) (hT:ax w) (hN:aD R) (bJ:T<=700000000000000):
  WR 127 #[Wz hb,n] w (.tuple #[]) λw'=>∃R',ak hb m rb (HS.fI n S.left S) (T+4200000000) R'/\ag R R' w w':=by
 have Gs:=hg.aX.bG.fX;have CA:=hg.aX.bG.e_;have zS:=hg.aX.bG.block.le;have xP:=hg.aX.bG.aE;obtain⟨qt,Bl⟩:∃qt,n/S.c.c_=qt:=⟨_,rfl⟩
 have KM:qt<=256:=by rw[←Bl];exact Nat.le_trans (Nat.div_le_self _ _) hn
 have ht1:(n:Int).tdiv (S.c.c_:Int)=(qt:Int):=by
  rw[Int.tdiv_eq_ediv_of_nonneg (by omega),←Bl];rfl
 have ht2:IntKind.i64.wrap (qt:Int)=qt:=IntWalk.i64_in _ (by omega);have KQ:((S.c.c_:Int)==0)=false:=by rw[beq_eq_false_iff_ne];omega
 have KR:¬(S.c.c_:Int)=0:=by omega
 have KS:¬S.c.c_=0:=by omega
 have s1:=eH ((qt:Int)+2);have hsp:S.c.spare<=20000:=by
  unfold HC.spare;have:S.c.block/S.c.c_<=1024:=Nat.le_trans (Nat.div_le_self _ _) zS.2;exact Nat.le_trans (Nat.mul_le_mul (show S.c.aE+2<=18 by omega) (show max (S.c.block/S.c.c_) 1+3<=1027 by omega)) (by decide)
 have MI:=a_ (λW=>BN (w:=W) (c:=S.c) (by omega) zS.2 xP);have oS:=a_ (λS1 T1 R1 W (h1:ak hb m rb S1 T1 R1) (hg1:S1.Good) (hd:ag R R1 w W) (ht:T1<=800000000000000)=>Aq (w:=W) h1 hg1 hd.at_ (hd.tz hT hN) (hd.cK hT hN) ht);obtain⟨OV,UR, -,ks⟩:=h.cells;have c1:=(ks w hR.1).1.c1;have hll:=hg.vV;obtain⟨H0,HG⟩:=aO h hg;have D0:=a_ (ag.refl hR);have Hl:=a_ (And.intro hll bJ);have HQ:=a_ Bl;clear h hg hR hT hN bJ ks Gs hll Bl zS xP hn;unfold HC.cells at MI;go_enter func127,ntmps127;go_wp2;clear c1
 go_loopg [] S.left (λl wr=>∃(j:Nat) (S1:HS) (R1:BL),HS.fI n l S1=HS.fI n S.left S/\S1.c=S.c/\j+l=S.left/\S1.left=l/\S1.Good/\ak hb m rb S1 (T+j*2000000) R1/\ag R R1 w wr)
 case atStart=>exact⟨0,S,R,rfl,rfl,by omega,rfl,HG,by rw[Nat.zero_mul];exact H0,D0⟩
 case round=>
  clear H0 HG D0;obtain⟨j,S1,R1,hs,zT,hj,xc,hg1,h1,hd⟩:=hrel;have MP:=Hl.out;have qM:=a_ (λW (Vu:ag R R1 w W)=>oS S1 _ R1 W h1 hg1 Vu (by omega));have PG:=a_ (λW (hA:At R1 W)=>h1.Jo (w:=W) hg1.aX hA);have Ub:=a_ (λW (hA:At R1 W)=>h1.room_ (w:=W) hg1.aX hA);obtain⟨run,cy,en,bu⟩:=h1.cells;have HC:=a_ (λW (hA:Has R1 W)=>zT▸rsv_of (bu W hA).1);have Wb:=hg1.aX.used;have HU:=a_ hg1.aX.used;have HD:=a_ hd;have D1:=a_ hd.drew;obtain⟨H1,Hs,Hj,He,Dk⟩:=Es h1 hs hj xc hg1;rw[zT] at Ub;have Lh:=a_ zT;clear hd h1 hs hj xc hg1 MP zT bu Wb;have hcs:=HC wr HD.has;unfold MX at HC hcs
  cases hk:S1.bX with
  | none=>
   rw[hk] at en;obtain rfl:cy=none:=by cases cy with
    | none=>rfl
    | some c=>cases en
   have Hk:=a_ hk;have cC:wr.cell? ⟨hb,11,none⟩=some (.pointer none):=hcs.2.2.2.2.2.2.2.2.2;clear hcs en hk;go_wp2
   go_quiet (fail)
   have D2:=a_ (HD.grow (Fr.aA nq wr));go_wp2
   go_end0
   have e1:S1=HS.fI n S.left S:=by rw[←Hs.out,HS.resv_none Hk.out]
   have X1:=H1.out;rw[e1] at X1;refine⟨rfl,R1,X1.more (by have:=Hl.out;have:=Hj.out;omega),D2⟩
  | some k=>
   rw[hk] at en;obtain⟨cb,rfl⟩:∃cb,cy=some cb:=by cases cy with
    | none=>cases en
    | some c=>exact⟨c,rfl⟩
   have Hk:=a_ hk;obtain⟨-, -,g2, -,g4⟩:=Dk.step hk;obtain⟨G2,G4⟩:=aO g2 g4;rw[hk] at qM;have e0:(some k:Option wR).isSome=true:=rfl;rw[e0] at qM;clear e0 g2 g4;simp only[Option.map_some] at HC hcs;obtain⟨c0,c1,c2,c3,c4,c5,c6,c7,c8,cC⟩:=hcs;have hul:S1.v.used<=5000:=by
    have h1:S1.v.used=aG S1.v.mp (S1.c.mw/S1.c.c_):=HU.out;have h2:=bE S1.v.mp (S1.c.mw/S1.c.c_);have h3:=Nat.div_le_self S1.c.mw S1.c.c_;have h4:=Dk.aX.bG.fX;omega
   have s2:=eH ((S.c.e_:Int)-S1.v.used);have OC:S1.gC n↔S1.v.used+(qt+2)+S.c.spare<=S.c.e_:=by
    unfold HS.gC;rw[Lh.out,HQ.out]
   have s3:=eH ((qt:Int)+2+S.c.spare);have TX:=a_ (fV (w:=wr) λW hW=>Calls.gE (Ub W (HD.grow hW).at_));have Ua:=a_ (fV (w:=wr) λW hW=>Calls.gE (PG W (HD.grow hW).at_));have TY:=a_ (fV (w:=wr) λW hW=>MI W);by_cases CB:S1.gC n
   ·have hlt:decide ((S.c.e_:Int)-S1.v.used<(qt:Int)+2+S.c.spare)=false:=decide_eq_false (by have:=OC.1 CB;omega);have JJ:=a_ CB;clear en hk CB;have k0:=cell_regrown c0;have k1:=cell_regrown c1;have k2:=cell_regrown c2;have k3:=cell_regrown c3;have k4:=cell_regrown c4;have k5:=cell_regrown c5;have k6:=cell_regrown c6;have k7:=cell_regrown c7;have k8:=cell_regrown c8;have Tk:=cell_regrown cC;go_wp2;refine wp_region_quiet_below (by kernel_rfl) (by kernel_rfl) ?_
    repeat (quiet_step ((first | (go_at_call 209;exact TX _ _) | (go_at_call 78;exact Ua _ _) | (go_at_call 192;exact TY _ _))))
    refine wpQuiet_nil ?_;intro _ tZ;obtain⟨⟨dq,sQ⟩,iW⟩:=tZ;subst iW;have D2:=a_ (HD.grow (below_regrown wr dq sQ));go_wp2
    go_end0
    have e1:S1=HS.fI n S.left S:=by rw[←Hs.out,HS.resv_spare JJ.out]
    have X1:=H1.out;rw[e1] at X1;refine⟨rfl,R1,X1.more (by have:=Hl.out;have:=Hj.out;omega),D2⟩
   ·have hlt:decide ((S.c.e_:Int)-S1.v.used<(qt:Int)+2+S.c.spare)=true:=decide_eq_true (by have:¬(S1.v.used+(qt+2)+S.c.spare<=S.c.e_):=λq=>CB (OC.2 q);omega);have JJ:=a_ CB;clear en hk CB;have k0:=cell_regrown c0;have k1:=cell_regrown c1;have k2:=cell_regrown c2;have k3:=cell_regrown c3;have k4:=cell_regrown c4;have k5:=cell_regrown c5;have k6:=cell_regrown c6;have k7:=cell_regrown c7;have k8:=cell_regrown c8;have Tk:=cell_regrown cC;go_wp2;refine wp_region_quiet_tail 28 (by kernel_rfl) (by kernel_rfl) ?_;simp only[List.take_succ_cons,List.take_zero,List.drop_succ_cons,List.drop_zero]
    repeat (quiet_step ((first | (go_at_call 209;exact TX _ _) | (go_at_call 78;exact Ua _ _) | (go_at_call 192;exact TY _ _))))
    refine wpQuiet_nil ?_;intro _ tZ;obtain⟨⟨dq,sQ⟩,iW⟩:=tZ;subst iW;have D2:=a_ (HD.grow (below_regrown wr dq sQ))
    go_wp2_with (go_at_call 19;refine (qM _ D2).kq ?_;rintro w5 ⟨R5,x5,d5⟩;have X5:=a_ x5;have D3:=a_ (D2.trans d5);clear x5 d5)
    go_roundg (gk-1)
    case measure=>have:=He.out;have:=G4.out;omega
    case rel=>
     have hgk:gk=(gk-1)+1:=by have:=He.out;have:=G4.out;omega
     refine⟨j+1,S1.step,R5,?_,?_,by have:=Hj.out;omega,by have:=He.out;have:=G4.out;omega,G2,by rw[Nat.add_mul,Nat.one_mul,←Nat.add_assoc];exact X5,D3⟩
     ·rw[←Hs.out]
      conv=>rhs;rw[hgk]
      exact (HS.resv_step Hk JJ).symm
     ·obtain⟨-, -, -,a, -⟩:=Dk.step Hk;rw[a.c];exact Lh
end
section
variable {hb m rb T n run:Nat} {S:HS} {R:BL} {w w':World}
def ak.dW (h:ak hb m rb S T R) (hR:Has R w):∃run,w.cell? ⟨hb,10,none⟩=some (.pointer (some ⟨run,0,none⟩)):=by
 obtain⟨en,dX,run,cy,Rr,Rx,hr,hM,rfl⟩:=h;exact⟨run,(az (S:=S) hR.head).dW⟩
def alloc_yes (h:ak hb m rb S T R) (hg:S.Good) (hR:At R w) (bJ:T<=800000000000000) (hn:1<=n) (hf:S.fits n) (hs:∀k,S.bX=some k->S.gC n) (dW:w.cell? ⟨hb,10,none⟩=some (.pointer (some ⟨run,0,none⟩))):
  WR 128 #[Wz run,n] w (.tuple #[S.top,Wy]) λw'=>∃R',ak hb m rb (S.ext n) (T+5000) R'/\ag R R' w w':=by
 obtain⟨en,dX,run',cy,Rr,Rx,hr,hM,rfl⟩:=h;have q:=(az (S:=S) hR.1.head).dW;rw[dW] at q;have e:run=run':=by simpa using q
 subst e;have hrun:=hg.aX.run;have sx:=hg.aX.top;have Gs:=hg.aX.bG.fX;obtain⟨e1,e2,e3⟩:=hg.aX.ext hn hf hs;obtain⟨t,Rm,Rc,rfl,ht,hm,xR⟩:=hM.mem hg.aX;have D0:=(ag.refl hR).perm (R':=((run,bF m S.aa S.top (S.aa+S.c.d_))::Rm)++((hb,bK S.c m rb run cy S.ae S.af)::(Rr++Rc))) aF;have Qf:S.top+n<=S.aa+S.c.d_:=hf;refine (rg_alloc hm D0.at_.left (by omega) (by omega) n hn Qf e1).kq ?_;rintro w' ⟨bI,ky,d⟩;have hq:S.c.mw/S.c.c_<=5000:=Nat.le_trans (Nat.div_le_self _ _) (by omega);have Su:=xR (S.ext n) 5000 (t+S.c.mw/S.c.c_) bI e2 rfl rfl (by omega) ky;refine⟨rfl,(hb,bK S.c m rb run cy S.ae S.af)::(run,bF m S.aa (S.top+n) (S.aa+S.c.d_))::(Rr++(bI++Rc)),⟨?_,?_,run,cy,Rr,bI++Rc,hr,Su,rfl⟩,(D0.step d).perm aF⟩
 ·show S.ae<=_
  omega
 ·show S.af<=_
  omega
def alloc_no (h:ak hb m rb S T R) (hg:S.Good) (hR:At R w) (hn:1<=n/\n<=256) (hf:¬S.fits n) (dW:w.cell? ⟨hb,10,none⟩=some (.pointer (some ⟨run,0,none⟩))):
  WR 128 #[Wz run,n] w (.tuple #[Wy,(21:Int)]) λw'=>Below w.heap.size w w':=by
 obtain⟨en,dX,run',cy,Rr,Rx,hr,hM,rfl⟩:=h;have q:=(az (S:=S) hR.1.head).dW;rw[dW] at q;have e:run=run':=by simpa using q
 subst e;have hrun:=hg.aX.run;have sx:=hg.aX.top;unfold HS.fits at hf;exact rg_alloc_no hR.1.tail.head (by omega) sx.2 n hn.1 (by omega) (by omega)
def room_h (h:ak hb m rb S T R) (hg:S.Good) (hR:At R w) (hT:ax w) (hN:aD R) (bJ:T<=500000000000000) (hn:1<=n/\n<=256):
  WA 51 #[Wz hb,n] w λe w'=>∃R',ag R R' w w'/\(((S.rm n).fits n/\e= .returned (.tuple #[.int .i64 (S.rm n).top,Wy])/\ak hb m rb ((S.rm n).ext n) (T+20000000000) R')\/(¬(S.rm n).fits n/\e= .returned (.tuple #[Wy,(21:Int)])/\ak hb m rb (S.rm n) (T+20000000000) R')):=by
 obtain⟨r1,r2,r3⟩:=HS.pV (n:=n) S.left hg (Nat.le_refl _);have MF:=a_ (reserve_h n hn.2 h hg hR hT hN (by omega));obtain⟨T1,Kl⟩:∃T1,T+4200000000=T1:=⟨_,rfl⟩
 rw[Kl] at MF;obtain⟨f1,f2,f3⟩:=r1.finish;obtain⟨g1,g2,g3,g4,g5⟩:=f1.collect;have hll:=r1.vV;have CA:S.rm n=if (HS.fI n S.left S).fits n then HS.fI n S.left S else if (HS.fI n S.left S).finish.fits n then (HS.fI n S.left S).finish else (HS.fI n S.left S).finish.collect:=rfl
 generalize HS.fI n S.left S=S1 at *;have Js:=a_ (λS2 T2 R2 W run (hx:ak hb m rb S2 T2 R2) (wY:S2.Good) (hd:ag R R2 w W) (ht:T2+5000<=T+20000000000) (hf:S2.fits n) (hs:∀k,S2.bX=some k->S2.gC n) (dW:W.cell? ⟨hb,10,none⟩=some (.pointer (some ⟨run,0,none⟩)))=>(show WR 128 #[Wz run,n] W (.tuple #[S2.top,Wy]) λw'=>∃R',ak hb m rb (S2.ext n) (T+20000000000) R'/\ag R2 R' W w' from by
  refine (alloc_yes hx wY hd.at_ (by omega) hn.1 hf hs dW).kq ?_;rintro w' ⟨R',x,d⟩;exact⟨rfl,R',x.more (by omega),d⟩))
 have GU:=a_ (λS2 T2 R2 W run (hx:ak hb m rb S2 T2 R2) (wY:S2.Good) (hd:ag R R2 w W) (hf:¬S2.fits n) (dW:W.cell? ⟨hb,10,none⟩=some (.pointer (some ⟨run,0,none⟩)))=>alloc_no (w:=W) hx wY hd.at_ hn hf dW);obtain⟨T2,lT⟩:∃T2,T1+4200000000=T2:=⟨_,rfl⟩
 have qL:=a_ (λR2 W (hx:ak hb m rb S1 T1 R2) (hd:ag R R2 w W)=>(show WR 82 #[Wz hb] W (.tuple #[]) λw'=>∃R',ak hb m rb S1.finish T2 R'/\ag R2 R' W w' from by
  refine (xG (w:=W) hx r1 hd.at_ (hd.tz hT hN) (hd.cK hT hN) (by omega) (by omega)).kq ?_;rintro w' ⟨R',x,d⟩;exact⟨rfl,R',x.more (by omega),d⟩))
 obtain⟨T3,PV⟩:∃T3,T2+10000000000=T3:=⟨_,rfl⟩
 have Aw:=a_ (λR2 W (hx:ak hb m rb S1.finish T2 R2) (hd:ag R R2 w W)=>(show WR 28 #[Wz hb] W (.tuple #[]) λw'=>∃R',ak hb m rb S1.finish.collect T3 R'/\ag R2 R' W w' from by
  refine (po (w:=W) hx f1 hd.at_ (hd.tz hT hN) (hd.cK hT hN) (by omega)).kq ?_;rintro w' ⟨R',x,d⟩;exact⟨rfl,R',x.more (by omega),d⟩))
 have HT:=a_ (show T1+5000<=T+20000000000/\T2+5000<=T+20000000000/\T3+5000<=T+20000000000 from by omega);have vq:=a_ (λS2 T2 R2 W (hx:ak hb m rb S2 T2 R2) (hd:ag R R2 w W)=>hx.dW (w:=W) hd.has);have D0:=a_ (ag.refl hR);by_cases h1:S1.fits n
 ·have e1:S.rm n=S1:=by rw[CA,b9 h1]
  rw[e1];have HA:=a_ (λR2 W run (hx:ak hb m rb S1 T1 R2) (hd:ag R R2 w W) dW=>Js S1 T1 R2 W run hx r1 hd HT.1 h1 r3 dW);have H1:=a_ h1;clear h hg hR hT hN bJ hn r1 r2 r3 f1 f2 f3 g1 g2 g3 g4 g5 hll CA e1 Js GU qL Aw Kl lT PV h1 HT;go_enter func51,ntmps51
  go_wp2_with (first
   | (go_at_call 127;refine MF.kq ?_;rintro w1 ⟨R1,x1,d1⟩;have X1:=a_ x1;have D1:=a_ (D0.trans d1);obtain⟨run,dW⟩:=vq _ _ _ _ X1 D1;have FO:=a_ dW;clear x1 d1)
   | (go_at_call 128;refine (HA _ _ _ X1 D1 FO).kq ?_;rintro w2 ⟨R2,x2,d2⟩;have X2:=a_ x2;have D2:=a_ (D1.trans d2);clear x2 d2))
  go_ret2
  exact⟨R2,D2,.inl ⟨H1,rfl,X2⟩⟩
 ·by_cases h2:S1.finish.fits n
  ·have e1:S.rm n=S1.finish:=by rw[CA,b_ h1,b9 h2]
   rw[e1];have Fu:=a_ (λR2 W run (hx:ak hb m rb S1 T1 R2) (hd:ag R R2 w W) dW=>GU S1 T1 R2 W run hx r1 hd h1 dW);have Lf:=a_ (λR2 W run (hx:ak hb m rb S1.finish T2 R2) (hd:ag R R2 w W) dW=>Js S1.finish T2 R2 W run hx f1 hd HT.2.1 h2 (λk q=>by rw[f3] at q;cases q) dW);have H2:=a_ h2;clear h hg hR hT hN bJ hn r1 r2 r3 f1 f2 f3 g1 g2 g3 g4 g5 hll CA e1 Js GU Aw Kl lT PV h1 h2 HT;go_enter func51,ntmps51
   go_wp2_with (first
    | (go_at_call 127;refine MF.kq ?_;rintro w1 ⟨R1,x1,d1⟩;have X1:=a_ x1;have D1:=a_ (D0.trans d1);obtain⟨run,dW⟩:=vq _ _ _ _ X1 D1;have FO:=a_ dW;clear x1 d1)
    | (go_at_call 128;refine (Fu _ _ _ X1 D1 FO).kq ?_;rintro w2 b2;have D2:=a_ (D1.grow b2);clear b2 Fu)
    | (go_at_call 82;refine (qL _ _ X1 D2).kq ?_;rintro w3 ⟨R3,x3,d3⟩;have X3:=a_ x3;have D3:=a_ (D2.trans d3);obtain⟨OW,DI⟩:=vq _ _ _ _ X3 D3;have Dg:=a_ DI;clear x3 d3)
    | (go_at_call 128;refine (Lf _ _ _ X3 D3 Dg).kq ?_;rintro w4 ⟨R4,x4,d4⟩;have X4:=a_ x4;have D4:=a_ (D3.trans d4);clear x4 d4))
   go_ret2
   exact⟨R4,D4,.inl ⟨H2,rfl,X4⟩⟩
  ·have e1:S.rm n=S1.finish.collect:=by rw[CA,b_ h1,b_ h2]
   rw[e1];have Fu:=a_ (λR2 W run (hx:ak hb m rb S1 T1 R2) (hd:ag R R2 w W) dW=>GU S1 T1 R2 W run hx r1 hd h1 dW);have Lf:=a_ (λR2 W run (hx:ak hb m rb S1.finish T2 R2) (hd:ag R R2 w W) dW=>GU S1.finish T2 R2 W run hx f1 hd h2 dW);by_cases h3:S1.finish.collect.fits n
   ·have QO:=a_ (λR2 W run (hx:ak hb m rb S1.finish.collect T3 R2) (hd:ag R R2 w W) dW=>Js S1.finish.collect T3 R2 W run hx g1 hd HT.2.2 h3 (λk q=>by rw[g4] at q;cases q) dW);have H3:=a_ h3;clear h hg hR hT hN bJ hn r1 r2 r3 f1 f2 f3 g1 g2 g3 g4 g5 hll CA e1 Js GU Kl lT PV h1 h2 h3 HT;go_enter func51,ntmps51
    go_wp2_with (first
     | (go_at_call 127;refine MF.kq ?_;rintro w1 ⟨R1,x1,d1⟩;have X1:=a_ x1;have D1:=a_ (D0.trans d1);obtain⟨run,dW⟩:=vq _ _ _ _ X1 D1;have FO:=a_ dW;clear x1 d1)
     | (go_at_call 128;refine (Fu _ _ _ X1 D1 FO).kq ?_;rintro w2 b2;have D2:=a_ (D1.grow b2);clear b2 Fu)
     | (go_at_call 82;refine (qL _ _ X1 D2).kq ?_;rintro w3 ⟨R3,x3,d3⟩;have X3:=a_ x3;have D3:=a_ (D2.trans d3);obtain⟨OW,DI⟩:=vq _ _ _ _ X3 D3;have Dg:=a_ DI;clear x3 d3)
     | (go_at_call 128;refine (Lf _ _ _ X3 D3 Dg).kq ?_;rintro w4 b4;have D4:=a_ (D3.grow b4);clear b4 Lf)
     | (go_at_call 28;refine (Aw _ _ X3 D4).kq ?_;rintro w5 ⟨R5,x5,d5⟩;have X5:=a_ x5;have D5:=a_ (D4.trans d5);obtain⟨run5,JW⟩:=vq _ _ _ _ X5 D5;have Jq:=a_ JW;clear x5 d5)
     | (go_at_call 128;refine (QO _ _ _ X5 D5 Jq).kq ?_;rintro w6 ⟨R6,x6,d6⟩;have X6:=a_ x6;have D6:=a_ (D5.trans d6);clear x6 d6))
    go_ret2
    exact⟨R6,D6,.inl ⟨H3,rfl,X6⟩⟩
   ·have QO:=a_ (λR2 W run (hx:ak hb m rb S1.finish.collect T3 R2) (hd:ag R R2 w W) dW=>GU S1.finish.collect T3 R2 W run hx g1 hd h3 dW);have H3:=a_ h3;clear h hg hR hT hN bJ hn r1 r2 r3 f1 f2 f3 g1 g2 g3 g4 g5 hll CA e1 Js GU Kl lT PV h1 h2 h3;go_enter func51,ntmps51
    go_wp2_with (first
     | (go_at_call 127;refine MF.kq ?_;rintro w1 ⟨R1,x1,d1⟩;have X1:=a_ x1;have D1:=a_ (D0.trans d1);obtain⟨run,dW⟩:=vq _ _ _ _ X1 D1;have FO:=a_ dW;clear x1 d1)
     | (go_at_call 128;refine (Fu _ _ _ X1 D1 FO).kq ?_;rintro w2 b2;have D2:=a_ (D1.grow b2);clear b2 Fu)
     | (go_at_call 82;refine (qL _ _ X1 D2).kq ?_;rintro w3 ⟨R3,x3,d3⟩;have X3:=a_ x3;have D3:=a_ (D2.trans d3);obtain⟨OW,DI⟩:=vq _ _ _ _ X3 D3;have Dg:=a_ DI;clear x3 d3)
     | (go_at_call 128;refine (Lf _ _ _ X3 D3 Dg).kq ?_;rintro w4 b4;have D4:=a_ (D3.grow b4);clear b4 Lf)
     | (go_at_call 28;refine (Aw _ _ X3 D4).kq ?_;rintro w5 ⟨R5,x5,d5⟩;have X5:=a_ x5;have D5:=a_ (D4.trans d5);obtain⟨run5,JW⟩:=vq _ _ _ _ X5 D5;have Jq:=a_ JW;clear x5 d5)
     | (go_at_call 128;refine (QO _ _ _ X5 D5 Jq).kq ?_;rintro w6 b6;have D6:=a_ (D5.grow b6);clear b6))
    go_ret2
    exact⟨R5,D6,.inr ⟨H3,rfl,X5.more (by have:=HT.out;omega)⟩⟩
end
end
section
attribute [local go_sem] Oper.semAt_some
def HC.nC (c:HC) (x:Nat):Bool:=match floatBits .mul .f64 c.ig (floatOfInt .f64 (c.d_:Nat)) with
 | none=>false
 | some r=>FloatKind.f64.format.order (floatOfInt .f64 (x:Nat)) r==some .gt || FloatKind.f64.format.order (floatOfInt .f64 (x:Nat)) r==some .eq
def nan_order (x a b t:Nat):FloatKind.f64.format.order x ((Question.nanBits .f64 a b).cut t)=none:=by
 have e:(Question.nanBits .f64 a b).cut t=(t%2)*9223372036854775808+9218868437227405312+1+(t/2)%4503599627370495:=rfl;rw[e];have hk:(t/2)%4503599627370495<4503599627370495:=Nat.mod_lt _ (by decide);have hb:t%2=0\/t%2=1:=by omega
 generalize (t/2)%4503599627370495=kk at hk ⊢;generalize t%2=bb at hb ⊢;generalize hz:bb*9223372036854775808+9218868437227405312+1+kk=z;have h1:9218868437227405312<z%9223372036854775808:=by
  rcases hb with rfl | rfl<;>omega
 have e1:FloatKind.f64.format.signWeight=9223372036854775808:=by decide+kernel
 have e2:FloatKind.f64.format.infRung=9218868437227405312:=by decide+kernel
 have e3:FloatKind.f64.format.binade=4503599627370496:=by decide+kernel
 have hr:∃s p,FloatKind.f64.format.read z= .nan s p:=by
  unfold Ieee.Format.read;simp only[e1,e2,e3];rw[cG,cG,cG];exact⟨_,_,rfl⟩
 obtain⟨s,p,hr⟩:=hr;unfold Ieee.Format.order;rw[hr]
 cases FloatKind.f64.format.read x<;>rfl
section
variable {hb m rb run jn:Nat} {cy:Option Nat} {S:HS} {w w':World}
def due_c (h:Has [(hb,bK S.c m rb run cy S.ae S.af),(run,bF m S.aa S.top jn)] w) (bp:S.aa<=S.top/\S.top<=100000) (hw:S.c.d_<=2048):
  WR 55 #[Wz hb] w (.bool (S.c.nC (S.top-S.aa))) λw'=>Below w.heap.size w w':=by
 have H:=a_ h;have HB:=a_ (λW (h:Has [(hb,bK S.c m rb run cy S.ae S.af),(run,bF m S.aa S.top jn)] W)=>oo (w:=W) h.tail.head);have HT:=a_ (λW (h:Has [(hb,bK S.c m rb run cy S.ae S.af),(run,bF m S.aa S.top jn)] W)=>wF (w:=W) h.tail.head);have gd:=a_ (λW (h:Has [(hb,bK S.c m rb run cy S.ae S.af),(run,bF m S.aa S.top jn)] W)=>(show W.cell? ⟨hb,3,none⟩=some (.int .i64 S.c.d_)/\W.cell? ⟨hb,7,none⟩=some (.float .f64 S.c.ig)/\W.cell? ⟨hb,10,none⟩=some (.pointer (some ⟨run,0,none⟩)) from
  have hc:=az (S:=S) h.head
  ⟨hc.c3,hc.c7,hc.dW⟩))
 obtain⟨c3,c7,dW⟩:=gd _ h;have s1:IntKind.i64.wrap ((S.top:Int)-S.aa)=((S.top-S.aa:Nat):Int):=by rw[IntWalk.i64_in _ (by omega)];omega
 generalize S.top-S.aa=sz at *;unfold HC.nC
 cases hr:floatBits .mul .f64 S.c.ig (floatOfInt .f64 (S.c.d_:Nat)) with
 | some r=>
  simp only;have hmul:∀t W,(binOp .mul t (.float .f64 S.c.ig) (.float .f64 (floatOfInt .f64 (S.c.d_:Nat)))).run prog W= .ok (.float .f64 r) W:=λt W=>run_float_arith W .mul t .f64 _ _ r hr
  clear h hr;go_enter func55,ntmps55;go_wp2
  go_quiet ((first | (go_at_call 77;exact gl (HB _ (H.grow (Fr.aA _ _)))) | (go_at_call 76;exact gl (HT _ (H.grow (Fr.aA _ _))))))
  have H2:=a_ (H.grow (Fr.aA nq w));have QR:=a_ (Fr.aA nq w);generalize w.drewN nq=w2 at *;clear c3 c7 dW;obtain⟨c3,c7,dW⟩:=gd _ H2;go_wp2;refine aP (S:=λW=>W.cell? ⟨hb,3,none⟩=some (.int .i64 S.c.d_)/\W.cell? ⟨hb,7,none⟩=some (.float .f64 S.c.ig)) (by kernel_rfl) ⟨c3,c7⟩ (λhHeld=>?_);refine aR 0 ?_;refine aR 1 ?_;refine aR 2 ?_;refine aR 3 ?_;refine aR 4 ?_;refine aR 5 ?_;refine aR 6 ?_;refine aR 7 ?_;refine aR 8 ?_;refine aR 9 ?_;refine aR 10 ?_;refine aR 11 ?_;simp only[aI];refine jS 12 (λK hK=>?_);go_simp;refine hK _ _ hHeld (λhHeld=>?_);clear hK K
  try simp only[aI]
  refine aR 13 ?_;simp only[aI];refine sD 14 (λK hK=>?_);go_simp;refine hK _ _ ?_;clear hK K
  try simp only[aI]
  have jB:=a_ (seq QR (ay _));go_wp2;go_ret;exact⟨rfl,jB⟩
 | none=>
  simp only;have hmul:∀t W,(binOp .mul t (.float .f64 S.c.ig) (.float .f64 (floatOfInt .f64 (S.c.d_:Nat)))).run prog W= .ok (.float .f64 ((Question.nanBits .f64 S.c.ig (floatOfInt .f64 (S.c.d_:Nat))).cut (W.tape W.drawn (.nanBits .f64 S.c.ig (floatOfInt .f64 (S.c.d_:Nat)))))) W.drew:=λt W=>by
   unfold floatBits at hr;simp only at hr;simp[binOp,Op.floatArith,hr,Question.forced]
  have Om:∀z t,FloatKind.f64.format.order z ((Question.nanBits .f64 S.c.ig (floatOfInt .f64 (S.c.d_:Nat))).cut t)=none:=λz t=>nan_order _ _ _ _
  clear h hr;go_enter func55,ntmps55;go_wp2
  go_quiet ((first | (go_at_call 77;exact gl (HB _ (H.grow (Fr.aA _ _)))) | (go_at_call 76;exact gl (HT _ (H.grow (Fr.aA _ _))))))
  have H2:=a_ (H.grow (Fr.aA nq w));have QR:=a_ (Fr.aA nq w);generalize w.drewN nq=w2 at *;clear c3 c7 dW;obtain⟨c3,c7,dW⟩:=gd _ H2;go_wp2;refine aP (S:=λW=>W.cell? ⟨hb,3,none⟩=some (.int .i64 S.c.d_)/\W.cell? ⟨hb,7,none⟩=some (.float .f64 S.c.ig)) (by kernel_rfl) ⟨c3,c7⟩ (λhHeld=>?_);refine aR 0 ?_;refine aR 1 ?_;refine aR 2 ?_;refine aR 3 ?_;refine aR 4 ?_;refine aR 5 ?_;refine aR 6 ?_;refine aR 7 ?_;refine aR 8 ?_;refine aR 9 ?_;refine aR 10 ?_;refine aR 11 ?_;simp only[aI];refine jS 12 (λK hK=>?_);go_simp;refine hK _ _ hHeld (λhHeld=>?_);clear hK K
  try simp only[aI]
  generalize hcut:(Question.nanBits .f64 S.c.ig (floatOfInt .f64 (S.c.d_:Nat))).cut _=nn;have Ab:∀z,FloatKind.f64.format.order z nn=none:=λz=>by rw[←hcut];exact Om _ _
  clear hcut Om;refine aR 13 ?_;simp only[aI];refine sD 14 (λK hK=>?_);go_simp;refine hK _ _ ?_;clear hK K
  try simp only[aI]
  have jB:=a_ (seq QR (seq (ay _) (ay _)));go_wp2;go_ret;exact⟨rfl,jB⟩
end
section
variable {hb m rb T n run:Nat} {S:HS} {R Rx Rr:BL} {w w':World} {p f o:Nat}
def ym {d_ c_ e_ t:Nat} (v:VS) (a x:Nat):∀n,(bT m d_ c_ e_ t).mk' v a x n=Ah v a x n
 | 0=>rfl
 | n+1=>by
  have ih:(bT m d_ c_ e_ t).mk' v a x n=Ah v a x n:=ym v a x n;show fB _ _ _=fB _ _ _
  have e:(bT m d_ c_ e_ t).ld ((bT m d_ c_ e_ t).mk' v a x n) (a+1+n)=Ah v a x n:=ih;rw[e]
noncomputable def HS.CF (S:HS) (p f o:Nat):HS:={S.ext (1+(p+f+o)) with v:=Ah (S.ext (1+(p+f+o))).v S.top (Hd.dv p f o) (p+f+o)}
def HS.mkO_eq (S:HS) (s p f o:Nat):S.pK s p f o=(S.CF p f o).oy s S.top ((S.m.new p f o).ic s (S.m.L.length+1)):=rfl
def HS.Good.CF (h:S.Good) (hok:Hd.Ok p f o) (hf:S.fits (1+(p+f+o))) (hs:∀k,S.bX=some k->S.gC (1+(p+f+o))):
  (S.CF p f o).ep/\(S.ext (1+(p+f+o))).ep/\∀i,i<=p+f+o->cR S.c.mw S.c.c_ (S.ext (1+(p+f+o))).v (S.top+i):=by
 have ht:=h.aX.top;obtain⟨e1,e2,e3⟩:=h.aX.ext (n:=1+(p+f+o)) (by omega) hf hs;have CC:∀k,S.bX=some k->∀i,¬k.y.waits k.mv (S.top+i):=λk hk i q=>by
  obtain⟨k1,k2,k3,k4,k5,k6,k7,k8,k9,hg⟩:=h.aX.opened k hk;have oO:=hg.mc.yK;have hl:bB k.y.E k.y.d_=k.y.aq:=rfl;have:=q.2.1;omega
 have hD:∀i,i<=p+f+o->(S.ext (1+(p+f+o))).D (S.top+i):=λi hi=>⟨by show S.aa<=_;omega,by show _<S.top+(1+(p+f+o));omega⟩
 refine⟨(e2.Ah (yU p f o hok) S.top (p+f+o) hD (λk hk i _=>CC k hk i)).1,e2,λi hi=>?_⟩
 cases hk:S.bX with
 | none=>exact e2.cR (S:=S.ext (1+(p+f+o))) hk (hD i hi)
 | some k=>
  obtain⟨k1,k2,k3,k4,k5,k6,k7,k8,k9,hg⟩:=h.aX.opened k hk;obtain⟨d1,d2,d3⟩:=e2.mD (S:=S.ext (1+(p+f+o))) hk (hD i hi);rcases d3 with d3 | d3
  ·exact absurd d3 (CC k hk i)
  ·rw[k3] at d3;have hrun:=h.aX.run;unfold HS.fits at hf;exact⟨by omega,d3⟩
def make_hp (h:ak hb m rb (S.ext (1+(p+f+o))) T R) (hg:S.Good) (hR:At R w) (hT:ax w) (hN:aD R) (hok:Hd.Ok p f o) (hf:S.fits (1+(p+f+o))) (hs:∀k,S.bX=some k->S.gC (1+(p+f+o))):
  WR 53 #[.iface 92 (.pointer (some ⟨m,0,none⟩)),S.top,Hd.hv p f o] w Wy λw'=>∃R',ak hb m rb (S.CF p f o) T R'/\ag R R' w w':=by
 obtain⟨en,dX,run,cy,Rr,Rx,hr,hM,rfl⟩:=h;have hrun:=hg.aX.run;have sx:=hg.aX.top;obtain⟨p1,p2,p3⟩:=hg.CF hok hf hs;obtain⟨t,Rm,Rc,rfl,ht,hm,xR⟩:=hM.mem p2;have D0:=(ag.refl hR).perm (R':=Rm++((hb,bK (S.ext (1+(p+f+o))).c m rb run cy (S.ext (1+(p+f+o))).ae (S.ext (1+(p+f+o))).af)::(run,bF m (S.ext (1+(p+f+o))).aa (S.ext (1+(p+f+o))).top ((S.ext (1+(p+f+o))).aa+(S.ext (1+(p+f+o))).c.d_))::(Rr++Rc))) aF;unfold HS.fits at hf;refine (make_w (p:=cF m) (P:=bT m S.c.mw S.c.c_ S.c.e_ t) (z:=(S.ext (1+(p+f+o))).v) (Rx:=Rm) (a:=S.top) eQ memSp_dom p f o hok (by omega) (λi hi=>⟨p3 i hi,by have:=hg.aX.bG.fX;omega⟩) ⟨hm,p2.tP⟩ hT (aD.sub hN (λx hx=>by simp[hx])) D0.at_.left).kq ?_;rintro w' ⟨bI,hx,d⟩;rw[ym] at hx;have Su:=xR (S.CF p f o) 0 t bI p1 rfl rfl (by omega) hx.1;exact⟨rfl,(hb,bK (S.ext (1+(p+f+o))).c m rb run cy (S.ext (1+(p+f+o))).ae (S.ext (1+(p+f+o))).af)::(run,bF m (S.ext (1+(p+f+o))).aa (S.ext (1+(p+f+o))).top ((S.ext (1+(p+f+o))).aa+(S.ext (1+(p+f+o))).c.d_))::(Rr++(bI++Rc)),⟨en,dX,run,cy,Rr,bI++Rc,hr,Su,rfl⟩,(D0.step d).perm aF⟩
def ak.due_ (h:ak hb m rb S T R) (hg:S.Good) (hR:At R w):
  WR 55 #[Wz hb] w (.bool (S.c.nC (S.top-S.aa))) λw'=>Below w.heap.size w w':=by
 obtain⟨en,dX,run,cy,Rr,Rx,hr,hM,rfl⟩:=h;have hrun:=hg.aX.run;have sx:=hg.aX.top;have GI:=hg.aX.bG.GQ;exact due_c (At.left (A:= [_,_]) hR).1 ⟨sx.1,by omega⟩ GI.2
def ak.get_root (h:ak hb m rb S T R) (hR:At R w) (s:Int):
  WR 49 #[Wz rb,s] w (.tuple #[(if eF S.rs s then S.rt s else 0:Nat),.int .i64 (if eF S.rs s then 0 else 17)]) λw'=>Below w.heap.size w w':=by
 obtain⟨en,dX,run,cy,Rr,Rx,hr,hM,rfl⟩:=h;by_cases hs:eF S.rs s
 ·rw[b9 hs,b9 hs];unfold eF at hs;unfold HS.rt;obtain⟨k,rfl⟩:∃k:Nat,s=k:=⟨s.toNat,by omega⟩
  rw[Int.toNat_natCast];exact qH hr hR.1.tail.tail.left k (by omega)
 ·rw[b_ hs,b_ hs];unfold eF at hs;exact ta hr hR.1.tail.tail.left s (by omega)
def xM (h:ak hb m rb S T R) (hg:S.Good) (hR:At R w) (hT:ax w) (hN:aD R) (bJ:T<=400000000000000) (s p f o:Int):
  WR 11 #[Wz hb,s,.agg #[p,f,o]] w (.int .i64 (S.m.alloc s p f o).2) λw'=>∃R',ak hb m rb (S.alloc S.c.nC s p f o) (T+30000000000) R'/\ag R R' w w':=by
 have D0:=a_ ((ag.refl hR).box #[p,f,o] 31);have dz:=a_ (h.more (T':=T+30000000000) (by omega));obtain⟨OV,UR, -,bu⟩:=h.cells;have c8:=(bu _ D0.has.tail).1.c8;have c9:=(bu _ D0.has.tail).1.c9;have HN:=a_ (ev (hb:=hb) _ c8);have CM:=a_ (h.get_root D0.at_.tail s);have qT:=a_ (λW=>Hd.cM p f o W);have nc:=a_ (λW=>Hd.iC p f o W);unfold Hd.hv at qT nc;by_cases hs:S.m.slot s
 ·have hok:=(hg.eF s).2 hs;rw[b9 hok,b9 hok] at CM;by_cases ho:Hd.Ok p f o
  ·obtain⟨p,rfl⟩:=Int.eq_ofNat_of_zero_le (show 0<=p by unfold Hd.Ok at ho;omega);obtain⟨f,rfl⟩:=Int.eq_ofNat_of_zero_le (show 0<=f by unfold Hd.Ok at ho;omega);obtain⟨o,rfl⟩:=Int.eq_ofNat_of_zero_le (show 0<=o by unfold Hd.Ok at ho;omega);have CY:1<=1+(p+f+o)/\1+(p+f+o)<=256:=by
    have h2:=ho;unfold Hd.Ok at h2;omega
   rw[show Hd.code p f o=0 from b9 ho] at qT;have hsz:Hd.dH p f o=((1+(p+f+o):Nat):Int):=by
    unfold Hd.dH;rw[b9 ho];omega
   rw[hsz] at nc;obtain⟨r1,r2,r3,r4,r5⟩:=hg.rm (n:=1+(p+f+o));have hC:=hg.yB;have LO:(S.m.alloc s p f o)=if S.m.aq+(1+(p+f+o))<=S.m.C then ((S.m.new p f o).ic s.toNat (S.m.L.length+1),0) else (S.m,21):=by
    unfold MH.alloc;rw[b9 hs,b9 ho];have e:(1+((p:Int)+f+o)).toNat=1+(p+f+o):=by omega
    rw[e,Int.toNat_natCast,Int.toNat_natCast,Int.toNat_natCast]
   have hal:S.alloc S.c.nC s p f o=if (S.rm (1+(p+f+o))).fits (1+(p+f+o)) then (if S.c.kind=1/\((S.rm (1+(p+f+o))).pK s.toNat p f o).bX=none/\S.c.nC (((S.rm (1+(p+f+o))).pK s.toNat p f o).top-((S.rm (1+(p+f+o))).pK s.toNat p f o).aa)=true then ((S.rm (1+(p+f+o))).pK s.toNat p f o).open else (S.rm (1+(p+f+o))).pK s.toNat p f o) else S.rm (1+(p+f+o)):=by
    unfold HS.alloc;rw[b9 ⟨hs,ho⟩];have e:(1+((p:Int)+f+o)).toNat=1+(p+f+o):=by omega
    rw[e,Int.toNat_natCast,Int.toNat_natCast,Int.toNat_natCast]
   have Po:=a_ (D0.perm (R':=R++ [(w.heap.size,.cells #[p,f,o] 31 (0,0))]) aF);have RF:=a_ (λW (hd:ag R (R++ [(w.heap.size,.cells #[p,f,o] 31 (0,0))]) w W)=>room_h (w:=W) h hg hd.at_.left (hd.tz hT hN) (aD.app.1 (hd.cK hT hN)).1 (by omega) CY);have xh:=a_ (λR2 W (h:Has (R2++ [(w.heap.size,.cells #[p,f,o] 31 (0,0))]) W)=>(show W.cell? ⟨w.heap.size,0,none⟩=some (.int .i64 p)/\W.cell? ⟨w.heap.size,1,none⟩=some (.int .i64 f)/\W.cell? ⟨w.heap.size,2,none⟩=some (.int .i64 o) from⟨an h.right.head 0 _ rfl,an h.right.head 1 _ rfl,an h.right.head 2 _ rfl⟩));by_cases hfit:(S.rm (1+(p+f+o))).fits (1+(p+f+o))
   ·have hle:S.m.aq+(1+(p+f+o))<=S.m.C:=by rw[hC.2];exact r4.1 hfit
    rw[b9 hle] at LO;rw[b9 hfit] at hal;have hsl:s.toNat<(S.rm (1+(p+f+o))).c.bV:=by
     rw[r3,←hC.1];unfold eF at hok;omega
    have Ma:s=(s.toNat:Nat):=by unfold eF at hok;omega
    obtain⟨m1,m2,m3⟩:=r1.pK (s:=s.toNat) ho hfit r5 hsl;obtain⟨w1,w2,w3⟩:=r1.CF ho hfit r5;have Cz:s.toNat<((S.rm (1+(p+f+o))).CF p f o).rs.length:=by
     show s.toNat<(S.rm (1+(p+f+o))).rs.length
     rw[r1.yB.1];exact hsl
    have VG:=HS.mkO_eq (S.rm (1+(p+f+o))) s.toNat p f o;have hct:((S.rm (1+(p+f+o))).ext (1+(p+f+o))).c=S.c:=r3;have Gq:((S.rm (1+(p+f+o))).pK s.toNat p f o).c=S.c:=r3;rw[LO,hal];obtain⟨T2,lT⟩:∃T2,T+20000000000=T2:=⟨_,rfl⟩
    have MD:=a_ (λW (hd:ag R (R++ [(w.heap.size,.cells #[p,f,o] 31 (0,0))]) w W)=>(show WA 51 #[Wz hb,(1+(p+f+o):Nat)] W λe w'=>∃R',ag R R' W w'/\e= .returned (.tuple #[.int .i64 (S.rm (1+(p+f+o))).top,Wy])/\ak hb m rb ((S.rm (1+(p+f+o))).ext (1+(p+f+o))) T2 R' from by
     refine (RF W hd).mono ?_;rintro e w' ⟨R',d,⟨-,a,b⟩ | ⟨a, -, -⟩⟩
     ·exact⟨R',d,a,lT▸b⟩
     ·exact absurd hfit a))
    have TN:=a_ (λR2 K W (hx:ak hb m rb ((S.rm (1+(p+f+o))).ext (1+(p+f+o))) T2 R2) (hd:ag R (R2++K) w W)=>(show WR 53 #[.iface 92 (.pointer (some ⟨m,0,none⟩)),.int .i64 (S.rm (1+(p+f+o))).top,.agg #[p,f,o]] W Wy λw'=>∃R',ak hb m rb ((S.rm (1+(p+f+o))).CF p f o) T2 R'/\ag R2 R' W w' from make_hp hx r1 hd.at_.left (hd.tz hT hN) (aD.app.1 (hd.cK hT hN)).1 ho hfit r5));have oS:=a_ (λR2 W (hx:ak hb m rb ((S.rm (1+(p+f+o))).CF p f o) T2 R2) (hA:At R2 W)=>(show WR 54 #[Wz rb,s,.int .i64 (S.rm (1+(p+f+o))).top] W Wy λw'=>∃R',ak hb m rb ((S.rm (1+(p+f+o))).pK s.toNat p f o) T2 R'/\ag R2 R' W w' from by
     rw[VG];have:=hx.yE hA Cz (v:=(S.rm (1+(p+f+o))).top) (((S.rm (1+(p+f+o))).m.new p f o).ic s.toNat ((S.rm (1+(p+f+o))).m.L.length+1));rw[←Ma] at this;exact this))
    have HC3:=a_ (λR2 W (hx:ak hb m rb ((S.rm (1+(p+f+o))).ext (1+(p+f+o))) T2 R2) (hA:Has R2 W)=>(show W.cell? ⟨hb,8,none⟩=some (.pointer (some ⟨m,0,none⟩)) from by
     obtain⟨r,c, -,hh⟩:=hx.cells;exact (hh W hA).1.c8))
    have HC3b:=a_ (λR2 W (hx:ak hb m rb ((S.rm (1+(p+f+o))).CF p f o) T2 R2) (hA:Has R2 W)=>(show W.cell? ⟨hb,8,none⟩=some (.pointer (some ⟨m,0,none⟩)) from by
     obtain⟨r,c, -,hh⟩:=hx.cells;exact (hh W hA).1.c8))
    have HC4:=a_ (λR2 W (hx:ak hb m rb ((S.rm (1+(p+f+o))).CF p f o) T2 R2) (hA:Has R2 W)=>hx.c9 hA);have TE:=a_ (λR2 W (hx:ak hb m rb ((S.rm (1+(p+f+o))).pK s.toNat p f o) T2 R2) (hA:At R2 W)=>Gq▸hx.due_ m2 hA);have vr:=a_ (λR2 K W (hx:ak hb m rb ((S.rm (1+(p+f+o))).pK s.toNat p f o) T2 R2) (hd:ag R (R2++K) w W) (hk:((S.rm (1+(p+f+o))).pK s.toNat p f o).bX=none) (h1:S.c.kind=1)=>(show WR 56 #[Wz hb] W (.tuple #[]) λw'=>∃R',ak hb m rb ((S.rm (1+(p+f+o))).pK s.toNat p f o).open (T+30000000000) R'/\ag R2 R' W w' from by
     refine (Ak hx m2 hk (by rw[Gq];exact h1) hd.at_.left (hd.tz hT hN) (aD.app.1 (hd.cK hT hN)).1 (by omega)).kq ?_;rintro w' ⟨R',x,d⟩;exact⟨rfl,R',x.more (by omega),d⟩))
    have QS:=a_ (λR2 (hx:ak hb m rb ((S.rm (1+(p+f+o))).pK s.toNat p f o) T2 R2)=>hx.cells);obtain⟨MJ,Hct4⟩:=aO lT Gq;generalize (S.rm (1+(p+f+o))).pK s.toNat p f o=S4 at *;generalize (S.rm (1+(p+f+o))).CF p f o=S3 at *;generalize (S.rm (1+(p+f+o))).ext (1+(p+f+o))=S2 at *;generalize (S.rm (1+(p+f+o))).top=tp at *;obtain⟨Sf,Kk⟩:∃Sf,(if S.c.kind=1/\S4.bX=none/\S.c.nC (S4.top-S4.aa)=true then S4.open else S4)=Sf:=⟨_,rfl⟩
    rw[Kk];have FZ:=a_ Kk;clear h hg hR hT hN bJ bu hs hok ho LO hal hsz r1 r2 r3 r4 r5 hC RF hfit hle hsl Ma m1 m2 m3 w1 w2 w3 Cz VG hct Gq lT Kk;generalize 1+(p+f+o)=n at *;obtain⟨b0,b1,b2⟩:=xh _ _ Po.has;go_enter func11,ntmps11
    go_upto_region 12 with (first
     | (go_at_call 48;refine HN.kq ?_;rintro w1 rfl)
     | (go_at_call 49;refine CM.kq ?_;rintro w2 dw;have D2:=a_ (Po.grow dw);obtain⟨b0,b1,b2⟩:=xh _ _ D2.has;clear dw)
     | (go_at_call 50;refine (qT _).kq ?_;rintro w3 qX;have D3:=a_ (D2.grow qX);obtain⟨b0,b1,b2⟩:=xh _ _ D3.has;clear qX)
     | (go_at_call 52;refine (nc _).kq ?_;rintro w4 hb4;have D4:=a_ (D3.grow hb4);clear hb4)
     | (go_at_call 51;refine (MD _ D4).mono ?_;rintro e w5 ⟨R5,d5,rfl,x5⟩;have X5:=a_ x5;have D5:=a_ (D4.step d5);clear x5 d5))
    clear b0 b1 b2 c8 c9 MD HN CM qT nc;obtain⟨b0,b1,b2⟩:=xh _ _ (D5.perm (R':=R5++ [(w.heap.size,.cells #[p,f,o] 31 (0,0))]) (.refl _)).has;have c8:=HC3 _ _ X5 D5.has.left
    go_region_held3 (λW=>W.cell? ⟨hb,8,none⟩=some (.pointer (some ⟨m,0,none⟩))/\W.cell? ⟨w.heap.size,0,none⟩=some (.int .i64 p)/\W.cell? ⟨w.heap.size,1,none⟩=some (.int .i64 f)/\W.cell? ⟨w.heap.size,2,none⟩=some (.int .i64 o)) (first | exact⟨c8,b0,b1,b2⟩ | exact⟨d8,d0,d1,d2⟩ | go_keep) ((first
     | (go_at_call 53;refine (TN _ _ _ X5 (D5.grow (ay _))).kq ?_;rintro w6 ⟨R6,x6,d6⟩;have X6:=a_ x6;have D6:=a_ ((D5.grow (ay _)).step d6);have d8:=HC3b _ _ X6 D6.has.left;obtain⟨d0,d1,d2⟩:=xh _ _ D6.has;clear x6 d6)))
    clear b0 b1 b2 c8;have c9:=HC4 _ _ X6 D6.has.left
    go_upto_region 14 with (go_at_call 54;refine (oS _ _ X6 D6.at_.left).kq ?_;rintro w7 ⟨R7,x7,d7⟩;have X7:=a_ x7;have D7:=a_ (D6.step d7);clear x7 d7)
    clear c9 d8 d0 d1 d2;obtain⟨run7,PN,xT,SE⟩:=QS _ X7;have c0:=(SE _ D7.has.left).1.c0;have cC:=(SE _ D7.has.left).1.cC;rw[Hct4.out] at c0;have FQ:=a_ (TE _ _ X7 D7.at_.left);clear SE TE;by_cases h1:S.c.kind=1
    ·rw[h1] at c0
     cases hk:S4.bX with
     | none=>
      rw[hk] at xT;obtain rfl:PN=none:=by cases PN with
       | none=>rfl
       | some c=>cases xT
      have pa:w7.cell? ⟨hb,11,none⟩=some (.pointer none):=cC;have HOP2:=a_ (λW (hd:ag R (R7++ [(w.heap.size,.cells #[p,f,o] 31 (0,0))]) w W)=>vr _ _ W X7 hd hk h1)
      cases hd:S.c.nC (S4.top-S4.aa) with
      | true=>
       rw[hd] at FQ;have E:=a_ (show S4.open=Sf from (b9 ⟨h1,hk,hd⟩).symm.trans FZ);clear cC hd hk h1 xT vr
       go_wp2_with (first
        | (go_at_call 55;refine FQ.kq ?_;rintro w8 CV;have Pt:=a_ CV;clear CV)
        | (go_at_call 56;refine (HOP2 _ (D7.grow Pt)).kq ?_;rintro w9 ⟨R9,x9,d9⟩;have X9:=a_ x9;have D9:=a_ ((D7.grow Pt).step d9);clear x9 d9))
       go_ret;exact⟨rfl,R9,E.out▸X9.out,D9.bN⟩
      | false=>
       rw[hd] at FQ;have E:=a_ (show S4=Sf from (b_ (λq=>by rw[hd] at q;cases q.2.2)).symm.trans FZ);clear cC hd hk h1 xT vr
       go_wp2_with (go_at_call 55;refine FQ.kq ?_;rintro w8 CV;have Pt:=a_ CV;clear CV)
       go_ret;exact⟨rfl,R7,E.out▸X7.more (by have:=MJ.out;omega),(D7.grow Pt).bN⟩
     | some k=>
      rw[hk] at xT;obtain⟨cb,rfl⟩:∃cb,PN=some cb:=by cases PN with
       | none=>cases xT
       | some c=>exact⟨c,rfl⟩
      have pa:w7.cell? ⟨hb,11,none⟩=some (.pointer (some ⟨cb,0,none⟩)):=cC;have E:=a_ (show S4=Sf from (b_ (λq=>by rw[hk] at q;cases q.2.1)).symm.trans FZ);clear cC hk h1 xT vr;go_wp2;go_ret;exact⟨rfl,R7,E.out▸X7.more (by have:=MJ.out;omega),D7.bN⟩
    ·have E:=a_ (show S4=Sf from (b_ (λq=>h1 q.1)).symm.trans FZ);have g1:((S.c.kind:Int)==1)=false:=by rw[beq_eq_false_iff_ne];omega
     have g2:¬(S.c.kind:Int)=1:=by omega
     clear cC h1 xT vr;go_wp2;go_ret;exact⟨rfl,R7,E.out▸X7.more (by have:=MJ.out;omega),D7.bN⟩
   ·have hle:¬S.m.aq+(1+(p+f+o))<=S.m.C:=by rw[hC.2];exact λz=>hfit (r4.2 z)
    rw[b_ hle] at LO;rw[b_ hfit] at hal;rw[LO,hal];have Hfit:=a_ hfit;clear h hg hR hT hN bJ bu hs hok ho LO hal hsz r1 r2 r3 r4 r5 hC hfit hle;generalize hSr:S.rm (1+(p+f+o))=S1 at *;clear hSr;generalize 1+(p+f+o)=n at *;obtain⟨b0,b1,b2⟩:=xh _ _ Po.has;go_enter func11,ntmps11
    go_wp2_with (first
     | (go_at_call 48;refine HN.kq ?_;rintro w1 rfl)
     | (go_at_call 49;refine CM.kq ?_;rintro w2 dw;have D2:=a_ (Po.grow dw);obtain⟨b0,b1,b2⟩:=xh _ _ D2.has;clear dw)
     | (go_at_call 50;refine (qT _).kq ?_;rintro w3 qX;have D3:=a_ (D2.grow qX);obtain⟨b0,b1,b2⟩:=xh _ _ D3.has;clear qX)
     | (go_at_call 52;refine (nc _).kq ?_;rintro w4 hb4;have D4:=a_ (D3.grow hb4);clear hb4)
     | (go_at_call 51;refine (RF _ D4).mono ?_;rintro e w5 ⟨R5,d5,⟨a, -, -⟩ | ⟨-,rfl,x5⟩⟩;(exact absurd a Hfit.out);have X5:=a_ x5;have D5:=a_ (D4.step d5);clear x5 d5))
    go_ret;exact⟨rfl,R5,X5.more (by omega),D5.bN⟩
  ·have e1:(S.m.alloc s p f o).2=15:=by
    unfold MH.alloc;rw[b9 hs,b_ ho]
   have e2:S.alloc S.c.nC s p f o=S:=by
    unfold HS.alloc;rw[b_ (λq=>ho q.2)]
   rw[e1,e2];rw[show Hd.code p f o=15 from b_ ho] at qT;clear h hg hR hT hN bJ bu hs hok ho e1 e2 nc;have q:=D0.has.head;obtain⟨b0,b1,b2, -⟩:=ft q;clear q;go_enter func11,ntmps11
   go_wp2_with (first
    | (go_at_call 48;refine HN.kq ?_;rintro w1 rfl)
    | (go_at_call 49;refine CM.kq ?_;rintro w2 dw;have D2:=a_ (D0.grow dw);have q:=D2.has.head;have b0:=an q 0 (.int .i64 p) rfl;have b1:=an q 1 (.int .i64 f) rfl;have b2:=an q 2 (.int .i64 o) rfl;clear dw q)
    | (go_at_call 50;refine (qT _).kq ?_;rintro w3 qX;have D3:=a_ (D2.grow qX);clear qX))
   go_ret;exact⟨rfl,R,dz,D3.tail⟩
 ·have hok:¬eF S.rs s:=λq=>hs ((hg.eF s).1 q)
  rw[b_ hok,b_ hok] at CM;have e1:(S.m.alloc s p f o).2=17:=by
   unfold MH.alloc;rw[b_ hs]
  have e2:S.alloc S.c.nC s p f o=S:=by
   unfold HS.alloc;rw[b_ (λq=>hs q.1)]
  rw[e1,e2];clear h hg hR hT hN bJ bu hs hok e1 e2 nc qT;go_enter func11,ntmps11
  go_wp2_with (first
   | (go_at_call 48;refine HN.kq ?_;rintro w1 rfl)
   | (go_at_call 49;refine CM.kq ?_;rintro w2 dw;have D2:=a_ (D0.grow dw);clear dw))
  go_ret;exact⟨rfl,R,dz,D2.tail⟩
end
end
end Go.Proofs.YtmdgfpeglgpiiaaGreatDoor

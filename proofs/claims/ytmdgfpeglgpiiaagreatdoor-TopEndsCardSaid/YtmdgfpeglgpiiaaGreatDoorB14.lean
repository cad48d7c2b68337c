import Derived.Test.YtmdgfpeglgpiiaaGreatDoorB13
set_option linter.unusedVariables false
set_option linter.unusedSimpArgs false
set_option maxRecDepth 100000
set_option maxHeartbeats 16000000
namespace Go.Proofs.YtmdgfpeglgpiiaaGreatDoor
open Go.ChangeShapes Go.WideShapes Go.ChangeAt Go.RowKit Go.Maps Go.Sort
open Vq Oq Go.Proofs.Tryz
section
attribute [local go_sem] Oper.semAt_some
section
variable {A A' K:BL} {w w':World}
theorem ag.same {F:BL} (h:ag (A++F) (A'++F) w w') (h0:Has (A++F) w):ag A A' w w':=
 ⟨⟨h.kD.1,h.kD.2.1,h.kD.2.2.1,h.kD.size,λk hk hn=>by
   rcases Classical.em (Keys F k) with⟨x,hx,rfl⟩ | hF
   ·rw[h.has.right x hx,h0.right x hx]
   ·exact h.kD.2.2.2.2 k hk λq=>(Keys.app.1 q).elim hn hF⟩,h.at_.left,λx hx=>(h.low x (List.mem_append_left _ hx)).imp (λq=>(Keys.app.1 q).elim id λr=>(h.at_.apart ⟨x,hx,rfl⟩ r).elim) id⟩
end
section
variable {m words page room t rb F T S n:Nat} {v:VS} {Rm Rr:BL} {zs:List Nat} {St:Nat->Prop} {w w':World} {y:aJ}
theorem pack_run (hy:oU y words page v) (Wg:y.E=aj v.wd zs) (Qx:y.c.to=F) (h:aH m words page room t v Rm) (ht:t<=999000000000000) (hr:dO rb zs Rr) (hw:Whole v.wd St (cR words page v) words) (hz:∀a∈zs,a=0\/St a) (hfit:∀a,St a->F<=a/\a+bC (v.wd a)<=T)
  (hF:1<=F/\F<=T/\T<=words) (Iy:F%page=0) (hp:Fr.dp page) (tN:1<=page) (hS:1<=S/\S<=4096) (fZ:1<=words/\words<=1000000) (hn:y.aq=n)
  (hE:dc words page room v (F:Nat) (F+n:Nat)=0) (hV:bH words page room v (F:Nat) (F+n:Nat)=v) (hR:At (Rm++Rr) w) (hT:ax w) (hg:aD (Rm++Rr)):
  WA 86 #[Wz m,Wz rb,F,T,S] w λe w'=>e= .returned (.tuple #[(F+n:Nat),Wy])/\∃bI fG,
   aH m words page room (t+words/page) (fA (words/page) (λq=>decide (F+n<=q*page)) (F/page) ((T+page-1)/page-F/page) (y.pk v.wd v n)) bI/\
   dO rb (zs.map λx:Nat=>if x=0 then 0 else y.to x) fG/\ag (Rm++Rr) (bI++fG) w w':=by
 have hlv:bB y.E words=n:=by rw[←hn,←hy.w];rfl
 have hnw:n<=words:=by rw[←hlv];exact eE _ _
 have qT:=a_ (λK W (hd:ag (Rm++Rr) (Rm++(Rr++K)) w W)=>check_p (w:=W) h hr hF hS ⟨fZ.1,Nat.le_trans fZ.2 (by decide)⟩ (hd.has.left.app hd.has.right.left));have Fw:=a_ (λK W (hd:ag (Rm++Rr) (Rm++(Rr++K)) w W)=>reached_p (w:=W) h hr hw hz hfit hF.2 hS ⟨fZ.1,Nat.le_trans fZ.2 (by decide)⟩ (hd.perm (R':=(Rm++Rr)++K) aF).at_.left (hd.tz hT hg) hg);rw[←Wg] at Fw;have Px:=a_ (λob Ro K W (O:dg ob words y.E Ro) (hd:ag (Rm++Rr) (Ro++K) w W)=>(show WA 173 #[Wz ob,(64:Int),F] W λe w'=>∃b,e= .returned (.tuple #[Wz b,Wy])/\∃R',gO b words 64 y.E F R'/\ag Ro (R'++Ro) W w' from
  AT (w:=W) O hd.at_.left (hd.tz hT hg) (aD.app.1 (hd.cK hT hg)).1 ⟨6,by omega,rfl⟩ (by rw[←Qx];exact hy.to)))
 have CO:=a_ (λfb Rf W (hf:gO fb words 64 y.E F Rf) (hA:At Rf W)=>(show WA 174 #[Wz fb] W λe w'=>e= .returned (F+n:Nat)/\Below W.heap.size W w' from by
  have:=kL (w:=W) hf hA;rw[hlv] at this;exact this))
 have Mx:=a_ (λW (hA:At Rm W)=>(show WA 165 #[Wz m,F,(F+n:Nat)] W λe w'=>e= .returned Wy/\∃R',aH m words page room (t+words/page) v R'/\ag Rm R' W w' from by
  have:=rk h hA ht (F:Nat) (F+n:Nat);rw[hE,hV] at this;exact this))
 have D0:=a_ (((ag.refl hR).box #[Wz m] 92).perm (R':=Rm++(Rr++ [(w.heap.size,.cells #[Wz m] 92 (0,0))])) aF);have FW:=a_ (λfb Rf K' Rl x z n0 W (hf:gO fb words 64 y.E F Rf) (hA:(Rf.map (·.1)).Nodup) (hs:∀x∈Rf,x∈K') (hd:ag (Rm++Rr) (Rl++K') w W) (hm:aH m words page room (t+words/page) (y.pk v.wd v n0) Rl) (hx:y.E x≠0) (Wi:z=y.E x) (Qn:aG (dI y.E) x=n0)=>(show WA 176 #[Wz m,Wz fb,x,(z:Nat)] W λe w'=>e= .returned (.tuple #[])/\∃bI,aH m words page room (t+words/page) (y.pk v.wd v (n0+z)) bI/\ag Rl bI W w' from by
  have jI:At (Rl++Rf) W:=At.join hd.at_.left ⟨hd.has.right.sub hs,hA⟩ λq ha ⟨u,hu,hk⟩=>hd.at_.apart ha ⟨u,hs u hu,hk⟩
  have VL:=aD.app.1 (hd.cK hT hg);subst Wi;refine (move_p (w:=W) hy hx Qn hm (by rw[Qx];exact hf) jI (hd.tz hT hg) (aD.app.2 ⟨VL.1,fun⟨u,hu,e⟩=>VL.2 ⟨u,hs u hu,e⟩⟩)).kq ?_;rintro w2 ⟨R',x1,d1⟩;exact⟨rfl,R',x1,d1.same jI.1⟩))
 have ug:=a_ (λfb gb Rf W (hf:gO fb words 64 y.E F Rf) (hA:At Rf W) (hg:W.cell? ⟨gb,0,none⟩=some (.pointer (some ⟨fb,0,none⟩))) (a:Int)=>run1_p (w:=W) (y:=y) (by rw[Qx];exact hf) hA hg a);obtain⟨HT,Hg,Hr⟩:=dF hT hg hr;have Hn:=a_ (And.intro hlv hnw);clear hy Wg Qx h hr hw hz hfit hE hV hT hg hR hn hlv ht;refine (callsIn_wide (n:=3)).1 ?_;refine callsIn_of_wp_marks func86 rfl trivial ?_ rfl;simp only[ntmps86,List.size_toArray,List.length_cons,List.length_nil,Nat.reduceAdd,Nat.reduceSub,Array.replicate_succ,Array.replicate_zero,List.push_toArray,List.append_toArray,List.nil_append,List.cons_append];refine wpIn_wide.2 ?_
 go_wp2_with (first
  | (go_at_call 171;refine (qT _ _ D0).kq ?_;rintro w1 rfl;have k0:(w.alloc (.cells #[Wz m] 92)).cell? ⟨w.heap.size,0,none⟩=some (.pointer (some ⟨m,0,none⟩)):=an D0.has.right.right.head 0 _ rfl)
  | (go_at_call 172;refine (Fw _ _ D0).mono ?_;rintro e w2 ⟨ob,rfl,Ro,o2,d2⟩;have O2:=a_ o2;have D2:=a_ (D0.bh d2);clear o2 d2)
  | (go_at_call 173;refine (Px ob Ro _ _ O2 D2).mono ?_;rintro e w3 ⟨fb,rfl,Rf,f3,d3⟩;have F3:=a_ f3;have D3:=a_ (D2.step d3);clear f3 d3 k0))
 clear D0 D2 qT Fw Px;have tR:=D3.box #[Wz fb] 251;obtain⟨gb,SL⟩:∃gb,w3.heap.size=gb:=⟨_,rfl⟩
 obtain⟨bm,Kn⟩:∃bm,w.heap.size=bm:=⟨_,rfl⟩
 rw[SL,Kn] at tR;rw[SL,Kn];generalize w3.alloc (.cells #[Wz fb] 251)=w4 at *;have D4:=a_ (tR.perm (R':=Rm++(Rf++(Ro++((gb,.cells #[Wz fb] 251 (0,0))::(Rr++ [(bm,.cells #[Wz m] 92 (0,0))]))))) aF);clear tR D3 SL Kn;have gd:=a_ (λRx W (h:Has (Rx++(Rf++(Ro++((gb,.cells #[Wz fb] 251 (0,0))::(Rr++ [(bm,.cells #[Wz m] 92 (0,0))]))))) W)=>(show W.cell? ⟨bm,0,none⟩=some (.pointer (some ⟨m,0,none⟩))/\W.cell? ⟨gb,0,none⟩=some (.pointer (some ⟨fb,0,none⟩)) from
  ⟨an h.right.right.right.tail.right.head 0 _ rfl,an h.right.right.right.head 0 _ rfl⟩))
 obtain⟨k1,k2⟩:=gd Rm w4 D4.has;refine wp_region_noPanic ?_;refine aP (S:=λW=>W.cell? ⟨bm,0,none⟩=some (.pointer (some ⟨m,0,none⟩))/\W.cell? ⟨gb,0,none⟩=some (.pointer (some ⟨fb,0,none⟩))) (by kernel_rfl) ⟨k1,k2⟩ (λhHeld=>?_);refine aR 0 ?_;refine aR 1 ?_;refine aR 2 ?_;simp only[aI];refine jS 3 (λK hK=>?_);go_simp;refine (CO fb Rf w4.drew F3 D4.drew.at_.right.left).kq ?_;rintro w5 hb;have D5:=a_ (D4.drew.grow hb);clear hb;refine hK _ _ (gd Rm w5 D5.has) (λhHeld=>?_);clear hK K
 try simp only[aI]
 refine jS 4 (λK hK=>?_);go_simp;refine (Mx w5 D5.at_.left).kq ?_;rintro w6 ⟨UK,m6,d6⟩;have M6:=a_ m6;have D6:=a_ (D5.step d6);clear m6 d6;refine hK _ _ (gd UK w6 D6.has) (λhHeld=>?_);clear hK K
 try simp only[aI]
 refine sD 5 (λK hK=>?_);go_simp;refine hK _ _ ?_;clear hK K
 try simp only[aI]
 refine NoPanic.normal ?_;clear k1 k2 hHeld D4 D5 Mx
 go_wp2_with (go_at_call 175;refine (all_mk _ _).kq ?_;rintro w8 rfl)
 have QM:=D6.box #[Wz ob] 215;obtain⟨Bm,rZ⟩:∃Bm,w6.heap.size=Bm:=⟨_,rfl⟩
 simp only[rZ] at QM ⊢;generalize w6.alloc (.cells #[Wz ob] 215)=w8 at *;have D7:=a_ (QM.perm (R':=UK++((Bm,.cells #[Wz ob] 215 (0,0))::(Ro++(Rf++((gb,.cells #[Wz fb] 251 (0,0))::(Rr++ [(bm,.cells #[Wz m] 92 (0,0))])))))) aF);have Qo:=a_ (D6.at_.right.left.2);clear D6 rZ QM;refine (wpIn_wide (n:=3)).1 ?_;have gv:=eM (λ(pre:List (Nat×Nat)) (Rl:BL)=>aH m words page room (t+words/page) (y.pk v.wd v (aG (ek pre) words)) Rl) (Rm++Rr) w HT Hg;refine dC (gf:=254) (lb:= #[.pointer (some ⟨Bm,0,none⟩)]) rfl dS (fL (Bm:=Bm) (T:=215) O2) (λ_=>rfl) ((Bm,.cells #[Wz ob] 215 (0,0))::(Ro++(Rf++((gb,.cells #[Wz fb] 251 (0,0))::(Rr++ [(bm,.cells #[Wz m] 92 (0,0))])))))
  (λx hx=>by
   rcases List.mem_cons.1 hx with rfl | hx
   ·exact List.mem_cons_self ..
   ·exact List.mem_cons_of_mem _ (List.mem_append_left _ hx))
  (λpre K W=>∃Rl:BL,(aH m words page room (t+words/page) (y.pk v.wd v (aG (ek pre) words)) Rl)/\ag (Rm++Rr) (Rl++K) w W) (λc pre K W=>False/\∃Rl:BL,(aH m words page room (t+words/page) (y.pk v.wd v (aG (ek pre) words)) Rl)/\ag (Rm++Rr) (Rl++K) w W) gv (λc=>gv.and _) ⟨_,(by rw[show aG (ek []) words=0 from dD λi _=>rfl];exact M6),D7.out⟩ ?Nb ?jE ?rG ?rR ?th
 case jE=>
  intro l x W K hK;simp only[gg,eK,List.setIfInBounds_toArray,List.set_cons_zero,List.set_cons_succ]
  gi_wp2
  exact hK
 case rG=>
  clear D7;intro l' pre x post K' W gz hsub hi;obtain⟨e1,e2,e3⟩:=eC O2.ok gz;obtain⟨x,z0⟩:=x;simp only at e1 e2 e3;obtain⟨Rl,hm,hD⟩:=hi;have hcm:=cnt_more O2.ok gz;rw[uj O2.out.ok gz] at hm;have HM:=a_ (FW fb Rf K' Rl x z0 (aG (dI y.E) x) W F3 Qo (λu hu=>hsub u (by simp[hu])) hD hm e2 e1 rfl);rw[←hcm] at HM;have HD:=a_ hD;have k1:=an (hD.has.right.one (hsub (bm,.cells #[Wz m] 92 (0,0)) (by simp))) 0 _ rfl;have k2:=an (hD.has.right.one (hsub (gb,.cells #[Wz fb] 251 (0,0)) (by simp))) 0 _ rfl;clear hm hD e1 e2 e3 gz gv hsub hcm FW CO ug gd
  gi_wp2_with (refine⟨trivial,rfl,?_⟩;gi_at_call 176;refine (CallsIn.inRound l' (callsIn_wide.2 HM)).mono ?_;rintro e w9 ⟨rfl,R9,x9,d9⟩;have X9:=a_ x9;have H9:=a_ (HD.step d9);clear x9 d9)
  exact⟨R9,X9,H9⟩
 case rR=>
  clear D7 gv FW gd M6;intro D W hi;obtain⟨Rl,hm,hD⟩:=hi;rw[cnt_whole O2.out.ok,Hn.out.1] at hm;have H:=a_ hm;have D8:=a_ (hD.perm (R':=Rr++(Rl++((D,.deferred (some []))::(Bm,.cells #[Wz ob] 215 (0,0))::(Ro++(Rf++((gb,.cells #[Wz fb] 251 (0,0)):: [(bm,.cells #[Wz m] 92 (0,0))])))))) aF);clear hm hD;have JF:=a_ (pW (w:=W) (step:=λ(_:Unit) x=>((),y.to x)) (first:= #[]) (caps:= #[.pointer (some ⟨gb,0,none⟩)]) (F:=177) (λargs w=>(by kernel_rfl))
   (I:=λ(_:Unit) Rst=>Rst=(Rl++((D,.deferred (some []))::(Bm,.cells #[Wz ob] 215 (0,0))::(Ro++(Rf++((gb,.cells #[Wz fb] 251 (0,0)):: [(bm,.cells #[Wz m] 92 (0,0))])))))) (st:=()) (λs x E Rst W2 _ _ hI hd=>by
    subst hI;refine (ug fb gb Rf W2 F3 hd.at_.right.right.tail.tail.right.left (an hd.has.right.right.tail.tail.right.right.head 0 _ rfl) (x:Nat)).kq ?_;rintro W3 hb;exact⟨rfl,_,rfl,hd.grow hb⟩) Hr rfl D8)
  rw[Ar λx:Nat=>y.to x] at JF;have gd:=a_ (λRx zK W2 (h:Has (Rx++(zK++((D,.deferred (some []))::(Bm,.cells #[Wz ob] 215 (0,0))::(Ro++(Rf++((gb,.cells #[Wz fb] 251 (0,0)):: [(bm,.cells #[Wz m] 92 (0,0))])))))) W2)=>
   (show W2.cell? ⟨bm,0,none⟩=some (.pointer (some ⟨m,0,none⟩))/\W2.cell? ⟨gb,0,none⟩=some (.pointer (some ⟨fb,0,none⟩)) from
   ⟨an h.right.right.tail.tail.right.right.tail.head 0 _ rfl,an h.right.right.tail.tail.right.right.head 0 _ rfl⟩))
  have zm:=a_ (λvv Rx W2 (h:aH m words page room (t+words/page) vv Rx) (hA:Has Rx W2)=>lG h hA);obtain⟨hF1,Vf,PW⟩:=hF;obtain⟨qF,Bj⟩:∃qF,F/page=qF:=⟨_,rfl⟩
  obtain⟨nn,hn⟩:∃nn,(T+page-1)/page-qF=nn:=⟨_,rfl⟩
  have Iw:F=qF*page:=by rw[←Bj,Nat.div_mul_cancel (Nat.dvd_of_mod_eq_zero Iy)]
  have Ad:∀x,x<(T+page-1)/page↔x*page<T:=λx=>tx tN
  have qz:qF+nn=(T+page-1)/page:=by
   have:qF<=(T+page-1)/page:=by
    rw[Nat.le_div_iff_mul_le (by omega),←Iw];omega
   omega
  have qy:∀j,j<nn↔(qF+j)*page<T:=λj=>by
   rw[←Ad];omega
  have sa:=a_ qy;have ht1:(F:Int).tdiv (page:Int)=(qF:Int):=by
   rw[Int.tdiv_eq_ediv_of_nonneg (by omega),←Bj];rfl
  have ht2:IntKind.i64.wrap (qF:Int)=qF:=IntWalk.i64_in _ (by have:=Nat.div_le_self F page;omega);have KQ:((page:Int)==0)=false:=by rw[beq_eq_false_iff_ne];omega
  have KR:¬(page:Int)=0:=by omega
  have KS:¬page=0:=by omega
  have Ib:=a_ (And.intro Bj (And.intro hn qz));clear Bj hn qz Iw Ad qy Iy
  gi_wp2
  go_wp2_with (first
   | (go_at_call 166;refine JF.kq ?_;rintro w9 ⟨zK,Rst9,r9,rfl,d9⟩;have RR:=a_ r9;have iJ:=a_ (d9.perm (R':=Rl++(zK++((D,.deferred (some []))::(Bm,.cells #[Wz ob] 215 (0,0))::(Ro++(Rf++((gb,.cells #[Wz fb] 251 (0,0)):: [(bm,.cells #[Wz m] 92 (0,0))])))))) aF);clear r9 d9;obtain⟨k1,k2⟩:=gd Rl zK w9 iJ.has)
   | (go_at_call 169;refine (zm _ Rl w9 H iJ.has.left).kq ?_;rintro FN rfl))
  clear JF D8 ug k1 k2 ht1 ht2
  go_loopw [20] (λqv wr=>∃(j:Nat) (Rx:BL),qv= .int .i64 ((qF:Int)+j)/\j<=nn/\aH m words page room (t+words/page) (fA (words/page) (λq=>decide (F+n<=q*page)) qF j (y.pk v.wd v n)) Rx/\ag (Rm++Rr) (Rx++(zK++((D,.deferred (some []))::(Bm,.cells #[Wz ob] 215 (0,0))::(Ro++(Rf++((gb,.cells #[Wz fb] 251 (0,0)):: [(bm,.cells #[Wz m] 92 (0,0))])))))) w wr) (λqv _=>(qF+nn)-(intOf qv).toNat)
  case atStart=>exact⟨0,Rl,by simp,Nat.zero_le _,H,iJ⟩
  case round=>
   clear iJ H;obtain⟨j,Rx,rfl,hj,hM,hD⟩:=hrel;obtain⟨-, -,qz⟩:=Ib.out;have NG:(qF+j)*page<=2000000:=by
    have h1:(qF+j)*page<=(qF+nn)*page:=Nat.mul_le_mul_right _ (by omega);rw[qz] at h1;have h2:=Nat.div_mul_le_self (T+page-1) page;have h3:page<=256:=by rcases hp with q | q | q | q | q | q | q | q | q<;>omega
    omega
   have KM:qF+j<=words:=by
    have h1:qF+nn<=T:=by
     rw[qz];have:(T+page-1)/page<T+1:=by
      rw[Nat.div_lt_iff_lt_mul (by omega),Nat.add_mul,Nat.one_mul];have:=Nat.le_mul_of_pos_right T (show 0<page by omega);omega
     omega
    omega
   have nK:fA (words/page) (λq=>decide (F+n<=q*page)) qF (j+1) (y.pk v.wd v n)=if F+n<=(qF+j)*page then bY (words/page) (fA (words/page) (λq=>decide (F+n<=q*page)) qF j (y.pk v.wd v n)) ((qF:Int)+j) else fA (words/page) (λq=>decide (F+n<=q*page)) qF j (y.pk v.wd v n):=by
    rw[fA,show ((qF+j:Nat):Int)=(qF:Int)+j from by omega];simp only[decide_eq_true_eq]
   obtain⟨Pq,Eg⟩:∃Pq,(qF+j)*page=Pq:=⟨_,rfl⟩
   have tM:IntKind.i64.wrap (((qF:Int)+j)*page)=(Pq:Int):=by
    have e:((qF:Int)+j)*page=(Pq:Int):=by
     rw[←Eg]
     push_cast
     rfl
    rw[e];exact IntWalk.i64_in _ (by omega)
   have kO:=sa j;rw[Eg] at kO NG nK;obtain⟨HM,HD⟩:=aO hM hD;obtain⟨k1,k2⟩:=gd Rx zK wr hD.has;have Sx:=a_ (zm _ Rx wr hM hD.has.left);have TW:=a_ (fV (w:=wr) λW hW=>Calls.gE (zm _ Rx W hM (hD.grow hW).has.left));have TZ:=a_ (fV (w:=wr) λW hW=>CO fb Rf W F3 (hD.grow hW).at_.right.right.tail.tail.right.left);clear hM hD qz Eg;by_cases gR:j<nn
   ·have KC:=kO.1 gR;have g1:decide ((Pq:Int)<T)=true:=kr;clear kO;have c1:=cell_regrown k1;have c2:=cell_regrown k2
    go_wp2_with (go_at_call 169;refine Sx.kq ?_;rintro FN rfl)
    refine wp_region_quiet_below (by kernel_rfl) (by kernel_rfl) ?_
    repeat (quiet_step ((first | (go_at_call 169;exact TW _ _) | (go_at_call 174;exact TZ _ _))))
    refine wpQuiet_nil ?_;intro _ tZ;obtain⟨⟨dq,sQ⟩,iW⟩:=tZ;subst iW;have gq:=a_ (HD.grow (below_regrown wr dq sQ));clear c1 c2 k1 k2 Sx TW TZ g1 HD;obtain⟨Au,KV⟩:∃Au,grow (redrawn wr dq) sQ=Au:=⟨_,rfl⟩
    rw[KV] at gq;simp only[KV];clear KV;obtain⟨k1,k2⟩:=gd Rx zK Au gq.has;have Fy:=a_ (oE (w:=Au) HM gq.at_.left ((qF+j:Nat):Int));rw[show ((qF+j:Nat):Int)=(qF:Int)+j from by omega] at Fy;have t2:=eH ((qF:Int)+j+1);have zH:=a_ nK;clear nK KC tM;by_cases hz0:F+n<=Pq
    ·have g3:((F+n:Nat):Int)<=Pq:=by omega
     have g4:decide (((F+n:Nat):Int)<=Pq)=true:=decide_eq_true g3;have g5:(F:Int)+n<=Pq:=by omega
     have JL:=a_ hz0
     go_wp2_with (go_at_call 170;refine Fy.kq ?_;rintro Ww ⟨Ly,m3,d3⟩;have M3:=a_ m3;have D3:=a_ (gq.step d3);clear m3 d3)
     go_roundw
     case rel=>exact⟨j+1,Ly,by go_num,gR,by rw[zH.out,b9 JL.out];exact M3,D3⟩
     case measure=>simp[intOf];omega
    ·have g3:¬((F+n:Nat):Int)<=Pq:=by omega
     have g4:decide (((F+n:Nat):Int)<=Pq)=false:=decide_eq_false g3;have g5:¬(F:Int)+n<=Pq:=by omega
     have JL:=a_ hz0;clear Fy;go_wp2
     go_roundw
     case rel=>exact⟨j+1,Rx,by go_num,gR,by rw[zH.out,b_ JL.out];exact HM,gq⟩
     case measure=>simp[intOf];omega
   ·obtain rfl:j=nn:=by omega
    have g2:¬Pq<T:=λq=>gR (kO.2 q)
    have g1:decide ((Pq:Int)<T)=false:=dP;clear kO;have HTOP:=a_ (CO fb Rf wr F3 HD.at_.right.right.tail.tail.right.left)
    go_wp2_with (first | (go_at_call 169;refine Sx.kq ?_;rintro FN rfl) | (go_at_call 174;refine HTOP.kq ?_;rintro Wv hb;have gq:=a_ (HD.grow hb);clear hb))
    obtain⟨h1,h2,h3⟩:=Ib.out;have qe:=(gq.perm (R':=(D,.deferred (some []))::((Rx++zK)++((Bm,.cells #[Wz ob] 215 (0,0))::(Ro++(Rf++((gb,.cells #[Wz fb] 251 (0,0)):: [(bm,.cells #[Wz m] 92 (0,0))])))))) aF)
    have tX:=qe.has.head;refine⟨by simp,.inl ⟨_,_,rfl,run_takeDeferred tX,?_⟩⟩;refine⟨.tuple #[(F+n:Nat),Wy],by simp[results,results86,go_sem],rfl,Rx,zK,?_,RR,(qe.putObj (.deferred none)).tail.bN⟩;rw[h1,h2];exact HM
 case th=>
  rintro D c pre W hp ⟨hf, -⟩;exact hf.elim
end
section
variable {hb m rb T:Nat} {S:HS} {R:BL} {w w':World}
theorem HS.Good.needP (h:S.Good) (h1:S.c.kind≠1) (h2:S.c.kind≠2):dc S.c.mw S.c.page S.c.room S.v (S.aa:Nat) (S.aa+S.iX.aq:Nat)=0/\bH S.c.mw S.c.page S.c.room S.v (S.aa:Nat) (S.aa+S.iX.aq:Nat)=S.v:=by
 have hk:=h.iN h1;obtain⟨l1,l2,l3⟩:=h.nS hk;have hl:S.iX.aq=S.m.aq:=l1;rw[hl];obtain⟨r1,r2,r3,r4,r5⟩:=h.aX.run;obtain⟨⟨d1,d2⟩,d3,d4,d5,d6,d7⟩:=h.aX.bG.fX;have ht:=h.aX.top;rcases (h.EX h1).2.2.2.2.2 with q | q
 ·by_cases h0:S.m.aq=0
  ·exact jQ (by omega) (by omega)
  ·have EF:=nu (h.aX.closed hk) h.aX.used d1 r2 ht.1 (by rw[Nat.div_mul_cancel (Nat.dvd_of_mod_eq_zero d4)];omega);have hu:=(Nat.le_div_iff_mul_le (by omega)).2 (Jn (p:=S.c.page) (t:=S.top-S.aa) (x:=S.c.words) d1 (by omega) d3);have hroom:S.c.room=S.c.words/S.c.page:=by
    unfold HC.room;rw[b_ h1,b_ h2]
   have:=jq (words:=S.c.mw) (page:=S.c.page) (room:=S.c.room) (v:=S.v) (a:=S.aa) (b:=S.aa+S.m.aq) (by omega) (by omega) (by rw[q,EF,hroom];exact hu);rw[q] at this;exact this
 ·exact jQ (by omega) (by omega)
theorem pack_hs {Rm Rr:BL} (h:S.Good) (h1:S.c.kind≠1) (h2:S.c.kind≠2) (hm:aH m S.c.mw S.c.page S.c.room T S.v Rm) (ht:T<=999000000000000) (hr:dO rb S.rs Rr) (hR:At (Rm++Rr) w) (hT:ax w) (hg:aD (Rm++Rr)):
  WA 86 #[Wz m,Wz rb,S.aa,S.top,S.c.aL] w λe w'=>e= .returned (.tuple #[(S.aa+S.iX.aq:Nat),Wy])/\∃bI fG,
   aH m S.c.mw S.c.page S.c.room (T+S.c.mw/S.c.page) S.packed.v bI/\dO rb S.packed.rs fG/\ag (Rm++Rr) (bI++fG) w w':=by
 have hk:=h.iN h1;obtain⟨St,hw,hz,hf⟩:=h.wP hk;obtain⟨⟨d1,d2⟩,d3,d4,d5,d6,d7⟩:=h.aX.bG.fX;obtain⟨r1,r2,r3,r4,r5⟩:=h.aX.run;obtain⟨n1,n2⟩:=h.needP h1 h2;refine (pack_run (w:=w) (y:=S.iX) (n:=S.iX.aq) (h.pkW hk) rfl rfl hm ht hr hw hz hf ⟨r1,h.aX.top.1,r4⟩ r2 h.aX.bG.page d1 h.aX.bG.aL ⟨by omega,by omega⟩ rfl n1 n2 hR hT hg).kq ?_;rintro w' ⟨bI,fG,x1,x2,x3⟩;exact⟨rfl,bI,fG,x1,by rw[show S.packed.rs=_ from (h.BJ hk S.iX rfl).symm];exact x2,x3⟩
end
section
variable {hb m rb T:Nat} {S:HS} {R:BL} {w w':World}
theorem collect3_h (h:ak hb m rb S T R) (hg:S.Good) (h1:S.c.kind≠1) (h2:S.c.kind≠2) (hR:At R w) (hT:ax w) (hN:aD R) (bJ:T<=600000000000000):
  WA 28 #[Wz hb] w λe w'=>e= .returned (.tuple #[])/\∃R',ak hb m rb S.collect (T+10000000000) R'/\ag R R' w w':=by
 have hk:=hg.iN h1;have xS:S.collect=S.packed:=by
  unfold HS.collect;rw[b_ h1,b_ h2]
 have h3:S.c.kind=3:=by have:=hg.aX.bG.kind;omega
 obtain⟨p1,p2,p3,p4,p5,p6⟩:=hg.EX h1;have Fc:S.aa<=S.packed.top/\S.packed.top<=S.aa+S.c.words:=p1.aX.top;obtain⟨en,dX,run,cy,Rr,Rx,hr,hM,rfl⟩:=h;obtain⟨rfl,hm⟩:=hM.none_ hk;obtain⟨⟨d1,d2⟩,d3,d4,d5,d6,d7⟩:=hg.aX.bG.fX;have SH:S.c.mw/S.c.page<=4352:=Nat.le_trans (Nat.div_le_self _ _) d5;have TS:=a_ (λK W (hd:ag ((hb,bK S.c m rb run none S.ae S.af)::(run,bF m S.aa S.top (S.aa+S.c.words))::(Rr++Rx)) ((Rx++Rr)++K) w W)=>(show WA 86 #[Wz m,Wz rb,S.aa,S.top,S.c.aL] W λe w'=>e= .returned (.tuple #[(S.packed.top:Nat),Wy])/\∃bI fG,aH m S.c.mw S.c.page S.c.room (T+S.c.mw/S.c.page) S.packed.v bI/\dO rb S.packed.rs fG/\ag (Rx++Rr) (bI++fG) W w' from
  pack_hs (w:=W) hg h1 h2 hm (by omega) hr hd.at_.left (hd.tz hT hN) (aD.app.1 (hd.cK hT hN)).1))
 have TB:=a_ (λW (h:Has [(run,bF m S.aa S.top (S.aa+S.c.words))] W)=>oo (w:=W) h.head);have CN:=a_ (λW (h:Has [(run,bF m S.aa S.top (S.aa+S.c.words))] W)=>wF (w:=W) h.head);have HSE:=a_ (λW (h:At [(run,bF m S.aa S.top (S.aa+S.c.words))] W)=>Fg (w:=W) h Fc);have gd:=a_ (λW K (h:Has ((hb,bK S.c m rb run none S.ae S.af)::K) W)=>(show W.cell? ⟨hb,8,none⟩=some (.pointer (some ⟨m,0,none⟩))/\W.cell? ⟨hb,9,none⟩=some (.pointer (some ⟨rb,0,none⟩))/\W.cell? ⟨hb,10,none⟩=some (.pointer (some ⟨run,0,none⟩))/\W.cell? ⟨hb,5,none⟩=some (.int .i64 S.c.aL) from
  have hc:=az (S:=S) h.head
  ⟨hc.c8,hc.c9,hc.dW,hc.c5⟩))
 have qL:=a_ (λbI fG (x1:aH m S.c.mw S.c.page S.c.room (T+S.c.mw/S.c.page) S.packed.v bI) (x2:dO rb S.packed.rs fG)=>(show ak hb m rb S.packed (T+10000000000) ((hb,bK S.c m rb run none (S.ae+1) S.af)::(run,bF m S.aa S.packed.top (S.aa+S.c.words))::(fG++bI)) from
  ⟨by show S.ae+1<=_;omega,by show S.af<=_;omega,run,none,fG,bI,x2,.KZ p4 (x1.more (by omega)),rfl⟩))
 have s1:IntKind.i64.wrap ((S.ae:Int)+1)=((S.ae+1:Nat):Int):=by rw[IntWalk.i64_in _ (by omega)];omega
 have S1:=a_ s1;rw[xS];have D0:=a_ (ag.refl hR);have hcs:=az (S:=S) hR.1.head;have hn:=a_ (ev w hcs.c8);have c0:=hcs.c0;rw[h3] at c0;have ks:=gd _ _ hR.1;clear hcs hg h1 h2 h3 hk xS p1 p2 p3 p4 p5 p6 Fc en dX hr hM hm d1 d2 d3 d4 d5 d6 d7 SH hR hT hN bJ;generalize S.packed.top=tp at *;go_enter func28,ntmps28
 go_wp2_with (go_at_call 48;refine hn.out.kq ?_;rintro w1 rfl)
 have D1:=a_ (D0.drew.perm (R':=(run,bF m S.aa S.top (S.aa+S.c.words))::((hb,bK S.c m rb run none S.ae S.af)::(Rr++Rx))) aF);clear c0;refine wp_region_held_drew (S:=λW=>W.cell? ⟨hb,8,none⟩=some (.pointer (some ⟨m,0,none⟩))/\W.cell? ⟨hb,9,none⟩=some (.pointer (some ⟨rb,0,none⟩))/\W.cell? ⟨hb,10,none⟩=some (.pointer (some ⟨run,0,none⟩))/\W.cell? ⟨hb,5,none⟩=some (.int .i64 S.c.aL)) (by kernel_rfl) ks (λhHeld=>?_);generalize w.drew=w1 at *;refine bz 0 ?_;refine bz 1 ?_;refine bz 2 ?_;refine bz 3 ?_;refine bz 4 ?_;refine bz 5 ?_;refine bz 6 ?_;refine bz 7 ?_;refine bz 8 ?_;refine bz 9 ?_;refine bz 10 ?_;refine bz 11 ?_;refine bz 13 ?_;refine bz 14 ?_;refine bz 15 ?_;refine bz 16 ?_;refine bz 18 ?_;refine bz 19 ?_;refine bz 20 ?_;refine bz 21 ?_;refine bz 22 ?_;simp only[aI];refine pT 12 (λK hK=>?_);go_simp;refine (TB _ (Has.left (A:= [_]) D1.has)).kq ?_;rintro w2 rfl;refine hK _ _ hHeld (λhHeld=>?_);clear hK K
 try simp only[aI]
 refine pT 17 (λK hK=>?_);go_simp;refine (CN _ (Has.left (A:= [_]) D1.has)).kq ?_;rintro w2 rfl;refine hK _ _ hHeld (λhHeld=>?_);clear hK K
 try simp only[aI]
 refine pT 23 (λK hK=>?_);go_simp;have D2:=a_ (D1.perm (R':=(Rx++Rr)++ [(run,bF m S.aa S.top (S.aa+S.c.words)),(hb,bK S.c m rb run none S.ae S.af)]) aF);refine (TS _ _ D2).kq ?_;rintro w3 ⟨bI,fG,x1,x2,x3⟩;have X:=a_ (qL bI fG x1 x2);have D3:=a_ ((D2.step x3).perm (R':=(hb,bK S.c m rb run none S.ae S.af)::([(run,bF m S.aa S.top (S.aa+S.c.words))]++(fG++bI))) aF);clear x1 x2 x3;refine hK _ _ (gd _ _ D3.has) (λhHeld=>?_);clear hK K
 try simp only[aI]
 refine bz 24 ?_;refine bz 25 ?_;refine bz 26 ?_;refine bz 27 ?_;refine bz 28 ?_;simp only[aI];refine wpAnyH_done (by kernel_rfl) ?_ _
 try simp only[aI]
 obtain⟨k8,k9,Wj,k5⟩:=hHeld;clear ks D0 D1 D2 TS TB CN qL
 go_wp2_with (go_at_call 87;refine (HSE _ (At.left (A:= [(run,bF m S.aa S.top (S.aa+S.c.words))]) (At.right (A:= [(hb,bK S.c m rb run none S.ae S.af)]) D3.at_))).kq ?_;rintro w4 d4;have D4:=a_ (((D3.perm (R':= [(run,bF m S.aa S.top (S.aa+S.c.words))]++((hb,bK S.c m rb run none S.ae S.af)::(fG++bI))) aF).step d4).perm (R':=(hb,bK S.c m rb run none S.ae S.af)::(run,bF m S.aa tp (S.aa+S.c.words))::(fG++bI)) aF);clear d4;have nk:=an D4.has.head 12 (.int .i64 S.ae) rfl;have f12:=br D4.has.head 12)
 have D5:=a_ (show ag _ ((hb,bK S.c m rb run none (S.ae+1) S.af)::(run,bF m S.aa tp (S.aa+S.c.words))::(fG++bI)) w (w4.setCell ⟨hb,12,none⟩ (.int .i64 (S.ae+1:Nat))) from D4.set 12 (S.ae+1:Nat))
 go_end0
 exact⟨rfl,_,X,D5⟩
end
section
variable {hb m rb T:Nat} {S:HS} {R:BL} {w w':World}
theorem copy_hs {Rm Rr:BL} (h:S.Good) (h2:S.c.kind=2) (hm:aH m S.c.mw S.c.page S.c.room T S.v Rm) (ht:T<=999000000000000) (hr:dO rb S.rs Rr) (hR:At (Rm++Rr) w) (hT:ax w) (hg:aD (Rm++Rr)):
  WA 84 #[Wz m,Wz rb,.agg S.bG.cells] w λe w'=>e= .returned (.tuple #[(S.copied.top:Nat),Wy])/\∃bI fG,
   aH m S.c.mw S.c.page S.c.room (T+S.c.mw/S.c.page) S.copied.v bI/\dO rb S.copied.rs fG/\ag (Rm++Rr) (bI++fG) w w':=by
 have hk:=h.iN (by omega);obtain⟨St,hw,hz,hf⟩:=h.wP hk;obtain⟨⟨d1,d2⟩,d3,d4,d5,d6,d7⟩:=h.aX.bG.fX;obtain⟨r1,r2,r3,r4,r5⟩:=h.aX.run;obtain⟨c1,c2,c3,c4⟩:=h.cpW h2;obtain⟨p1,p2,p3,p4,p5,p6,p7,p8,p9⟩:=h.zP h2;refine (copy_run (w:=w) (c:=S.bG) (n:=S.m.aq) (v1:=S.db) hm ht hr hw hz hf (h.aX.Jj (by omega)) h.aX.bG.page d1 (by
  rw[c3];show S.m.aq<=S.other+S.c.words-S.other
  omega) ⟨by omega,by omega⟩ c3 p6 rfl c1 c2 hR hT hg).mono ?_
 rintro e w' ⟨rfl,bI,fG,x1,x2,x3⟩;refine⟨?_,bI,fG,x1,?_,x3⟩
 ·show Ending.returned (.tuple #[(S.other+bW S.db.wd S.Cl.l:Nat),Wy])=_
  rw[p8];rfl
 ·rw[←p7];exact x2
end
section
variable {hb m rb T:Nat} {S:HS} {R:BL} {w w':World}
theorem collect2_h (h:ak hb m rb S T R) (hG:S.Good) (h2:S.c.kind=2) (hR:At R w) (hT:ax w) (hN:aD R) (bJ:T<=600000000000000):
  WA 28 #[Wz hb] w λe w'=>e= .returned (.tuple #[])/\∃R',ak hb m rb S.collect (T+10000000000) R'/\ag R R' w w':=by
 have hk:=hG.iN (by omega);have xS:S.collect=S.copied:=by
  unfold HS.collect;rw[cG,b9 h2]
 obtain⟨p1,p2,p3,p4,p5,p6,p7,p8,p9⟩:=hG.zP h2;have Fc:S.other<=S.copied.top/\S.copied.top<=S.other+S.c.words:=p1.aX.top;obtain⟨en,dX,run,cy,Rr,Rx,hr,hM,rfl⟩:=h;obtain⟨rfl,hm⟩:=hM.none_ hk;obtain⟨⟨d1,d2⟩,d3,d4,d5,d6,d7⟩:=hG.aX.bG.fX;have GI:=hG.aX.bG.GQ;obtain⟨o1,o2,o3,o4⟩:=hG.aX.pN (by omega);have SH:S.c.mw/S.c.page<=4352:=Nat.le_trans (Nat.div_le_self _ _) d5;have D0:=a_ (ag.refl hR);have Ho:=a_ (λW (h:At [(hb,bK S.c m rb run none S.ae S.af),(run,bF m S.aa S.top (S.aa+S.c.words))] W)=>Fa (w:=W) h (by rcases hG.aX.aa with q | q<;>omega) ⟨by omega,by omega⟩);have vr:=a_ (λK W (hd:ag ((hb,bK S.c m rb run none S.ae S.af)::(run,bF m S.aa S.top (S.aa+S.c.words))::(Rr++Rx)) ((Rx++Rr)++K) w W)=>copy_hs (w:=W) hG h2 hm (by omega) hr hd.at_.left (hd.tz hT hN) (aD.app.1 (hd.cK hT hN)).1);have PA:=a_ (λRm W (hm:aH m S.c.mw S.c.page S.c.room (T+S.c.mw/S.c.page) S.copied.v Rm) (hA:At ((hb,bK S.c m rb run none S.ae S.af)::Rm) W)=>EL (S:=S) (w:=W) (b:=S.other) (x:=S.copied.top) hm (by omega) o3 Fc (by omega) hA);have qL:=a_ (λr bI fG (x1:aH m S.c.mw S.c.page S.c.room (T+S.c.mw/S.c.page) S.copied.v bI) (x2:dO rb S.copied.rs fG)=>(show ak hb m rb S.copied (T+10000000000) ((hb,bK S.c m rb r none (S.ae+1) S.af)::(r,bF m S.other S.copied.top (S.other+S.c.words))::(fG++bI)) from
  ⟨by show S.ae+1<=_;omega,by show S.af<=_;omega,r,none,fG,bI,x2,.KZ p4 (x1.more (by omega)),rfl⟩))
 have gd:=a_ (λW B K (h:Has ((hb,bK S.c m rb run none S.ae S.af)::(B,.cells S.bG.cells 126 (0,0))::K) W)=>(show W.cell? ⟨hb,8,none⟩=some (.pointer (some ⟨m,0,none⟩))/\W.cell? ⟨hb,9,none⟩=some (.pointer (some ⟨rb,0,none⟩))/\W.cell? ⟨B,0,none⟩=some (.int .i64 S.aa)/\W.cell? ⟨B,1,none⟩=some (.int .i64 S.top)/\W.cell? ⟨B,2,none⟩=some (.int .i64 S.other)/\W.cell? ⟨B,3,none⟩=some (.int .i64 (S.other+S.c.words:Nat))/\W.cell? ⟨B,4,none⟩=some (.int .i64 S.c.block)/\W.cell? ⟨B,5,none⟩=some (.int .i64 S.c.aL)/\W.cell? ⟨B,6,none⟩=some (.int .i64 S.c.aE) from
  have hc:=az (S:=S) h.head;have q:=h.tail.head
  ⟨hc.c8,hc.c9,an q 0 _ rfl,an q 1 _ rfl,an q 2 _ rfl,an q 3 _ rfl,an q 4 _ rfl,an q 5 _ rfl,an q 6 _ rfl⟩))
 have s1:IntKind.i64.wrap ((S.ae:Int)+1)=((S.ae+1:Nat):Int):=by rw[IntWalk.i64_in _ (by omega)];omega
 have Ko:=az (S:=S) hR.1.head;have hn:=a_ (ev w Ko.c8);have c0:=Ko.c0;rw[h2] at c0;rw[xS];clear Ko xS en dX hr hM hm hG hk h2 hR hT hN bJ d1 d2 d3 d4 d5 d6 d7 GI o1 o2 o3 o4 SH p1 p2 p3 p4 p5 p6 p7 p8 p9 Fc;unfold HS.bG eZ.cells at *;simp only at *;generalize S.other+S.c.words=lm at *;generalize S.copied.top=tp at *;go_enter func28,ntmps28
 go_wp2_with (first | (go_at_call 48;refine hn.out.kq ?_;rintro w1 rfl) | (go_at_call 83;refine (Ho _ (At.left (A:= [_,_]) D0.at_)).kq ?_;rintro w1 bp;have GR:=a_ (D0.grow bp);clear bp))
 have Cb:=GR.box #[S.aa,S.top,S.other,lm,S.c.block,S.c.aL,S.c.aE] 126;obtain⟨B,hB⟩:∃B,w1.heap.size=B:=⟨_,rfl⟩
 rw[hB] at Cb;rw[hB];generalize w1.alloc (.cells #[S.aa,S.top,S.other,lm,S.c.block,S.c.aL,S.c.aE] 126)=w2 at *;have D2:=a_ (Cb.perm (R':=(hb,bK S.c m rb run none S.ae S.af)::(B,.cells #[S.aa,S.top,S.other,lm,S.c.block,S.c.aL,S.c.aE] 126 (0,0))::(run,bF m S.aa S.top (S.aa+S.c.words))::(Rr++Rx)) aF);clear Cb GR D0 Ho hB c0 hn;have D3:=a_ D2.drew;have hcs:=gd _ B _ D2.has;refine wp_region_held_drew (S:=λW=>W.cell? ⟨hb,8,none⟩=some (.pointer (some ⟨m,0,none⟩))/\W.cell? ⟨hb,9,none⟩=some (.pointer (some ⟨rb,0,none⟩))/\W.cell? ⟨B,0,none⟩=some (.int .i64 S.aa)/\W.cell? ⟨B,1,none⟩=some (.int .i64 S.top)/\W.cell? ⟨B,2,none⟩=some (.int .i64 S.other)/\W.cell? ⟨B,3,none⟩=some (.int .i64 lm)/\W.cell? ⟨B,4,none⟩=some (.int .i64 S.c.block)/\W.cell? ⟨B,5,none⟩=some (.int .i64 S.c.aL)/\W.cell? ⟨B,6,none⟩=some (.int .i64 S.c.aE)) (by kernel_rfl) hcs (λhHeld=>?_);generalize w2.drew=w3 at *;refine bz 0 ?_;refine bz 1 ?_;refine bz 2 ?_;refine bz 3 ?_;refine bz 4 ?_;refine bz 5 ?_;refine bz 6 ?_;refine bz 7 ?_;refine bz 8 ?_;simp only[aI];refine pT 9 (λK hK=>?_);go_simp;have Cc:=a_ (D3.perm (R':=(Rx++Rr)++((hb,bK S.c m rb run none S.ae S.af)::(B,.cells #[S.aa,S.top,S.other,lm,S.c.block,S.c.aL,S.c.aE] 126 (0,0)):: [(run,bF m S.aa S.top (S.aa+S.c.words))])) aF);refine (vr _ _ Cc).kq ?_;rintro w4 ⟨bI,fG,m4,r4,d4⟩;obtain⟨M4,R4⟩:=aO m4 r4;have D4:=a_ ((Cc.step d4).perm (R':=(hb,bK S.c m rb run none S.ae S.af)::(B,.cells #[S.aa,S.top,S.other,lm,S.c.block,S.c.aL,S.c.aE] 126 (0,0))::((run,bF m S.aa S.top (S.aa+S.c.words))::(bI++fG))) aF);clear m4 r4 d4 Cc;refine hK _ _ (gd _ _ _ D4.has) (λhHeld=>?_);clear hK K
 try simp only[aI]
 refine bz 10 ?_;refine bz 11 ?_;refine bz 12 ?_;refine bz 13 ?_;refine bz 14 ?_;simp only[aI];refine wpAnyH_done (by kernel_rfl) ?_ _
 try simp only[aI]
 clear hHeld hcs D3 D2 vr gd;have nJ:=an D4.has.tail.head 2 (.int .i64 S.other) rfl;have D7:=a_ (D4.perm (R':=((hb,bK S.c m rb run none S.ae S.af)::bI)++((B,.cells #[S.aa,S.top,S.other,lm,S.c.block,S.c.aL,S.c.aE] 126 (0,0))::((run,bF m S.aa S.top (S.aa+S.c.words))::fG))) aF);clear D4
 go_wp2_with (go_at_call 85;refine (PA bI _ M4 D7.at_.left).kq ?_;rintro w8 ⟨r,d8⟩;have D8:=a_ ((D7.step d8).perm (R':=(hb,bK S.c m rb r none S.ae S.af)::(((r,bF m S.other tp lm)::(fG++bI))++ [(B,.cells #[S.aa,S.top,S.other,lm,S.c.block,S.c.aL,S.c.aE] 126 (0,0)),(run,bF m S.aa S.top (S.aa+S.c.words))])) aF);clear d8 nJ;have nk:=an D8.has.head 12 (.int .i64 S.ae) rfl;have f12:=br D8.has.head 12)
 have D9:=a_ (show ag _ ((hb,bK S.c m rb r none (S.ae+1) S.af)::(((r,bF m S.other tp lm)::(fG++bI))++ [(B,.cells #[S.aa,S.top,S.other,lm,S.c.block,S.c.aL,S.c.aE] 126 (0,0)),(run,bF m S.aa S.top (S.aa+S.c.words))])) w (w8.setCell ⟨hb,12,none⟩ (.int .i64 (S.ae+1:Nat))) from D8.set 12 (S.ae+1:Nat));have X:=a_ (qL r bI fG M4 R4)
 go_end0
 exact⟨rfl,_,X,ag.bN (K:= [(B,.cells #[S.aa,S.top,S.other,lm,S.c.block,S.c.aL,S.c.aE] 126 (0,0)),(run,bF m S.aa S.top (S.aa+S.c.words))]) D9⟩
end
section
variable {hb m rb T:Nat} {S:HS} {R:BL} {w w':World}
theorem po (h:ak hb m rb S T R) (hg:S.Good) (hR:At R w) (hT:ax w) (hN:aD R) (bJ:T<=600000000000000):
  WA 28 #[Wz hb] w λe w'=>e= .returned (.tuple #[])/\∃R',ak hb m rb S.collect (T+10000000000) R'/\ag R R' w w':=by
 by_cases h1:S.c.kind=1
 ·exact collect1_h h hg h1 hR hT hN bJ
 ·by_cases h2:S.c.kind=2
  ·exact collect2_h h hg h2 hR hT hN bJ
  ·exact collect3_h h hg h1 h2 hR hT hN bJ
noncomputable def HS.dJ (S:HS):HS:=match S.bX with
 | some _=>S
 | none=>if S.c.kind=1 then S.open else S.collect
theorem HS.Good.dJ (h:S.Good):S.dJ.Good/\S.dJ.m=S.m/\S.dJ.c=S.c:=by
 cases hk:S.bX with
 | some k=>
  have e:S.dJ=S:=by unfold HS.dJ;rw[hk]
  rw[e];exact⟨h,rfl,rfl⟩
 | none=>
  by_cases h1:S.c.kind=1
  ·have e:S.dJ=S.open:=by unfold HS.dJ;rw[hk];exact b9 h1
   rw[e];obtain⟨o1,o2,o3,o4,o5,o6,o7,o8⟩:=h.opens hk h1;exact⟨o3,o4,o5⟩
  ·have e:S.dJ=S.collect:=by unfold HS.dJ;rw[hk];exact b_ h1
   rw[e];obtain⟨o1,o2,o3,o4,o5⟩:=h.collect;exact⟨o1,o2,o3⟩
theorem start_h (h:ak hb m rb S T R) (hg:S.Good) (hR:At R w) (hT:ax w) (hN:aD R) (bJ:T<=600000000000000):
  WA 15 #[Wz hb] w λe w'=>e= .returned (.tuple #[])/\∃R',ak hb m rb S.dJ (T+10000000000) R'/\ag R R' w w':=by
 have D0:=a_ (ag.refl hR);have HM:=a_ (h.more (T':=T+10000000000) (by omega));have Aw:=a_ (po h hg hR hT hN bJ);have vr:=a_ (λ(hk:S.bX=none) (h1:S.c.kind=1)=>(show WA 56 #[Wz hb] w λe w'=>e= .returned (.tuple #[])/\∃R',ak hb m rb S.open (T+10000000000) R'/\ag R R' w w' from by
  refine (Ak h hg hk h1 hR hT hN (by omega)).kq ?_;rintro w' ⟨R',x,d⟩;exact⟨rfl,R',x.more (by omega),d⟩))
 have Ev:=hg.aX.bG.kind;obtain⟨-, -,run,cy,Rr,Rx, -,hM,rfl⟩:=h;have hcs:=az (S:=S) hR.1.head;have hn:=a_ (ev w hcs.c8);have c0:=hcs.c0;have cC:=hcs.cC
 cases hk:S.bX with
 | some k=>
  obtain⟨cb,T0,rfl, -, -⟩:=hM.some_ hk;have pa:w.cell? ⟨hb,11,none⟩=some (.pointer (some ⟨cb,0,none⟩)):=cC;have e:S.dJ=S:=by unfold HS.dJ;rw[hk]
  rw[e];clear e cC hcs hM hR hT hN bJ hg hk Aw vr Ev;go_enter func15,ntmps15
  go_wp2_with (go_at_call 48;refine hn.out.kq ?_;rintro w1 rfl)
  go_end0
  exact⟨rfl,_,HM,D0⟩
 | none=>
  obtain⟨rfl, -⟩:=hM.none_ hk;have pa:w.cell? ⟨hb,11,none⟩=some (.pointer none):=cC;by_cases h1:S.c.kind=1
  ·have e:S.dJ=S.open:=by unfold HS.dJ;rw[hk];exact b9 h1
   rw[e];have HO:=a_ (vr hk h1);rw[h1] at c0;clear e cC hcs hM hR hT hN bJ hg hk Aw vr Ev h1;go_enter func15,ntmps15
   go_wp2_with (first | (go_at_call 48;refine hn.out.kq ?_;rintro w1 rfl) | (go_at_call 56;refine HO.kq ?_;rintro w2 ⟨R2,x2,d2⟩;have X2:=a_ x2;have D2:=a_ d2;clear x2 d2))
   go_end0
   exact⟨rfl,_,X2,D2⟩
  ·have e:S.dJ=S.collect:=by unfold HS.dJ;rw[hk];exact b_ h1
   rw[e];have g1:((S.c.kind:Int)==1)=false:=by rw[beq_eq_false_iff_ne];omega
   have g2:¬(S.c.kind:Int)=1:=by omega
   clear e cC hcs hM hR hT hN bJ hg hk vr Ev;go_enter func15,ntmps15
   go_wp2_with (first | (go_at_call 48;refine hn.out.kq ?_;rintro w1 rfl) | (go_at_call 28;refine Aw.kq ?_;rintro w2 ⟨R2,x2,d2⟩;have X2:=a_ x2;have D2:=a_ d2;clear x2 d2))
   go_end0
   exact⟨rfl,_,X2,D2⟩
end
end
end Go.Proofs.YtmdgfpeglgpiiaaGreatDoor

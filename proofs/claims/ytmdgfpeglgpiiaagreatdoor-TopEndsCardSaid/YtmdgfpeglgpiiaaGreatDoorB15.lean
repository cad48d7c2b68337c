import Derived.Test.YtmdgfpeglgpiiaaGreatDoorB14
set_option linter.unusedVariables false
set_option linter.unusedSimpArgs false
set_option maxRecDepth 100000
set_option maxHeartbeats 16000000
namespace Go.Proofs.YtmdgfpeglgpiiaaGreatDoor
open Go.ChangeShapes Go.WideShapes Go.ChangeAt Go.RowKit Go.Sort
open Vq Oq Go.Proofs.Tryz
section
variable {P:Program} {ops:Array Oper} {md:Region.Mode} {C:World->Prop}
def oJ (P:Program) (md:Region.Mode) (ops:Array Oper) (C:World->Prop) (n:Nat) (L:Array Bool->Act->Prop):Nat->Array Bool->Act->Prop
 | 0,listed,a=>L listed a
 | f+1,listed,a=>Region.ready md ops listed≠ []/\∀i∈Region.ready md ops listed,i<n/\qOp P ops C i (oJ P md ops C n L f (listed.setIfInBounds i true)) a
theorem ll {n g:Nat} {L:Array Bool->Act->Prop} {Q':Exit->Act->World->Prop} (hL:∀listed a w,C w->L listed a->wpAny P md ops Q' g listed a w):
  ∀(f:Nat) (listed:Array Bool) (a:Act) (w:World),C w->oJ P md ops C n L f listed a->wpAny P md ops Q' (f+g) listed a w
 | 0,listed,a,w,hC,h=>by rw[Nat.zero_add];exact hL _ _ _ hC h
 | f+1,listed,a,w,hC,h=>by
  rw[show f+1+g=(f+g)+1 by omega];exact⟨λh0=>absurd h0 h.1,λi hi=>wpOp_of_qOp hC (λa' w' hC' h'=>ll hL f _ a' w' hC' h') (h.2 i hi).2⟩
theorem wpAnyQL_first {n i:Nat} {oi:Oper} {v:Value} {L:Array Bool->Act->Prop} (hi:ops[i]?=some oi) (jL:∀(j:Nat) (o:Oper) cs b,ops[j]?=some o->o.op≠ .select cs b)
  (hs:Region.sinkB md ops n=true) (hc:Region.chainB md ops n=true) (hn:n<ops.size) (hin:i<n)
  (xU:∀listed a,L listed a->∀j∈Region.ready md ops listed,n<=j):
  ∀(f:Nat) (listed:Array Bool) (a:Act),HeadInv md ops n listed->
   (∀j oj,ops[j]?=some oj->j≠i->listed.getD j true=false->(∀e∈oj.after,Region.binds md e=true->e.on≠i)->oi.apart ops oj=true)->
   i∈Region.ready md ops listed->YieldsIn P ops C oi v a->
   oJ P md ops C n L f (listed.setIfInBounds i true) (a.put oi.dst v)->oJ P md ops C n L (f+1) listed a:=by
 intro f
 induction f with
 | zero=>
  intro listed a inv _ hr hy H;have hun:=(mem_ready.1 hr).1;refine⟨λh=>(by rw[h] at hr;cases hr),λj hj=>?_⟩;have Qj:j<n:=by
   rcases Nat.lt_or_ge j n with h | h
   ·exact h
   ·exact absurd hj (tail_waits hs hc hn inv _ i rfl hin hun j h)
  refine⟨Qj,?_⟩;by_cases hO:j=i
  ·subst hO;exact hy.qOp hi H
  ·have:=xU _ _ H j (ready_mono hj hO);omega
 | succ f ih=>
  intro listed a inv dm hr hy H;have hun:=(mem_ready.1 hr).1;refine⟨λh=>(by rw[h] at hr;cases hr),λj hj=>?_⟩;have Qj:j<n:=by
   rcases Nat.lt_or_ge j n with h | h
   ·exact h
   ·exact absurd hj (tail_waits hs hc hn inv _ i rfl hin hun j h)
  refine⟨Qj,?_⟩;by_cases hO:j=i
  ·subst hO;exact hy.qOp hi H
  ·have h1:=(H.2 j (ready_mono hj hO)).2;obtain⟨nO,oj,pE,hall⟩:=mem_ready.1 hj;have lV:∀e∈oj.after,Region.binds md e=true->e.on≠i:=λe he hb heq=>by
    have h1:=hall e he hb;rw[heq,getD_both hun] at h1
    cases h1
   have h2:=qOp_put pE (dm j oj pE hO nO lV) (λcs b=>jL i oi cs b hi) (λcs b=>jL j oj cs b pE) hy h1;have jK:∀k ok,ops[k]?=some ok->k≠i->(listed.setIfInBounds j true).getD k true=false->
     (∀e∈ok.after,Region.binds md e=true->e.on≠i)->oi.apart ops ok=true:=λk ok hk mH hun hno=>by
    refine dm k ok hk mH ?_ hno;by_cases qP:j=k
    ·subst qP;exact nO
    ·rw[getD_set_ne true qP] at hun;exact hun
   refine qOp_mono (λa' h3=>ih (listed.setIfInBounds j true) a' (inv.set hj Qj) jK (ready_mono hr (Ne.symm hO)) h3.1 ?_) h2;rw[Array.setIfInBounds_comm _ _ hO];exact h3.2
theorem qK {n g:Nat} {Lq:Act->Prop} (jL:Region.noSelect ops=true) (hs:Region.sinkB md ops n=true) (hc:Region.chainB md ops n=true) (hn:n<ops.size):
  ∀(l:List Oper) (k:Nat) (listed:Array Bool) (a:Act),(∀j,j<l.length->l[j]?=ops[k+j]?)->k+l.length=n->HeadInv md ops n listed->
  Region.lexHead md ops g l.length k listed=true->wpQuiet P ops C Lq l a->
  oJ P md ops C n (λBs a'=>Region.seqB md ops g n Bs=true/\Lq a') l.length listed a
 | [],k,listed,a,_,hk,_,hB,h=>by
  have:k=n:=by simpa using hk
  subst this;exact⟨by simpa [Region.lexHead] using hB,h⟩
 | o::l,k,listed,a,hl,hk,inv,hB,h=>by
  have h0:ops[k]?=some o:=by simpa using (hl 0 (by simp)).symm
  simp only[List.length_cons,Region.lexHead,Bool.and_eq_true] at hB;obtain⟨⟨hr,hf⟩,LI⟩:=hB;have hkn:k<n:=by simp only[List.length_cons] at hk;omega
  have GB:k∈Region.ready md ops listed:=by simpa using hr
  have hst:qOp P ops C k (wpQuiet P ops C Lq l) a:=by unfold qOp;simp only[h0];exact h
  obtain⟨v,hy,hK⟩:=yieldsIn_of_qOp h0 hst;exact wpAnyQL_first h0 (Region.noSelect_spec jL) hs hc hn hkn (λBs a' hL=>seqB_ready hL.1) l.length listed a inv (Region.free_spec h0 hf) GB hy
   (qK jL hs hc hn l (k+1) _ _ (λj hj=>by have:=hl (j+1) (by simp;omega);simpa [Nat.add_assoc,Nat.add_comm 1 j] using this) (by simp only[List.length_cons] at hk;omega) (inv.set GB hkn) LI hK)
theorem wp_region_quiet_tail {id:Nat} {Q:Exit->Act->World->Prop} {a:Act} {w:World} {l:List Oper} (n:Nat) (hm:P.follows .mixedOrders=true) (hB:Region.lexTailB .any l.toArray n=true)
  (h:wpQuiet P l.toArray (λw'=>∃p:Regrown,w'=grow (redrawn w p.d) p.os) (λa'=>∀w',(∃p:Regrown,w'=grow (redrawn w p.d) p.os)->wpList P l.toArray Q (l.drop n) a' w') (l.take n) a):(Code.region id l.toArray true).wp P Q a w:=by
 simp only[Region.lexTailB,Bool.and_eq_true,decide_eq_true_eq] at hB;obtain⟨⟨⟨⟨jL,hn⟩,hs⟩,hc⟩,hlex⟩:=hB;have hn':n<l.length:=by simpa using hn
 have GF:(l.take n).length=n:=by simp;omega
 have NR:(l.drop n).length=l.toArray.size-n:=by simp
 have inv0:HeadInv .any l.toArray n (Array.replicate l.toArray.size false):=
  ⟨by simp,λj oj _ hl=>(by rw[getD_replicate_false] at hl;cases hl),λt _ ht=>getD_in (by simpa using ht) (getD_replicate_false _ _)⟩
 have H:=qK (md:= .any) (g:=l.toArray.size-n) jL hs hc hn (l.take n) 0 _ a (λj hj=>by
  have Qi:j<n:=by rw[GF] at hj;exact hj
  simp[Qi]) (by simpa using GF) inv0 (by rw[GF];exact hlex) h
 refine wp_region_any hm ?_;have:=ll (Q':=Q) (g:=l.toArray.size-n) (λlisted a' w' hC hL=>by
  have:=wpAny_of_seq (md:= .any) (Q':=Q) (l.drop n) n listed a' w' (λj=>by simp[List.getElem?_drop]) (by rw[NR];exact hL.1) (hL.2 w' hC)
  rwa [NR] at this) _ _ _ {w with drawn:=w.drawn+1} ⟨⟨w.drawn+1,#[]⟩,by rw[grow_empty];rfl⟩ H
 rw[GF,show n+(l.toArray.size-n)=l.toArray.size by omega] at this;exact this
end
open Go.Maps
section
attribute [local go_sem] Oper.semAt_some
section
variable {hb m rb T:Nat} {S:HS} {R:BL} {w w':World}
theorem ak.memory (h:ak hb m rb S T R) (hp:S.ep):∃t Rm Ro,R.Perm (Rm++Ro)/\aH m S.c.mw S.c.page S.c.room t S.v Rm:=by
 obtain⟨en,dX,run,cy,Rr,Rx,hr,hM,rfl⟩:=h;obtain⟨t,Rm,Rc,rfl,ht,hm, -⟩:=hM.mem hp;exact⟨t,Rm,(hb,bK S.c m rb run cy S.ae S.af)::(run,bF m S.aa S.top (S.aa+S.c.words))::(Rr++Rc),aF,hm⟩
theorem ak.room_ (h:ak hb m rb S T R) (hp:S.ep) (hR:At R w):WA 209 #[Wz m] w λe w'=>e= .returned S.c.room/\w=w':=by
 obtain⟨t,Rm,Ro,KI,hm⟩:=h.memory hp;exact room_im hm (hR.perm KI).1.left
theorem ak.Jo (h:ak hb m rb S T R) (hp:S.ep) (hR:At R w):WA 78 #[Wz m] w λe w'=>e= .returned S.v.used/\w=w':=by
 obtain⟨t,Rm,Ro,KI,hm⟩:=h.memory hp;exact used_im hm (hR.perm KI).1.left
theorem ak.high_ (h:ak hb m rb S T R) (hp:S.ep) (hR:At R w):WA 79 #[Wz m] w λe w'=>e= .returned S.v.aM/\w=w':=by
 obtain⟨t,Rm,Ro,KI,hm⟩:=h.memory hp;exact high_im hm (hR.perm KI).1.left
theorem ak.words_ (h:ak hb m rb S T R) (hp:S.ep) (hR:At R w):WA 157 #[Wz m] w λe w'=>e= .returned S.c.mw/\w=w':=by
 obtain⟨t,Rm,Ro,KI,hm⟩:=h.memory hp;exact iI hm (hR.perm KI).1.left
theorem ak.cells (h:ak hb m rb S T R):∃run cy,(cy.isSome=S.bX.isSome)/\∀W,Has R W->qV hb m rb run cy S W/\W.heap[run]?=some (bF m S.aa S.top (S.aa+S.c.words)):=by
 obtain⟨en,dX,run,cy,Rr,Rx,hr,hM,rfl⟩:=h;refine⟨run,cy,?_,λW hR=>⟨az (S:=S) hR.head,hR.tail.head⟩⟩
 cases hk:S.bX with
 | none=>
  obtain⟨rfl, -⟩:=hM.none_ hk;rfl
 | some k=>
  obtain⟨cb,T0,rfl, -⟩:=hM.some_ hk;rfl
theorem HS.resv_none {n j:Nat} (hk:S.bX=none):HS.fI n j S=S:=by
 cases j with
 | zero=>rfl
 | succ j=>unfold HS.fI;rw[hk]
theorem HS.resv_spare {n j:Nat} (hs:S.gC n):HS.fI n j S=S:=by
 cases j with
 | zero=>rfl
 | succ j=>
  unfold HS.fI
  cases S.bX with
  | none=>rfl
  | some k=>exact b9 hs
theorem HS.resv_step {n j:Nat} {k:wR} (hk:S.bX=some k) (hs:¬S.gC n):HS.fI n (j+1) S=HS.fI n j S.step:=by
 rw[HS.fI,hk];exact b_ hs
def MX (hb m:Nat) (c:HC) (cy:Option Nat) (w:World):Prop:=
 w.cell? ⟨hb,0,none⟩=some (.int .i64 c.kind)/\w.cell? ⟨hb,1,none⟩=some (.int .i64 c.page)/\w.cell? ⟨hb,2,none⟩=some (.int .i64 c.block)/\w.cell? ⟨hb,3,none⟩=some (.int .i64 c.words)/\w.cell? ⟨hb,4,none⟩=some (.int .i64 c.bV)/\w.cell? ⟨hb,5,none⟩=some (.int .i64 c.aL)/\w.cell? ⟨hb,6,none⟩=some (.int .i64 c.aE)/\w.cell? ⟨hb,7,none⟩=some (.float .f64 c.ig)/\w.cell? ⟨hb,8,none⟩=some (.pointer (some ⟨m,0,none⟩))/\w.cell? ⟨hb,11,none⟩=some (.pointer (cy.map λb=>⟨b,0,none⟩))
theorem rsv_of {run:Nat} {cy:Option Nat} (h:qV hb m rb run cy S w):MX hb m S.c cy w:=⟨h.c0,h.c1,h.c2,h.c3,h.c4,h.c5,h.c6,h.c7,h.c8,h.cC⟩
theorem reserve_h (n:Nat) (hn:n<=256) (h:ak hb m rb S T R) (hg:S.Good) (hR:At R w) (hT:ax w) (hN:aD R) (bJ:T<=700000000000000):
  WA 127 #[Wz hb,n] w λe w'=>e= .returned (.tuple #[])/\∃R',ak hb m rb (HS.fI n S.left S) (T+4200000000) R'/\ag R R' w w':=by
 have Gs:=hg.aX.bG.fX;have CA:=hg.aX.bG.room;have zS:=hg.aX.bG.block.le;have xP:=hg.aX.bG.aE;obtain⟨qt,Bl⟩:∃qt,n/S.c.page=qt:=⟨_,rfl⟩
 have KM:qt<=256:=by rw[←Bl];exact Nat.le_trans (Nat.div_le_self _ _) hn
 have ht1:(n:Int).tdiv (S.c.page:Int)=(qt:Int):=by
  rw[Int.tdiv_eq_ediv_of_nonneg (by omega),←Bl];rfl
 have ht2:IntKind.i64.wrap (qt:Int)=qt:=IntWalk.i64_in _ (by omega);have KQ:((S.c.page:Int)==0)=false:=by rw[beq_eq_false_iff_ne];omega
 have KR:¬(S.c.page:Int)=0:=by omega
 have KS:¬S.c.page=0:=by omega
 have s1:=eH ((qt:Int)+2);have hsp:S.c.spare<=20000:=by
  unfold HC.spare;have:S.c.block/S.c.page<=1024:=Nat.le_trans (Nat.div_le_self _ _) zS.2;exact Nat.le_trans (Nat.mul_le_mul (show S.c.aE+2<=18 by omega) (show max (S.c.block/S.c.page) 1+3<=1027 by omega)) (by decide)
 have MI:=a_ (λW=>BN (w:=W) (c:=S.c) (by omega) zS.2 xP);have oS:=a_ (λS1 T1 R1 W (h1:ak hb m rb S1 T1 R1) (hg1:S1.Good) (hd:ag R R1 w W) (ht:T1<=800000000000000)=>Aq (w:=W) h1 hg1 hd.at_ (hd.tz hT hN) (hd.cK hT hN) ht);obtain⟨OV,UR, -,ks⟩:=h.cells;have c1:=(ks w hR.1).1.c1;have hll:=hg.vV;obtain⟨H0,HG⟩:=aO h hg;have D0:=a_ (ag.refl hR);have Hl:=a_ (And.intro hll bJ);have HQ:=a_ Bl;clear h hg hR hT hN bJ ks Gs hll Bl zS xP hn;unfold HC.cells at MI;go_enter func127,ntmps127;go_wp2;clear c1
 go_loopg [] S.left (λl wr=>∃(j:Nat) (S1:HS) (R1:BL),HS.fI n l S1=HS.fI n S.left S/\S1.c=S.c/\j+l=S.left/\S1.left=l/\S1.Good/\ak hb m rb S1 (T+j*2000000) R1/\ag R R1 w wr)
 case atStart=>exact⟨0,S,R,rfl,rfl,by omega,rfl,HG,by rw[Nat.zero_mul];exact H0,D0⟩
 case round=>
  clear H0 HG D0;obtain⟨j,S1,R1,hs,zT,hj,xc,hg1,h1,hd⟩:=hrel;have MP:=Hl.out;have qM:=a_ (λW (Vu:ag R R1 w W)=>oS S1 _ R1 W h1 hg1 Vu (by omega));have PG:=a_ (λW (hA:At R1 W)=>h1.Jo (w:=W) hg1.aX hA);have Ub:=a_ (λW (hA:At R1 W)=>h1.room_ (w:=W) hg1.aX hA);obtain⟨run,cy,en,bu⟩:=h1.cells;have HC:=a_ (λW (hA:Has R1 W)=>zT▸rsv_of (bu W hA).1);have Wb:=hg1.aX.used;have HU:=a_ hg1.aX.used;have HD:=a_ hd;have D1:=a_ hd.drew;obtain⟨H1,Hs,Hj,He,Dk⟩:=Es h1 hs hj xc hg1;rw[zT] at Ub;have Lh:=a_ zT;clear hd h1 hs hj xc hg1 MP zT bu Wb;have hcs:=HC wr HD.has;unfold MX at HC hcs
  cases hk:S1.bX with
  | none=>
   rw[hk] at en;obtain rfl:cy=none:=by cases cy with
    | none=>rfl
    | some c=>cases en
   have Hk:=a_ hk;have cC:wr.cell? ⟨hb,11,none⟩=some (.pointer none):=hcs.2.2.2.2.2.2.2.2.2;clear hcs en hk;go_wp2
   go_quiet (fail)
   have D2:=a_ (HD.grow (Fr.aA nq wr));go_wp2
   go_end0
   have e1:S1=HS.fI n S.left S:=by rw[←Hs.out,HS.resv_none Hk.out]
   have X1:=H1.out;rw[e1] at X1;refine⟨rfl,R1,X1.more (by have:=Hl.out;have:=Hj.out;omega),D2⟩
  | some k=>
   rw[hk] at en;obtain⟨cb,rfl⟩:∃cb,cy=some cb:=by cases cy with
    | none=>cases en
    | some c=>exact⟨c,rfl⟩
   have Hk:=a_ hk;obtain⟨-, -,g2, -,g4⟩:=Dk.step hk;obtain⟨G2,G4⟩:=aO g2 g4;rw[hk] at qM;have e0:(some k:Option wR).isSome=true:=rfl;rw[e0] at qM;clear e0 g2 g4;simp only[Option.map_some] at HC hcs;obtain⟨c0,c1,c2,c3,c4,c5,c6,c7,c8,cC⟩:=hcs;have hul:S1.v.used<=5000:=by
    have h1:S1.v.used=aG S1.v.mp (S1.c.mw/S1.c.page):=HU.out;have h2:=bE S1.v.mp (S1.c.mw/S1.c.page);have h3:=Nat.div_le_self S1.c.mw S1.c.page;have h4:=Dk.aX.bG.fX;omega
   have s2:=eH ((S.c.room:Int)-S1.v.used);have OC:S1.gC n↔S1.v.used+(qt+2)+S.c.spare<=S.c.room:=by
    unfold HS.gC;rw[Lh.out,HQ.out]
   have s3:=eH ((qt:Int)+2+S.c.spare);have TX:=a_ (fV (w:=wr) λW hW=>Calls.gE (Ub W (HD.grow hW).at_));have Ua:=a_ (fV (w:=wr) λW hW=>Calls.gE (PG W (HD.grow hW).at_));have TY:=a_ (fV (w:=wr) λW hW=>MI W);by_cases CB:S1.gC n
   ·have hlt:decide ((S.c.room:Int)-S1.v.used<(qt:Int)+2+S.c.spare)=false:=decide_eq_false (by have:=OC.1 CB;omega);have JJ:=a_ CB;clear en hk CB;have k0:=cell_regrown c0;have k1:=cell_regrown c1;have k2:=cell_regrown c2;have k3:=cell_regrown c3;have k4:=cell_regrown c4;have k5:=cell_regrown c5;have k6:=cell_regrown c6;have k7:=cell_regrown c7;have k8:=cell_regrown c8;have Tk:=cell_regrown cC;go_wp2;refine wp_region_quiet_below (by kernel_rfl) (by kernel_rfl) ?_
    repeat (quiet_step ((first | (go_at_call 209;exact TX _ _) | (go_at_call 78;exact Ua _ _) | (go_at_call 192;exact TY _ _))))
    refine wpQuiet_nil ?_;intro _ tZ;obtain⟨⟨dq,sQ⟩,iW⟩:=tZ;subst iW;have D2:=a_ (HD.grow (below_regrown wr dq sQ));go_wp2
    go_end0
    have e1:S1=HS.fI n S.left S:=by rw[←Hs.out,HS.resv_spare JJ.out]
    have X1:=H1.out;rw[e1] at X1;refine⟨rfl,R1,X1.more (by have:=Hl.out;have:=Hj.out;omega),D2⟩
   ·have hlt:decide ((S.c.room:Int)-S1.v.used<(qt:Int)+2+S.c.spare)=true:=decide_eq_true (by have:¬(S1.v.used+(qt+2)+S.c.spare<=S.c.room):=λq=>CB (OC.2 q);omega);have JJ:=a_ CB;clear en hk CB;have k0:=cell_regrown c0;have k1:=cell_regrown c1;have k2:=cell_regrown c2;have k3:=cell_regrown c3;have k4:=cell_regrown c4;have k5:=cell_regrown c5;have k6:=cell_regrown c6;have k7:=cell_regrown c7;have k8:=cell_regrown c8;have Tk:=cell_regrown cC;go_wp2;refine wp_region_quiet_tail 28 (by kernel_rfl) (by kernel_rfl) ?_;simp only[List.take_succ_cons,List.take_zero,List.drop_succ_cons,List.drop_zero]
    repeat (quiet_step ((first | (go_at_call 209;exact TX _ _) | (go_at_call 78;exact Ua _ _) | (go_at_call 192;exact TY _ _))))
    refine wpQuiet_nil ?_;intro _ tZ;obtain⟨⟨dq,sQ⟩,iW⟩:=tZ;subst iW;have D2:=a_ (HD.grow (below_regrown wr dq sQ))
    go_wp2_with (go_at_call 19;refine (qM _ D2).kq ?_;rintro w5 ⟨R5,x5,d5⟩;have X5:=a_ x5;have D3:=a_ (D2.trans d5);clear x5 d5)
    go_roundg (gk-1)
    case measure=>have:=He.out;have:=G4.out;omega
    case rel=>
     have hgk:gk=(gk-1)+1:=by have:=He.out;have:=G4.out;omega
     refine⟨j+1,S1.step,R5,?_,?_,by have:=Hj.out;omega,by have:=He.out;have:=G4.out;omega,G2,by rw[Nat.add_mul,Nat.one_mul,←Nat.add_assoc];exact X5,D3⟩
     ·rw[←Hs.out]
      conv=>rhs;rw[hgk]
      exact (HS.resv_step Hk JJ).symm
     ·obtain⟨-, -, -,a, -⟩:=Dk.step Hk;rw[a.c];exact Lh
end
section
variable {hb m rb T n run:Nat} {S:HS} {R:BL} {w w':World}
theorem ak.dW (h:ak hb m rb S T R) (hR:Has R w):∃run,w.cell? ⟨hb,10,none⟩=some (.pointer (some ⟨run,0,none⟩)):=by
 obtain⟨en,dX,run,cy,Rr,Rx,hr,hM,rfl⟩:=h;exact⟨run,(az (S:=S) hR.head).dW⟩
theorem alloc_yes (h:ak hb m rb S T R) (hg:S.Good) (hR:At R w) (bJ:T<=800000000000000) (hn:1<=n) (hf:S.fits n) (hs:∀k,S.bX=some k->S.gC n) (dW:w.cell? ⟨hb,10,none⟩=some (.pointer (some ⟨run,0,none⟩))):
  WA 128 #[Wz run,n] w λe w'=>e= .returned (.tuple #[S.top,Wy])/\∃R',ak hb m rb (S.ext n) (T+5000) R'/\ag R R' w w':=by
 obtain⟨en,dX,run',cy,Rr,Rx,hr,hM,rfl⟩:=h;have q:=(az (S:=S) hR.1.head).dW;rw[dW] at q;have e:run=run':=by simpa using q
 subst e;have hrun:=hg.aX.run;have sx:=hg.aX.top;have Gs:=hg.aX.bG.fX;obtain⟨e1,e2,e3⟩:=hg.aX.ext hn hf hs;obtain⟨t,Rm,Rc,rfl,ht,hm,xR⟩:=hM.mem hg.aX;have D0:=(ag.refl hR).perm (R':=((run,bF m S.aa S.top (S.aa+S.c.words))::Rm)++((hb,bK S.c m rb run cy S.ae S.af)::(Rr++Rc))) aF;have Qf:S.top+n<=S.aa+S.c.words:=hf;refine (rg_alloc hm D0.at_.left (by omega) (by omega) n hn Qf e1).kq ?_;rintro w' ⟨bI,ky,d⟩;have hq:S.c.mw/S.c.page<=5000:=Nat.le_trans (Nat.div_le_self _ _) (by omega);have Su:=xR (S.ext n) 5000 (t+S.c.mw/S.c.page) bI e2 rfl rfl (by omega) ky;refine⟨rfl,(hb,bK S.c m rb run cy S.ae S.af)::(run,bF m S.aa (S.top+n) (S.aa+S.c.words))::(Rr++(bI++Rc)),⟨?_,?_,run,cy,Rr,bI++Rc,hr,Su,rfl⟩,(D0.step d).perm aF⟩
 ·show S.ae<=_
  omega
 ·show S.af<=_
  omega
theorem alloc_no (h:ak hb m rb S T R) (hg:S.Good) (hR:At R w) (hn:1<=n/\n<=256) (hf:¬S.fits n) (dW:w.cell? ⟨hb,10,none⟩=some (.pointer (some ⟨run,0,none⟩))):
  WA 128 #[Wz run,n] w λe w'=>e= .returned (.tuple #[Wy,(21:Int)])/\Below w.heap.size w w':=by
 obtain⟨en,dX,run',cy,Rr,Rx,hr,hM,rfl⟩:=h;have q:=(az (S:=S) hR.1.head).dW;rw[dW] at q;have e:run=run':=by simpa using q
 subst e;have hrun:=hg.aX.run;have sx:=hg.aX.top;unfold HS.fits at hf;exact rg_alloc_no hR.1.tail.head (by omega) sx.2 n hn.1 (by omega) (by omega)
theorem room_h (h:ak hb m rb S T R) (hg:S.Good) (hR:At R w) (hT:ax w) (hN:aD R) (bJ:T<=500000000000000) (hn:1<=n/\n<=256):
  WA 51 #[Wz hb,n] w λe w'=>∃R',ag R R' w w'/\(((S.rm n).fits n/\e= .returned (.tuple #[.int .i64 (S.rm n).top,Wy])/\ak hb m rb ((S.rm n).ext n) (T+20000000000) R')\/(¬(S.rm n).fits n/\e= .returned (.tuple #[Wy,(21:Int)])/\ak hb m rb (S.rm n) (T+20000000000) R')):=by
 obtain⟨r1,r2,r3⟩:=HS.pV (n:=n) S.left hg (Nat.le_refl _);have MF:=a_ (reserve_h n hn.2 h hg hR hT hN (by omega));obtain⟨T1,Kl⟩:∃T1,T+4200000000=T1:=⟨_,rfl⟩
 rw[Kl] at MF;obtain⟨f1,f2,f3⟩:=r1.finish;obtain⟨g1,g2,g3,g4,g5⟩:=f1.collect;have hll:=r1.vV;have CA:S.rm n=if (HS.fI n S.left S).fits n then HS.fI n S.left S else if (HS.fI n S.left S).finish.fits n then (HS.fI n S.left S).finish else (HS.fI n S.left S).finish.collect:=rfl
 generalize HS.fI n S.left S=S1 at *;have Js:=a_ (λS2 T2 R2 W run (hx:ak hb m rb S2 T2 R2) (wY:S2.Good) (hd:ag R R2 w W) (ht:T2+5000<=T+20000000000) (hf:S2.fits n) (hs:∀k,S2.bX=some k->S2.gC n) (dW:W.cell? ⟨hb,10,none⟩=some (.pointer (some ⟨run,0,none⟩)))=>(show WA 128 #[Wz run,n] W λe w'=>e= .returned (.tuple #[S2.top,Wy])/\∃R',ak hb m rb (S2.ext n) (T+20000000000) R'/\ag R2 R' W w' from by
  refine (alloc_yes hx wY hd.at_ (by omega) hn.1 hf hs dW).kq ?_;rintro w' ⟨R',x,d⟩;exact⟨rfl,R',x.more (by omega),d⟩))
 have GU:=a_ (λS2 T2 R2 W run (hx:ak hb m rb S2 T2 R2) (wY:S2.Good) (hd:ag R R2 w W) (hf:¬S2.fits n) (dW:W.cell? ⟨hb,10,none⟩=some (.pointer (some ⟨run,0,none⟩)))=>alloc_no (w:=W) hx wY hd.at_ hn hf dW);obtain⟨T2,lT⟩:∃T2,T1+4200000000=T2:=⟨_,rfl⟩
 have qL:=a_ (λR2 W (hx:ak hb m rb S1 T1 R2) (hd:ag R R2 w W)=>(show WA 82 #[Wz hb] W λe w'=>e= .returned (.tuple #[])/\∃R',ak hb m rb S1.finish T2 R'/\ag R2 R' W w' from by
  refine (xG (w:=W) hx r1 hd.at_ (hd.tz hT hN) (hd.cK hT hN) (by omega) (by omega)).kq ?_;rintro w' ⟨R',x,d⟩;exact⟨rfl,R',x.more (by omega),d⟩))
 obtain⟨T3,PV⟩:∃T3,T2+10000000000=T3:=⟨_,rfl⟩
 have Aw:=a_ (λR2 W (hx:ak hb m rb S1.finish T2 R2) (hd:ag R R2 w W)=>(show WA 28 #[Wz hb] W λe w'=>e= .returned (.tuple #[])/\∃R',ak hb m rb S1.finish.collect T3 R'/\ag R2 R' W w' from by
  refine (po (w:=W) hx f1 hd.at_ (hd.tz hT hN) (hd.cK hT hN) (by omega)).kq ?_;rintro w' ⟨R',x,d⟩;exact⟨rfl,R',x.more (by omega),d⟩))
 have HT:=a_ (show T1+5000<=T+20000000000/\T2+5000<=T+20000000000/\T3+5000<=T+20000000000 from by omega);have vq:=a_ (λS2 T2 R2 W (hx:ak hb m rb S2 T2 R2) (hd:ag R R2 w W)=>hx.dW (w:=W) hd.has);have D0:=a_ (ag.refl hR);by_cases h1:S1.fits n
 ·have e1:S.rm n=S1:=by rw[CA,b9 h1]
  rw[e1];have HA:=a_ (λR2 W run (hx:ak hb m rb S1 T1 R2) (hd:ag R R2 w W) dW=>Js S1 T1 R2 W run hx r1 hd HT.1 h1 r3 dW);have H1:=a_ h1;clear h hg hR hT hN bJ hn r1 r2 r3 f1 f2 f3 g1 g2 g3 g4 g5 hll CA e1 Js GU qL Aw Kl lT PV h1 HT;go_enter func51,ntmps51
  go_wp2_with (first
   | (go_at_call 127;refine MF.kq ?_;rintro w1 ⟨R1,x1,d1⟩;have X1:=a_ x1;have D1:=a_ (D0.trans d1);obtain⟨run,dW⟩:=vq _ _ _ _ X1 D1;have FO:=a_ dW;clear x1 d1)
   | (go_at_call 128;refine (HA _ _ _ X1 D1 FO).kq ?_;rintro w2 ⟨R2,x2,d2⟩;have X2:=a_ x2;have D2:=a_ (D1.trans d2);clear x2 d2))
  go_ret2
  exact⟨R2,D2,.inl ⟨H1,rfl,X2⟩⟩
 ·by_cases h2:S1.finish.fits n
  ·have e1:S.rm n=S1.finish:=by rw[CA,b_ h1,b9 h2]
   rw[e1];have Fu:=a_ (λR2 W run (hx:ak hb m rb S1 T1 R2) (hd:ag R R2 w W) dW=>GU S1 T1 R2 W run hx r1 hd h1 dW);have Lf:=a_ (λR2 W run (hx:ak hb m rb S1.finish T2 R2) (hd:ag R R2 w W) dW=>Js S1.finish T2 R2 W run hx f1 hd HT.2.1 h2 (λk q=>by rw[f3] at q;cases q) dW);have H2:=a_ h2;clear h hg hR hT hN bJ hn r1 r2 r3 f1 f2 f3 g1 g2 g3 g4 g5 hll CA e1 Js GU Aw Kl lT PV h1 h2 HT;go_enter func51,ntmps51
   go_wp2_with (first
    | (go_at_call 127;refine MF.kq ?_;rintro w1 ⟨R1,x1,d1⟩;have X1:=a_ x1;have D1:=a_ (D0.trans d1);obtain⟨run,dW⟩:=vq _ _ _ _ X1 D1;have FO:=a_ dW;clear x1 d1)
    | (go_at_call 128;refine (Fu _ _ _ X1 D1 FO).kq ?_;rintro w2 b2;have D2:=a_ (D1.grow b2);clear b2 Fu)
    | (go_at_call 82;refine (qL _ _ X1 D2).kq ?_;rintro w3 ⟨R3,x3,d3⟩;have X3:=a_ x3;have D3:=a_ (D2.trans d3);obtain⟨OW,DI⟩:=vq _ _ _ _ X3 D3;have Dg:=a_ DI;clear x3 d3)
    | (go_at_call 128;refine (Lf _ _ _ X3 D3 Dg).kq ?_;rintro w4 ⟨R4,x4,d4⟩;have X4:=a_ x4;have D4:=a_ (D3.trans d4);clear x4 d4))
   go_ret2
   exact⟨R4,D4,.inl ⟨H2,rfl,X4⟩⟩
  ·have e1:S.rm n=S1.finish.collect:=by rw[CA,b_ h1,b_ h2]
   rw[e1];have Fu:=a_ (λR2 W run (hx:ak hb m rb S1 T1 R2) (hd:ag R R2 w W) dW=>GU S1 T1 R2 W run hx r1 hd h1 dW);have Lf:=a_ (λR2 W run (hx:ak hb m rb S1.finish T2 R2) (hd:ag R R2 w W) dW=>GU S1.finish T2 R2 W run hx f1 hd h2 dW);by_cases h3:S1.finish.collect.fits n
   ·have QO:=a_ (λR2 W run (hx:ak hb m rb S1.finish.collect T3 R2) (hd:ag R R2 w W) dW=>Js S1.finish.collect T3 R2 W run hx g1 hd HT.2.2 h3 (λk q=>by rw[g4] at q;cases q) dW);have H3:=a_ h3;clear h hg hR hT hN bJ hn r1 r2 r3 f1 f2 f3 g1 g2 g3 g4 g5 hll CA e1 Js GU Kl lT PV h1 h2 h3 HT;go_enter func51,ntmps51
    go_wp2_with (first
     | (go_at_call 127;refine MF.kq ?_;rintro w1 ⟨R1,x1,d1⟩;have X1:=a_ x1;have D1:=a_ (D0.trans d1);obtain⟨run,dW⟩:=vq _ _ _ _ X1 D1;have FO:=a_ dW;clear x1 d1)
     | (go_at_call 128;refine (Fu _ _ _ X1 D1 FO).kq ?_;rintro w2 b2;have D2:=a_ (D1.grow b2);clear b2 Fu)
     | (go_at_call 82;refine (qL _ _ X1 D2).kq ?_;rintro w3 ⟨R3,x3,d3⟩;have X3:=a_ x3;have D3:=a_ (D2.trans d3);obtain⟨OW,DI⟩:=vq _ _ _ _ X3 D3;have Dg:=a_ DI;clear x3 d3)
     | (go_at_call 128;refine (Lf _ _ _ X3 D3 Dg).kq ?_;rintro w4 b4;have D4:=a_ (D3.grow b4);clear b4 Lf)
     | (go_at_call 28;refine (Aw _ _ X3 D4).kq ?_;rintro w5 ⟨R5,x5,d5⟩;have X5:=a_ x5;have D5:=a_ (D4.trans d5);obtain⟨run5,JW⟩:=vq _ _ _ _ X5 D5;have Jq:=a_ JW;clear x5 d5)
     | (go_at_call 128;refine (QO _ _ _ X5 D5 Jq).kq ?_;rintro w6 ⟨R6,x6,d6⟩;have X6:=a_ x6;have D6:=a_ (D5.trans d6);clear x6 d6))
    go_ret2
    exact⟨R6,D6,.inl ⟨H3,rfl,X6⟩⟩
   ·have QO:=a_ (λR2 W run (hx:ak hb m rb S1.finish.collect T3 R2) (hd:ag R R2 w W) dW=>GU S1.finish.collect T3 R2 W run hx g1 hd h3 dW);have H3:=a_ h3;clear h hg hR hT hN bJ hn r1 r2 r3 f1 f2 f3 g1 g2 g3 g4 g5 hll CA e1 Js GU Kl lT PV h1 h2 h3;go_enter func51,ntmps51
    go_wp2_with (first
     | (go_at_call 127;refine MF.kq ?_;rintro w1 ⟨R1,x1,d1⟩;have X1:=a_ x1;have D1:=a_ (D0.trans d1);obtain⟨run,dW⟩:=vq _ _ _ _ X1 D1;have FO:=a_ dW;clear x1 d1)
     | (go_at_call 128;refine (Fu _ _ _ X1 D1 FO).kq ?_;rintro w2 b2;have D2:=a_ (D1.grow b2);clear b2 Fu)
     | (go_at_call 82;refine (qL _ _ X1 D2).kq ?_;rintro w3 ⟨R3,x3,d3⟩;have X3:=a_ x3;have D3:=a_ (D2.trans d3);obtain⟨OW,DI⟩:=vq _ _ _ _ X3 D3;have Dg:=a_ DI;clear x3 d3)
     | (go_at_call 128;refine (Lf _ _ _ X3 D3 Dg).kq ?_;rintro w4 b4;have D4:=a_ (D3.grow b4);clear b4 Lf)
     | (go_at_call 28;refine (Aw _ _ X3 D4).kq ?_;rintro w5 ⟨R5,x5,d5⟩;have X5:=a_ x5;have D5:=a_ (D4.trans d5);obtain⟨run5,JW⟩:=vq _ _ _ _ X5 D5;have Jq:=a_ JW;clear x5 d5)
     | (go_at_call 128;refine (QO _ _ _ X5 D5 Jq).kq ?_;rintro w6 b6;have D6:=a_ (D5.grow b6);clear b6))
    go_ret2
    exact⟨R5,D6,.inr ⟨H3,rfl,X5.more (by have:=HT.out;omega)⟩⟩
end
end
end Go.Proofs.YtmdgfpeglgpiiaaGreatDoor

import Derived.Deep.Cut
import Derived.Deep.CutRange
import Derived.Lib.QuietBelow
import Derived.Test.YtmdgfpeglgpiiaaGreatDoorB19
set_option linter.unusedVariables false
set_option linter.unusedSimpArgs false
set_option maxRecDepth 100000
set_option maxHeartbeats 16000000
namespace Go.Proofs.YtmdgfpeglgpiiaaGreatDoor
open Vq Oq Go.Proofs.Tryz
open Go.ChangeShapes Go.WideShapes Go.ChangeAt Go.RowKit Go.Maps Go.Sort
section
variable {S S' S2:HS} {k:wR} {y:aJ} {s:ml}
theorem HS.Good.stepg (h:S.Good):S.step.Good:=by
 cases hk:S.bX with
 | none=>
  have e:S.step=S:=by unfold HS.step;rw[hk]
  rw[e];exact h
 | some k=>exact (h.step hk).2.2.1
theorem cnt_between {f:Nat->Bool} {a b:Nat}:∀n,(∀p,p<n->(f p=true↔a<=p/\p<b))->aG f n=min b n-min a n
 | 0,_=>by rw[Nat.min_zero,Nat.min_zero];rfl
 | n+1,h=>by
  rw[bM,cnt_between n λp hp=>h p (by omega)];have:=h n (by omega);by_cases q:a<=n/\n<b
  ·rw[b9 (this.2 q)];omega
  ·rw[b_ (λe=>q (this.1 e))];omega
theorem HS.ep.mapped (h:S.ep) (hk:S.bX=none):S.v.used=(S.top-S.aa+S.c.page-1)/S.c.page:=by
 obtain⟨⟨d1,d2⟩,d3,d4,d5,d6,d7⟩:=h.bG.fX;obtain⟨r1,r2,r3,r4,r5⟩:=h.run;have ht:=h.top;have e:S.c.page*(S.aa/S.c.page)=S.aa:=Nat.mul_div_cancel' (Nat.dvd_of_mod_eq_zero r2);have em:S.c.page*(S.c.mw/S.c.page)=S.c.mw:=Nat.mul_div_cancel' (Nat.dvd_of_mod_eq_zero d4);have hu:S.v.used=aG S.v.mp (S.c.mw/S.c.page):=h.used;have hc:=cnt_between (f:=S.v.mp) (a:=S.aa/S.c.page) (b:=(S.top+S.c.page-1)/S.c.page) (S.c.mw/S.c.page) λp hp=>by
  rw[h.closed hk p hp,mO d1 r2];have:p<(S.top+S.c.page-1)/S.c.page↔p*S.c.page<S.top:=by
   rw[show p<(S.top+S.c.page-1)/S.c.page↔p+1<=(S.top+S.c.page-1)/S.c.page from Iff.rfl,Nat.le_div_iff_mul_le d1,Nat.add_mul,Nat.one_mul];omega
  rw[this]
 have hb:(S.top+S.c.page-1)/S.c.page<=S.c.mw/S.c.page:=by
  have:(S.top+S.c.page-1)/S.c.page<S.c.mw/S.c.page+1:=by
   rw[Nat.div_lt_iff_lt_mul d1,Nat.add_mul,Nat.one_mul,Nat.mul_comm,em];omega
  omega
 have ha:S.aa/S.c.page<=S.c.mw/S.c.page:=Nat.div_le_div_right (by omega);rw[Nat.min_eq_left hb,Nat.min_eq_left ha] at hc;rw[hu,hc];have e3:S.top+S.c.page-1=S.top-S.aa+S.c.page-1+S.c.page*(S.aa/S.c.page):=by omega
 rw[e3,Nat.add_mul_div_left _ _ d1,Nat.add_sub_cancel]
theorem HS.ep.used_room (h:S.ep):S.v.used<=S.c.room:=by
 obtain⟨⟨d1,d2⟩,d3,d4,d5,d6,d7⟩:=h.bG.fX;have ht:=h.top;have hkd:=h.bG.kind
 cases hk:S.bX with
 | none=>
  rw[h.mapped hk];have ew:S.c.page*(S.c.words/S.c.page)=S.c.words:=Nat.mul_div_cancel' (Nat.dvd_of_mod_eq_zero d3);have h1:(S.top-S.aa+S.c.page-1)/S.c.page<=S.c.words/S.c.page:=by
   have:(S.top-S.aa+S.c.page-1)/S.c.page<S.c.words/S.c.page+1:=by
    rw[Nat.div_lt_iff_lt_mul d1,Nat.add_mul,Nat.one_mul,Nat.mul_comm,ew];omega
   omega
  unfold HC.room
  split
  ·omega
  ·split<;>omega
 | some k=>
  obtain⟨k1,k2,k3,k4,k5,k6,k7,k8,k9,hg⟩:=h.opened k hk;have hs:=hg.safe k.mv (λ_ q=>q) hg.ah;have e:aG S.v.mp (k.y.words/k.y.page)=aW (k.y.M k.mv S.top) (k.y.words/k.y.page):=ly λi hi=>hg.mc.mp i hi
  have hu:S.v.used=aG S.v.mp (S.c.mw/S.c.page):=h.used;rw[k2,k3] at e;rw[k2,k3,k4] at hs;omega
end
section
attribute [local go_sem] Oper.semAt_some
section
variable {hb m rb T T':Nat} {S S':HS} {R K K':BL} {w w' W W':World} {s p f o i k:Int}
theorem dN.more (h:dN hb m rb S T K w W) (hT:T<=T'):dN hb m rb S T' K w W:=by
 obtain⟨hg,R,hh,d⟩:=h;exact⟨hg,R,hh.more hT,d⟩
theorem hp_of (hg:S.Good) (h:ak hb m rb S T R) (d:ag [] R W W') (D:ag [] K w W):dN hb m rb S T K w W':=⟨hg,R,h,D.bh d⟩
theorem hp_start (h:dN hb m rb S T K w W) (hT:ax w) (bJ:T<=600000000000000):WA 15 #[Wz hb] W λe W'=>e= .returned (.tuple #[])/\dN hb m rb S.dJ (T+10000000000) K w W':=
 vP h hT h.1.dJ.1 λR hh hR lT hN=>start_h hh h.1 hR lT hN bJ
theorem hp_collect (h:dN hb m rb S T K w W) (hT:ax w) (bJ:T<=600000000000000):WA 28 #[Wz hb] W λe W'=>e= .returned (.tuple #[])/\dN hb m rb S.collect (T+10000000000) K w W':=
 vP h hT h.1.collect.1 λR hh hR lT hN=>po hh h.1 hR lT hN bJ
theorem hp_move (h:dN hb m rb S T K w W) (hT:ax w) (bJ:T<=800000000000000):WA 19 #[Wz hb] W λe W'=>e= .returned (.bool S.bX.isSome)/\dN hb m rb S.step (T+2000000) K w W':=
 vP h hT h.1.stepg λR hh hR lT hN=>Aq hh h.1 hR lT hN bJ
end
section
variable {c:HC} {w w':World}
theorem rframes_h (hp:1<=c.page) (hb:c.block<=1024) (ha:c.aE<=16) (hw:c.words<=131072) (w:World):WA 27 #[.agg c.cells] w λe w'=>e= .returned (c.room:Nat)/\Below w.heap.size w w':=by
 unfold HC.room HC.spare;unfold HC.cells at *;obtain⟨kd,pg,bk,wd,sl,st,ah,tg⟩:=c;simp only at *;have D0:=a_ ((ag.refl (At.nil (w:=w))).box #[kd,pg,bk,wd,sl,st,ah,.float .f64 tg] 24);have q:=D0.has.head;obtain⟨c0,c1,c2,c3,c4,c5,c6,c7, -⟩:=gD q;obtain⟨qt,Bl⟩:∃qt,wd/pg=qt:=⟨_,rfl⟩
 have KM:qt<=131072:=by rw[←Bl];exact Nat.le_trans (Nat.div_le_self _ _) hw
 obtain⟨qb,hqb⟩:∃qb,bk/pg=qb:=⟨_,rfl⟩
 have dX:qb<=1024:=by rw[←hqb];exact Nat.le_trans (Nat.div_le_self _ _) hb
 rw[Bl,hqb];have ht1:(wd:Int).tdiv (pg:Int)=(qt:Int):=by
  rw[Int.tdiv_eq_ediv_of_nonneg (by omega),←Bl];rfl
 have OG:(bk:Int).tdiv (pg:Int)=(qb:Int):=by
  rw[Int.tdiv_eq_ediv_of_nonneg (by omega),←hqb];rfl
 have ht2:IntKind.i64.wrap (qt:Int)=qt:=IntWalk.i64_in _ (by omega);have Wa:IntKind.i64.wrap (qb:Int)=qb:=IntWalk.i64_in _ (by omega);have KQ:((pg:Int)==0)=false:=by rw[beq_eq_false_iff_ne];omega
 have KR:¬(pg:Int)=0:=by omega
 have KS:¬pg=0:=by omega
 have s0:=eH ((ah:Int)+2);have s2:=eH (2*(qt:Int));have e2:((2*qt:Nat):Int)=2*(qt:Int):=by omega
 have s3:=eH ((qb:Int)+3);clear q Bl hqb hp hb hw;obtain⟨B,hB⟩:∃B,w.heap.size=B:=⟨_,rfl⟩
 rw[hB] at c0 c1 c2 c3 c4 c5 c6 c7;by_cases k1:kd=1
 ·subst k1;rw[b9 rfl];by_cases kq:qb<1
  ·have kq1:(qb:Int)<1:=by omega
   obtain⟨sp,hsp⟩:∃sp,(ah+2)*4=sp:=⟨_,rfl⟩
   have hm:max qb 1+3=4:=by omega
   rw[hm,hsp];have s5:IntKind.i64.wrap (((ah:Int)+2)*4)=sp:=by rw[←hsp];rw[IntWalk.i64_in _ (by omega)];push_cast;rfl
   have s6:=eH ((qt:Int)+sp);have e1:((qt+sp:Nat):Int)=(qt:Int)+sp:=by omega
   rw[e1];clear hsp hm kq ha KM dX;go_enter func27,ntmps27;go_wp2;go_ret;exact⟨rfl,hB▸D0.below⟩
  ·have kq1:¬(qb:Int)<1:=by omega
   obtain⟨sp,hsp⟩:∃sp,(ah+2)*(qb+3)=sp:=⟨_,rfl⟩
   have hm:max qb 1+3=qb+3:=by omega
   have hle:sp<=18*1027:=by rw[←hsp];exact Nat.mul_le_mul (by omega) (by omega)
   rw[hm,hsp];have s5:IntKind.i64.wrap (((ah:Int)+2)*((qb:Int)+3))=sp:=by
    have:((ah:Int)+2)*((qb:Int)+3)=sp:=by rw[←hsp];push_cast;rfl
    rw[this,IntWalk.i64_in _ (by omega)]
   have s6:=eH ((qt:Int)+sp);have e1:((qt+sp:Nat):Int)=(qt:Int)+sp:=by omega
   rw[e1];clear hsp hm kq ha KM dX hle;go_enter func27,ntmps27;go_wp2;go_ret;exact⟨rfl,hB▸D0.below⟩
 ·rw[b_ k1];have k1i:¬(kd:Int)=1:=by omega
  by_cases k2:kd=2
  ·subst k2;rw[b9 rfl,e2];by_cases kq:qb<1
   ·have kq1:(qb:Int)<1:=by omega
    clear kq ha KM dX k1;go_enter func27,ntmps27;go_wp2;go_ret;exact⟨rfl,hB▸D0.below⟩
   ·have kq1:¬(qb:Int)<1:=by omega
    clear kq ha KM dX k1;go_enter func27,ntmps27;go_wp2;go_ret;exact⟨rfl,hB▸D0.below⟩
  ·rw[b_ k2];have k2i:¬(kd:Int)=2:=by omega
   by_cases kq:qb<1
   ·have kq1:(qb:Int)<1:=by omega
    clear kq ha KM dX;go_enter func27,ntmps27;go_wp2;go_ret;exact⟨rfl,hB▸D0.below⟩
   ·have kq1:¬(qb:Int)<1:=by omega
    clear kq ha KM dX;go_enter func27,ntmps27;go_wp2;go_ret;exact⟨rfl,hB▸D0.below⟩
end
section
variable {hb m rb T:Nat} {S:HS} {K:BL} {w W W':World}
theorem HS.stats_is (S:HS):S.stats.mapped=S.v.used/\S.stats.aM=S.v.aM/\S.stats.opn=S.bX.isSome/\S.stats.left=S.left/\S.stats.used=S.top-S.aa/\S.stats.words=S.m.aq/\S.stats.ae=S.ae:=by
 unfold HS.stats HS.left
 cases S.bX<;>exact⟨rfl,rfl,rfl,rfl,rfl,rfl,rfl⟩
theorem HS.Good.stepl (h:S.Good) (ho:S.bX.isSome=true):S.step.left+1=S.left:=by
 cases hk:S.bX with
 | none=>rw[hk] at ho;cases ho
 | some k=>exact (h.step hk).2.2.2.2
theorem HS.Good.stepc (h:S.Good):S.step.c=S.c:=by
 cases hk:S.bX with
 | none=>
  have e:S.step=S:=by unfold HS.step;rw[hk]
  rw[e]
 | some k=>exact (h.step hk).2.2.2.1.c
theorem stats_field (a b c d e f g:Int) (o:Bool) (l:Int) (w:World):(Instr.field 54 (.agg #[a,b,c,d,e,f,g,o,l]) 8).run prog w= .ok (.int .i64 l) w:=by kernel_rfl
theorem hp_left (h:dN hb m rb S T K w W):S.left<=1048576:=by
 obtain⟨hg,R,hh,d⟩:=h
 cases hk:S.bX with
 | none=>rw[HS.pF hk];omega
 | some k=>
  obtain⟨run,cy, -, -, -, -,hz⟩:=hh.runs hg.aX;obtain⟨cb, -,hn, -⟩:=hz k hk;unfold HS.left;rw[hk];show k.y.nb-_<=_
  omega
theorem frames_no (c:iL) (hi:c.rB) (a:Option Addr) (n cap:Nat) (h:rV c n=true\/¬c.ok) (hT:ax w):WA 5 #[.agg c.cells,.slice a n cap] w λe w'=>e= .returned true/\Below w.heap.size w w':=by
 have HM:=a_ (λW=>made_no c hi a n cap h W);have FV:=a_ (λW (h:ax W)=>Bt h);have HT:=a_ hT;unfold iL.cells at *;have D0:=a_ ((ag.refl (At.nil (w:=w))).box #[c.kind,c.page,c.block,c.words,c.bV,c.aL,c.aE,.float .f64 c.ig] 24);obtain⟨kd,pg,bk,wd,sl,st,ah,tg⟩:=c;simp only at *;have q:=D0.has.head;obtain⟨c0,c1,c2,c3,c4,c5,c6,c7, -⟩:=gD q;clear q h hi hT;go_enter func5,ntmps5
 go_upto_region 1 with fail
 generalize World.alloc _ _=w0 at *
 go_upto_region 2 with (go_at_call 10;refine (HM _).kq ?_;rintro w1 bp;have D1:=a_ (D0.grow bp);clear bp)
 clear c0 c1 c2 c3 c4 c5 c6 c7
 go_wp2_with (go_at_call 12;refine (FV _ (HT.grow D1.below)).kq ?_;rintro w2 dw;have D2:=a_ (D1.grow dw);clear dw)
 go_ret;exact⟨rfl,D2.below⟩
theorem frames_yes (c:iL) (hi:c.rB) (a:Option Addr) (cap:Nat) (xs:List mU) (hx:zJ w a xs) (hf:rV c xs.length=false) (hok:c.ok) (hT:ax w):WA 5 #[.agg c.cells,.slice a xs.length cap] w λe w'=>e= .returned true/\Below w.heap.size w w':=by
 have HM:=a_ (λW=>made_yes c hi a xs.length cap hf hok W);have FV:=a_ (λW (h:ax W)=>Bt h);have HT:=a_ hT;have hw:c.words<=2048/\xs.length<=120:=by
  unfold rV at hf;simp only[Bool.or_eq_false_iff,decide_eq_false_iff_not] at hf;omega
 have hco:=hok.hc hw.1;have HG:=a_ (HS.yp hco);have HX:=a_ hx;have HL:=a_ hw.2;have mT:=a_ (λW=>by
  have h:=rframes_h (c:=c.hc) (by have:=hco.fX;omega) (by obtain⟨k,k1,k2⟩:=hco.block;rw[k2];exact Nat.le_trans (Nat.pow_le_pow_right (by decide) k1) (by decide)) hco.aE (by have:=hco.GQ;omega) W;rw[←hok.1.cells] at h;exact h)
 generalize hch:c.hc=ch at *;unfold iL.cells at *;have D0:=a_ ((ag.refl (At.nil (w:=w))).box #[c.kind,c.page,c.block,c.words,c.bV,c.aL,c.aE,.float .f64 c.ig] 24);clear hi hf hok hch hT hw hx hco;obtain⟨kd,pg,bk,wd,sl,st,ah,tg⟩:=c;simp only at *;obtain⟨B,hB⟩:∃B,w.heap.size=B:=⟨_,rfl⟩
 rw[hB] at D0;have q:=D0.has.head;obtain⟨c0,c1,c2,c3,c4,c5,c6,c7, -⟩:=gD q;clear q;go_enter func5,ntmps5
 go_upto_region 1 with fail
 generalize World.alloc _ _=w0 at *
 go_upto_region 2 with (go_at_call 10;refine (HM _).mono ?_;rintro e w1 ⟨hb,m,rb,rfl,R1,h1,d1⟩;have X1:=a_ (hp_of (K:= [(B,.cells #[kd,pg,bk,wd,sl,st,ah,.float .f64 tg] 24 (0,0))]) HG h1 d1 D0);clear h1 d1)
 clear c0 c1 c2 c3 c4 c5 c6 c7 HM HG D0;go_wp2
 go_loopw [18] (λiv wr=>∃(n:Nat) (S:HS),iv= .int .i64 n/\n<=xs.length/\S.c=ch/\dN hb m rb S (n*60000000000) [(B,.cells #[kd,pg,bk,wd,sl,st,ah,.float .f64 tg] 24 (0,0))] w wr) (λiv _=>xs.length-(intOf iv).toNat)
 case atStart=>exact⟨0,HS.new ch,rfl,by omega,rfl,by rw[Nat.zero_mul];exact X1⟩
 case round=>
  obtain⟨n,S,rfl,hn,hc,h⟩:=hrel;clear X1;by_cases hlt:n<xs.length
  ·have k1:(n:Int)<xs.length:=by omega
   have hP:=HX.below h.below;obtain⟨bl,off,ha,hcell⟩:=hP.cell;obtain rfl:a=some ⟨bl,off,none⟩:=by
    rcases ha with rfl | ha
    ·simp at hlt
    ·exact ha
   have Ti:=hP.each (xs.getD n default) (by rw[List.getD_eq_getElem?_getD,List.getElem?_eq_getElem hlt];exact List.getElem_mem hlt);have hcell:=hcell n hlt;have CY:n<=120:=by have:=HL.out;omega
   have bJ:n*60000000000<=100000000000000:=Nat.le_trans (Nat.mul_le_mul_right _ CY) (by decide);have hop:=h.1.op (xs.getD n default) Ti;have HD:=a_ (λK W (h:dN hb m rb S (n*60000000000) K w W)=>IU h HT (Nat.le_trans bJ (by decide)) _ Ti);have s1:=eH ((n:Int)+1);have H0:=a_ h;have HN:=a_ (And.intro hlt (And.intro CY bJ));obtain⟨S1,hS1⟩:∃S1,S.op (xs.getD n default)=S1:=⟨_,rfl⟩
   rw[hS1] at hop HD;have hc1:=hop.2.2.trans hc;have hg1:=hop.1;have hst1:=S1.stats_is;have Bo:S1.stats.mapped<=ch.room/\S1.stats.aM<=ch.room:=by
    rw[hst1.1,hst1.2.1,←hc1];exact⟨hg1.aX.used_room,hg1.aX.aM⟩
   have Dl:=a_ (λK W (h:dN hb m rb S1 (n*60000000000+30000000000) K w W)=>yd h HT (Nat.le_trans (Nat.add_le_add_right bJ _) (by decide)));have Dk:=a_ (And.intro hg1 hc1);have oS:=a_ (λK W (h:dN hb m rb S1 (n*60000000000+30000000000) K w W)=>hp_start h HT (Nat.le_trans (Nat.add_le_add_right bJ _) (by decide)));generalize (S.m.op jY (xs.getD n default)).2=r at *;generalize xs.getD n default=x at *;generalize S1.stats=t9 at *;obtain⟨xk,xa,xb,xi,Ph,Pe,Pf,Pm,Pd⟩:=x;obtain⟨asn,asw,asu,asm,ash,asc,asb,aso,asf⟩:=t9;simp only at Bo;unfold mU.val at HD;unfold LA.cells at Dl;simp only at HD Dl;have o0:=hcell 0 (.int .i64 xk) rfl;have o1:=hcell 1 (.int .i64 xa) rfl;have o2:=hcell 2 (.int .i64 xb) rfl;have o3:=hcell 3 (.int .i64 xi) rfl;have o4:=hcell 4 (.int .i64 Ph) rfl;have o5:=hcell 5 (.int .i64 Pe) rfl;have o6:=hcell 6 (.int .i64 Pf) rfl;have o7:=hcell 7 (.int .u64 (Pm:Nat)) rfl;have o8:=hcell 8 (.float .f64 Pd) rfl;simp only[Nat.add_zero] at o0;have r1:¬(ch.room<asm):=by omega
   have r2:¬(ch.room<ash):=by omega
   clear hcell hP Ti hop bJ h hlt hn CY hS1 hc1 hg1 hst1 Bo hc;generalize ch.room=rm at *;have RX:=a_ (H0.box #[Wy,Wy,Wy,Wy,Wy,Wy,Wy,.int .u64 0,.float .f64 0] 49)
   go_upto_region 6 with fail
   refine wp_region_lit ?_;refine wpList_step (λK hK=>?_);go_simp;refine hK _ _ ?_;clear hK K
   try simp only[aI]
   refine wpList_step (λK hK=>?_);go_simp;refine hK _ _ ?_;clear hK K
   try simp only[aI]
   refine wpList_step (λK hK=>?_);go_simp;refine hK _ _ ?_;clear hK K
   try simp only[aI]
   refine wpList_step (λK hK=>?_);go_simp;refine hK _ _ ?_;clear hK K
   try simp only[aI]
   generalize World.alloc _ _=w4 at *;generalize wr.heap.size=bo at *;refine wpList_step (λK hK=>?_);go_simp;refine hK _ _ ?_;clear hK K
   try simp only[aI]
   refine wpList_step (λK hK=>?_);rw[b9 (by kernel_rfl)];refine wp_store_row 49 (.tmp 7) (.tmp 22) rfl bo #[.int .i64 xk,.int .i64 xa,.int .i64 xb,.int .i64 xi,.int .i64 Ph,.int .i64 Pe,.int .i64 Pf,.int .u64 (Pm:Nat),.float .f64 Pd] rfl rfl 49 #[.int .i64 0,.int .i64 0,.int .i64 0,.int .i64 0,.int .i64 0,.int .i64 0,.int .i64 0,.int .u64 0,.float .f64 0] RX.has.head (by kernel_rfl) rfl (by first | kernel_rfl | simp[Value.oneCell']) ?_;refine hK _ _ ?_;clear hK K
   try simp only[aI]
   have X4:=a_ (RX.row (cs':= #[.int .i64 xk,.int .i64 xa,.int .i64 xb,.int .i64 xi,.int .i64 Ph,.int .i64 Pe,.int .i64 Pf,.int .u64 (Pm:Nat),.float .f64 Pd]) rfl);generalize w4.setRow bo #[.int .i64 xk,.int .i64 xa,.int .i64 xb,.int .i64 xi,.int .i64 Ph,.int .i64 Pe,.int .i64 Pf,.int .u64 (Pm:Nat),.float .f64 Pd]=w5 at *;clear RX H0 o0 o1 o2 o3 o4 o5 o6 o7 o8;refine wpList_nil ?_;have q:=X4.has.head;obtain⟨d0,d1,d2,d3,d4,d5,d6,d7,d8, -⟩:=fa q;clear q
   go_upto_region 8 with (go_at_call 25;refine (HD _ _ X4).kq ?_;rintro w6 x6;have X6:=a_ x6;clear x6)
   clear d0 d1 d2 d3 d4 d5 d6 d7 d8 X4;refine wp_region_lit ?_;refine wpList_step (λK hK=>?_);go_simp;refine hK _ _ ?_;clear hK K
   try simp only[aI]
   refine wpList_step (λK hK=>?_);go_simp
   go_at_call 26
   refine (Dl _ _ X6).kq ?_;rintro w7 x7;refine hK _ _ ?_;clear hK K
   try simp only[aI]
   generalize SZ:w7.heap.size=bs at *;refine wpList_step (λK hK=>?_);go_simp;refine hK _ _ ?_;clear hK K
   try simp only[aI]
   have X8a:=a_ (x7.box #[Wy,Wy,Wy,Wy,Wy,Wy,Wy,false,Wy] 54);rw[SZ] at X8a;generalize World.alloc _ _=w8 at *;clear SZ x7 X6;refine wpList_step (λK hK=>?_);rw[b9 (by kernel_rfl)];refine wp_store_row 54 (.tmp 8) (.tmp 27) rfl bs #[.int .i64 (asn:Nat),.int .i64 (asw:Nat),.int .i64 (asu:Nat),.int .i64 (asm:Nat),.int .i64 (ash:Nat),.int .i64 (asc:Nat),.int .i64 (asb:Nat),.bool aso,.int .i64 (asf:Nat)] rfl rfl 54 #[.int .i64 0,.int .i64 0,.int .i64 0,.int .i64 0,.int .i64 0,.int .i64 0,.int .i64 0,.bool false,.int .i64 0] X8a.has.head (by kernel_rfl) rfl (by first | kernel_rfl | simp[Value.oneCell']) ?_;refine hK _ _ ?_;clear hK K
   try simp only[aI]
   have X8:=a_ (X8a.row (cs':= #[.int .i64 (asn:Nat),.int .i64 (asw:Nat),.int .i64 (asu:Nat),.int .i64 (asm:Nat),.int .i64 (ash:Nat),.int .i64 (asc:Nat),.int .i64 (asb:Nat),.bool aso,.int .i64 (asf:Nat)]) rfl);generalize w8.setRow bs #[.int .i64 (asn:Nat),.int .i64 (asw:Nat),.int .i64 (asu:Nat),.int .i64 (asm:Nat),.int .i64 (ash:Nat),.int .i64 (asc:Nat),.int .i64 (asb:Nat),.bool aso,.int .i64 (asf:Nat)]=w9 at *;clear X8a;refine wpList_nil ?_
   go_upto_region 9 with fail
   have q:=X8.has.head;obtain⟨v0,v1,v2,v3,v4,v5,v6,v7,v8, -⟩:=fa q;have q:=X8.has.tail.tail.head;obtain⟨c0,c1,c2,c3,c4,c5,c6,c7, -⟩:=gD q;clear q;have QF:=a_ (fV (w:=w9) λW _=>mT W);have p0:=cell_regrown c0;have p1:=cell_regrown c1;have p2:=cell_regrown c2;have p3:=cell_regrown c3;have p4:=cell_regrown c4;have p5:=cell_regrown c5;have p6:=cell_regrown c6;have p7:=cell_regrown c7;have p8:=cell_regrown v3;have p9:=cell_regrown v4;clear c0 c1 c2 c3 c4 c5 c6 c7 v0 v1 v2 v3 v4 v5 v6 v7 v8;refine wp_region_quiet_below (by kernel_rfl) (by kernel_rfl) ?_
   repeat (quiet_step ((go_at_call 27;exact QF _ _)))
   refine wpQuiet_nil ?_;intro _ tZ;obtain⟨⟨dq,sQ⟩,iW⟩:=tZ;subst iW;clear p0 p1 p2 p3 p4 p5 p6 p7 p8 p9 QF;have X9:=a_ (X8.grow (below_regrown w9 dq sQ));generalize grow _ _=FN at *;clear X8
   go_upto_region 11 with fail
   have hrem5:(n:Int).tmod 5=((n%5:Nat):Int):=by rw[Int.tmod_eq_emod_of_nonneg (by omega)];omega
   have hrem3:(n:Int).tmod 3=((n%3:Nat):Int):=by rw[Int.tmod_eq_emod_of_nonneg (by omega)];omega
   obtain⟨q5,SW⟩:∃q,n%5=q:=⟨_,rfl⟩
   obtain⟨q3,Qr⟩:∃q,n%3=q:=⟨_,rfl⟩
   rw[SW] at hrem5;rw[Qr] at hrem3;have wr5:IntKind.i64.wrap (q5:Int)=q5:=IntWalk.i64_in _ (by omega);have wr3:IntKind.i64.wrap (q3:Int)=q3:=IntWalk.i64_in _ (by omega);clear SW Qr;by_cases h54:q5=4;subst h54
   go_upto_region 13 with (go_at_call 15;refine (oS _ _ X9).kq ?_;rintro Wv Pa;have X10:=a_ (show ∃S2,S2.Good/\S2.c=ch/\dN hb m rb S2 (n*60000000000+40000000000) [(bs,.cells #[(asn:Nat),(asw:Nat),(asu:Nat),(asm:Nat),(ash:Nat),(asc:Nat),(asb:Nat),aso,(asf:Nat)] 54 (0,0)),(bo,.cells #[xk,xa,xb,xi,Ph,Pe,Pf,WB Pm,.float .f64 Pd] 49 (0,0)),(B,.cells #[kd,pg,bk,wd,sl,st,ah,.float .f64 tg] 24 (0,0))] w Wv from⟨S1.dJ,Dk.1.dJ.1,Dk.1.dJ.2.2.trans Dk.2,Pa.more (Nat.le_of_eq (Nat.add_assoc _ _ _))⟩);clear Pa)
   rotate_left
   have h54i:¬(q5:Int)=4:=by omega
   go_upto_region 13 with fail
   have X10:=a_ (show ∃S2,S2.Good/\S2.c=ch/\dN hb m rb S2 (n*60000000000+40000000000) [(bs,.cells #[(asn:Nat),(asw:Nat),(asu:Nat),(asm:Nat),(ash:Nat),(asc:Nat),(asb:Nat),aso,(asf:Nat)] 54 (0,0)),(bo,.cells #[xk,xa,xb,xi,Ph,Pe,Pf,WB Pm,.float .f64 Pd] 49 (0,0)),(B,.cells #[kd,pg,bk,wd,sl,st,ah,.float .f64 tg] 24 (0,0))] w FN from⟨S1,Dk.1,Dk.2,X9.more (Nat.add_le_add_left (by decide) _)⟩);clear h54i
   all_goals
    obtain⟨S2,wY,Bb,OZ⟩:=X10.out;have VC:=hp_left OZ;have Fx:=a_ (λK W (h:dN hb m rb S2 (n*60000000000+40000000000) K w W)=>yd h HT (Nat.le_trans (Nat.add_le_add_right HN.2.2 _) (by decide)));have FW:=a_ (λK W (h:dN hb m rb S2 (n*60000000000+40000000000) K w W)=>hp_move h HT (Nat.le_trans (Nat.add_le_add_right HN.2.2 _) (by decide)));have HS3:=a_ (λK W (h:dN hb m rb S2.step (n*60000000000+40000000000+2000000) K w W)=>yd h HT (Nat.le_trans (Nat.add_le_add_right (Nat.add_le_add_right HN.2.2 _) _) (by decide)));have hsl:=λq=>wY.stepl q
    have FT:=a_ (And.intro Bb (wY.stepc.trans Bb));have f2:=S2.stats_is;have f3:=S2.step.stats_is;have X11:=a_ OZ;clear X10 OZ wY Bb;obtain⟨-, -,p1,p2, -⟩:=f2;obtain⟨-, -, -,p3, -⟩:=f3;generalize S2.stats=t2 at *;generalize S2.step.stats=t3 at *;generalize S2.bX.isSome=o2 at *;generalize S2.left=l2 at *;generalize S2.step.left=l3 at *;obtain⟨bsn,bsw,bsu,bsm,bsh,bsc,bsb,bso,bsf⟩:=t2;obtain⟨csn,csw,csu,csm,csh,csc,csb,cso,csf⟩:=t3;simp only at p1 p2 p3;subst p1 p2 p3;unfold LA.cells at Fx HS3;simp only at Fx HS3;have s64:bso=true->IntKind.i64.wrap ((bsf:Int)-1)=(csf:Int):=λq=>by
     have:=hsl q;rw[IntWalk.i64_in _ (by omega)];omega
    clear hsl VC X9 wr5 hrem5 oS;refine wp_region_lit ?_;refine wpList_step (λK hK=>?_);go_simp;refine hK _ _ ?_;clear hK K
    try simp only[aI]
    refine wpList_step (λK hK=>?_);go_simp
    go_at_call 26
    refine (Fx _ _ X11).kq ?_;rintro Au Pb;refine hK _ _ ?_;clear hK K
    try simp only[aI]
    refine wpList_step (λK hK=>?_);rw[b9 (by kernel_rfl)];refine wp_store_row 54 (.tmp 8) (.tmp 46) rfl bs #[.int .i64 (bsn:Nat),.int .i64 (bsw:Nat),.int .i64 (bsu:Nat),.int .i64 (bsm:Nat),.int .i64 (bsh:Nat),.int .i64 (bsc:Nat),.int .i64 (bsb:Nat),.bool bso,.int .i64 (bsf:Nat)] rfl rfl 54 #[.int .i64 (asn:Nat),.int .i64 (asw:Nat),.int .i64 (asu:Nat),.int .i64 (asm:Nat),.int .i64 (ash:Nat),.int .i64 (asc:Nat),.int .i64 (asb:Nat),.bool aso,.int .i64 (asf:Nat)] Pb.has.head (by kernel_rfl) rfl (by first | kernel_rfl | simp[Value.oneCell']) ?_;refine hK _ _ ?_;clear hK K
    try simp only[aI]
    have X12:=a_ (Pb.row (cs':= #[.int .i64 (bsn:Nat),.int .i64 (bsw:Nat),.int .i64 (bsu:Nat),.int .i64 (bsm:Nat),.int .i64 (bsh:Nat),.int .i64 (bsc:Nat),.int .i64 (bsb:Nat),.bool bso,.int .i64 (bsf:Nat)]) rfl);generalize Au.setRow bs #[.int .i64 (bsn:Nat),.int .i64 (bsw:Nat),.int .i64 (bsu:Nat),.int .i64 (bsm:Nat),.int .i64 (bsh:Nat),.int .i64 (bsc:Nat),.int .i64 (bsb:Nat),.bool bso,.int .i64 (bsf:Nat)]=Ww at *;clear Pb X11;refine wpList_nil ?_;have q:=X12.has.head;obtain⟨v0,v1,v2,v3,v4,v5,v6,v7,v8, -⟩:=fa q;clear q
    go_upto_region 14 with fail
    cases bso with
    | false=>
     clear v0 v1 v2 v3 v4 v5 v6
     go_quiet (fail)
     have X13:=a_ (X12.grow (Fr.aA nq _));clear X12 v7 v8;go_wp2
     go_roundw
     case rel=>exact⟨n+1,S2,by go_num,by have:=HN.1;omega,FT.1,(dN.less (K':= [(bs,.cells #[(bsn:Nat),(bsw:Nat),(bsu:Nat),(bsm:Nat),(bsh:Nat),(bsc:Nat),(bsb:Nat),false,(bsf:Nat)] 54 (0,0)),(bo,.cells #[xk,xa,xb,xi,Ph,Pe,Pf,WB Pm,.float .f64 Pd] 49 (0,0))]) X13).more (Nat.le_trans (Nat.add_le_add_left (by decide) _) (Nat.le_of_eq (Nat.succ_mul n 60000000000).symm))⟩
     case measure=>have:=HN.1;simp[intOf];omega
    | true=>
     have s64:=s64 rfl;by_cases h30:q3=0
     ·subst h30;simp only[Int.natCast_zero] at hrem3 wr3;clear v0 v1 v2 v3 v4 v5 v6;refine wp_region_held_drew (S:=λW=>W.cell? ⟨bs,7,none⟩=some (.bool true)/\W.cell? ⟨bs,8,none⟩=some (.int .i64 (bsf:Nat))) (by kernel_rfl) ⟨v7,v8⟩ (λhHeld=>?_);have X13:=a_ (X12.grow (ay _));generalize Ww.drew=w13d at *;clear X12 v7 v8;refine bz 0 ?_;refine bz 1 ?_;refine bz 2 ?_;refine bz 3 ?_;refine bz 4 ?_;refine bz 5 ?_;refine bz 6 ?_;refine bz 7 ?_;refine bz 8 ?_;simp only[aI];refine pT 9 (λK hK=>?_);go_simp
      go_at_call 19
      refine (FW _ _ X13).kq ?_;rintro w14 x14;have X14:=a_ x14;have q:=X14.has.head;obtain⟨-, -, -, -, -, -, -,v7,v8, -⟩:=fa q;clear hHeld x14 X13 q;refine hK _ _ ⟨v7,v8⟩ (λhHeld=>?_);clear hK K
      try simp only[aI]
      clear v7 v8;refine bz 10 ?_;refine bz 11 ?_;refine bz 12 ?_;refine bz 15 ?_;refine bz 16 ?_;refine bz 17 ?_;simp only[aI];refine pT 13 (λK hK=>?_);go_simp
      go_at_call 26
      refine (HS3 _ _ X14).kq ?_;rintro w15 x15;have X15:=a_ x15;have q:=X15.has.head;obtain⟨-, -, -, -, -, -, -,v7,v8, -⟩:=fa q;clear hHeld x15 X14 q;refine hK _ _ ⟨v7,v8⟩ (λhHeld=>?_);clear hK K
      try simp only[aI]
      clear v7 v8;have zU:=stats_field csn csw csu csm csh csc csb cso csf;refine bz 14 ?_;simp only[aI];clear zU;refine bz 18 ?_;refine bz 19 ?_;refine bz 20 ?_;simp only[aI];refine wpAnyH_done (by kernel_rfl) ?_ _
      try simp only[aI]
      go_wp2
      go_roundw
      case rel=>exact⟨n+1,S2.step,by go_num,by have:=HN.1;omega,FT.2,(dN.less (K':= [(bs,.cells #[(bsn:Nat),(bsw:Nat),(bsu:Nat),(bsm:Nat),(bsh:Nat),(bsc:Nat),(bsb:Nat),true,(bsf:Nat)] 54 (0,0)),(bo,.cells #[xk,xa,xb,xi,Ph,Pe,Pf,WB Pm,.float .f64 Pd] 49 (0,0))]) X15).more (Nat.le_trans (Nat.le_of_eq (Nat.add_assoc _ _ _)) (Nat.le_trans (Nat.add_le_add_left (by decide) _) (Nat.le_of_eq (Nat.succ_mul n 60000000000).symm)))⟩
      case measure=>have:=HN.1;simp[intOf];omega
     ·have h30i:¬(q3:Int)=0:=by omega
      have b30:((q3:Int)==0)=false:=by rw[beq_eq_false_iff_ne];exact h30i
      have d30:decide ((q3:Int)=0)=false:=decide_eq_false h30i;clear v0 v1 v2 v3 v4 v5 v6
      go_quiet (fail)
      have X13:=a_ (X12.grow (Fr.aA nq _));clear X12 v7 v8;go_wp2
      go_roundw
      case rel=>exact⟨n+1,S2,by go_num,by have:=HN.1;omega,FT.1,(dN.less (K':= [(bs,.cells #[(bsn:Nat),(bsw:Nat),(bsu:Nat),(bsm:Nat),(bsh:Nat),(bsc:Nat),(bsb:Nat),true,(bsf:Nat)] 54 (0,0)),(bo,.cells #[xk,xa,xb,xi,Ph,Pe,Pf,WB Pm,.float .f64 Pd] 49 (0,0))]) X13).more (Nat.le_trans (Nat.add_le_add_left (by decide) _) (Nat.le_of_eq (Nat.succ_mul n 60000000000).symm))⟩
      case measure=>have:=HN.1;simp[intOf];omega
  ·have k1:¬(n:Int)<xs.length:=by omega
   have CY:n<=120:=by have:=HL.out;omega
   have bJ:n*60000000000<=100000000000000:=Nat.le_trans (Nat.mul_le_mul_right _ CY) (by decide);have Aw:=a_ (λK W (h:dN hb m rb S (n*60000000000) K w W)=>hp_collect h HT (Nat.le_trans bJ (by decide)));have HS9:=a_ (λK W (h:dN hb m rb S.collect (n*60000000000+10000000000) K w W)=>yd h HT (Nat.le_trans (Nat.add_le_add_right bJ _) (by decide)));have xS:=h.1.collect;have f9:=S.collect.stats_is;have o9:S.collect.stats.opn=false:=by rw[f9.2.2.1,xS.2.2.2.1];rfl
   have u9:S.collect.stats.words=S.collect.stats.used:=by rw[f9.2.2.2.2.1,f9.2.2.2.2.2.1,xS.2.2.2.2,xS.2.1]
   have X4:=a_ h;clear xS f9 h CY bJ hn hlt hc mT;generalize S.collect.stats=t9 at *;generalize S.collect=S9 at *;obtain⟨asn,asw,asu,asm,ash,asc,asb,aso,asf⟩:=t9;simp only at o9 u9;subst o9 u9;unfold LA.cells at HS9;simp only at HS9
   go_upto_region 18 with (go_at_call 28;refine (Aw _ _ X4).kq ?_;rintro Wv Pa;have X5:=a_ Pa;clear Pa X4)
   refine wp_region_lit ?_;refine wpList_step (λK hK=>?_);go_simp;refine hK _ _ ?_;clear hK K
   try simp only[aI]
   refine wpList_step (λK hK=>?_);go_simp
   go_at_call 26
   refine (HS9 _ _ X5).kq ?_;rintro w7 x7;refine hK _ _ ?_;clear hK K
   try simp only[aI]
   generalize SZ:w7.heap.size=bs at *;refine wpList_step (λK hK=>?_);go_simp;refine hK _ _ ?_;clear hK K
   try simp only[aI]
   have X8a:=a_ (x7.box #[Wy,Wy,Wy,Wy,Wy,Wy,Wy,false,Wy] 54);rw[SZ] at X8a;generalize World.alloc _ _=w8 at *;clear SZ x7 X5;refine wpList_step (λK hK=>?_);rw[b9 (by kernel_rfl)];refine wp_store_row 54 (.tmp 9) (.tmp 72) rfl bs #[.int .i64 (asn:Nat),.int .i64 (asw:Nat),.int .i64 (asw:Nat),.int .i64 (asm:Nat),.int .i64 (ash:Nat),.int .i64 (asc:Nat),.int .i64 (asb:Nat),.bool false,.int .i64 (asf:Nat)] rfl rfl 54 #[.int .i64 0,.int .i64 0,.int .i64 0,.int .i64 0,.int .i64 0,.int .i64 0,.int .i64 0,.bool false,.int .i64 0] X8a.has.head (by kernel_rfl) rfl (by first | kernel_rfl | simp[Value.oneCell']) ?_;refine hK _ _ ?_;clear hK K
   try simp only[aI]
   have X8:=a_ (X8a.row (cs':= #[.int .i64 (asn:Nat),.int .i64 (asw:Nat),.int .i64 (asw:Nat),.int .i64 (asm:Nat),.int .i64 (ash:Nat),.int .i64 (asc:Nat),.int .i64 (asb:Nat),.bool false,.int .i64 (asf:Nat)]) rfl);generalize w8.setRow bs #[.int .i64 (asn:Nat),.int .i64 (asw:Nat),.int .i64 (asw:Nat),.int .i64 (asm:Nat),.int .i64 (ash:Nat),.int .i64 (asc:Nat),.int .i64 (asb:Nat),.bool false,.int .i64 (asf:Nat)]=w9 at *;clear X8a;refine wpList_nil ?_
   go_upto_region 19 with fail
   have q:=X8.has.head;obtain⟨-,v1,v2, -, -, -, -,v7, -⟩:=gD q;clear q
   go_wp2_with (go_at_call 12;refine (FV _ (X8.tz HT)).kq ?_;rintro FN dw;have X9:=a_ (X8.grow dw);clear dw)
   go_ret;exact⟨rfl,X9.below⟩
theorem topFrames_any (c:iL) (hc:c.JT) (a:Option Addr) (cap:Nat) (xs:List mU) (hx:zJ w a xs) (hT:ax w):WA 5 #[.agg c.cells,.slice a xs.length cap] w λe w'=>e= .returned true/\Below w.heap.size w w':=by
 by_cases h:rV c xs.length=false/\c.ok
 ·exact frames_yes c hc.ints a cap xs hx h.1 h.2 hT
 ·refine frames_no c hc.ints a xs.length cap ?_ hT;by_cases hf:rV c xs.length=true
  ·exact .inl hf
  ·exact .inr λhok=>h ⟨Bool.eq_false_iff.2 hf,hok⟩
end
end
end Go.Proofs.YtmdgfpeglgpiiaaGreatDoor

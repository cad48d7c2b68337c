import Derived.Deep.Cut
import Derived.Deep.CutRange
import Derived.Lib.QuietBelow
import Derived.Test.YtmdgfpeglgpiiaaGreatDoorB19
set_option linter.unusedVariables false
set_option linter.unusedSimpArgs false
set_option maxRecDepth 100000
set_option maxHeartbeats 16000000
namespace Go.Proofs.YtmdgfpeglgpiiaaGreatDoor
open Vq Oq Go.Proofs.Tryz
open Go.ChangeShapes Go.WideShapes Go.ChangeAt Go.RowKit Go.Maps Go.Sort
def HS.cyn (S:HS):Nat:=S.ae+if S.bX.isSome then 1 else 0
structure HS.Ends (S S':HS):Prop where
 cyn:S'.cyn=S.cyn
 left:S'.left<=S.left
 none_:S.bX=none->S'.bX=none
section
variable {S S' S2:HS} {k:wR} {y:aJ} {s:ml}
theorem HS.Ends.refl (S:HS):S.Ends S:=⟨rfl,Nat.le_refl _,id⟩
theorem HS.Ends.trans (h:S.Ends S') (h2:S'.Ends S2):S.Ends S2:=⟨h2.cyn.trans h.cyn,Nat.le_trans h2.left h.left,λq=>h2.none_ (h.none_ q)⟩
theorem HS.Ends.of_eq (h1:S'.bX=S.bX) (h2:S'.ae=S.ae):S.Ends S':=by
 refine⟨?_,?_,λq=>h1.trans q⟩
 ·unfold HS.cyn;rw[h1,h2]
 ·unfold HS.left;rw[h1];exact Nat.le_refl _
theorem setB_le {mv:Nat->Bool} (k:Nat) {i:Nat} (h:mv i=true):bj mv k i=true:=by
 unfold bj
 split
 ·rfl
 ·exact h
theorem cnt_le_of_le {f g:Nat->Bool} (h:∀i,f i=true->g i=true):∀n,aG f n<=aG g n
 | 0=>Nat.le_refl _
 | n+1=>by
  have ih:=cnt_le_of_le h n;rw[bM,bM]
  cases hf:f n with
  | false=>simp only[Bool.false_eq_true,if_false];omega
  | true=>rw[h n hf];simp only[if_true];omega
theorem aJ.push_le (y:aJ) (k:Nat):∀(n:Nat) (s:ml) (i:Nat),s.mv i=true->(y.push k n s).mv i=true
 | 0,s,i,h=>h
 | n+1,s,i,h=>by
  unfold aJ.push
  split
  ·exact aJ.push_le y k n _ i (setB_le _ h)
  ·exact h
theorem aJ.touch_le (y:aJ) (s:ml) (a:Nat) {i:Nat} (h:s.mv i=true):(y.bO s a).mv i=true:=by
 unfold aJ.bO
 split
 ·split
  ·exact aJ.push_le y _ _ s i h
  ·exact setB_le _ (aJ.push_le y _ _ s i h)
 ·exact h
theorem HS.ends_setC (hk:S.bX=some k) (s:ml) (h:∀i,k.mv i=true->s.mv i=true):S.Ends (S.pZ k s):=by
 refine⟨?_,?_,λq=>by rw[hk] at q;cases q⟩
 ·unfold HS.cyn HS.pZ;rw[hk];rfl
 ·have e1:(S.pZ k s).left=k.y.nb-aG s.mv k.y.nb:=rfl;have e2:S.left=k.y.nb-aG k.mv k.y.nb:=by unfold HS.left;rw[hk]
  have:=cnt_le_of_le h k.y.nb;omega
theorem HS.ends_fin (S:HS):S.Ends S.fin:=by
 cases hk:S.bX with
 | none=>
  have e:S.fin=S:=by unfold HS.fin;rw[hk]
  rw[e];exact .refl S
 | some k=>
  by_cases hc:aG k.mv k.y.nb=k.y.nb
  ·have e:S.fin={S with bX:=none,ae:=S.ae+1,af:=S.af+k.y.nb}:=by
    unfold HS.fin;rw[hk];exact b9 hc
   rw[e];refine⟨?_,Nat.zero_le _,λ_=>rfl⟩;unfold HS.cyn;rw[hk];rfl
  ·have e:S.fin=S:=by
    unfold HS.fin;rw[hk];exact b_ hc
   rw[e];exact .refl S
theorem HS.ends_ld (S:HS) (a:Nat):S.Ends (S.ld a):=by
 cases hk:S.bX with
 | none=>
  have e:S.ld a=S:=by unfold HS.ld;rw[hk]
  rw[e];exact .refl S
 | some k=>
  rw[HS.vU hk];exact HS.ends_setC hk _ λi hi=>aJ.touch_le k.y (S.kG k) a hi
theorem HS.ends_st (S:HS) (a x:Nat):S.Ends (S.st a x):=(HS.ends_ld S a).trans (.of_eq rfl rfl)
theorem HS.ends_gt (S:HS) (a:Nat) (i k:Int):S.Ends (S.gt a i k):=by
 unfold HS.gt
 split
 ·exact (HS.ends_ld S a).trans (HS.ends_ld _ _)
 ·exact HS.ends_ld S a
theorem HS.ends_pt (S:HS) (a:Nat) (i k:Int) (x:Nat):S.Ends (S.pt a i k x):=by
 unfold HS.pt
 split
 ·exact (HS.ends_ld S a).trans (HS.ends_st _ _ _)
 ·exact HS.ends_ld S a
theorem HS.ends_setR (S:HS) (s a:Nat) (m:MH):S.Ends (S.oy s a m):= .of_eq rfl rfl
theorem HS.ends_withM (S:HS) (m:MH):S.Ends (S.iT m):= .of_eq rfl rfl
theorem HS.ends_get (S:HS) (s i k:Int):S.Ends (S.get s i k):=by
 unfold HS.get
 split
 ·split
  ·exact HS.ends_fin S
  ·exact (HS.ends_gt S _ _ _).trans (HS.ends_fin _)
 ·exact .refl S
theorem HS.ends_set (S:HS) (s i k:Int) (x y:Nat):S.Ends (S.set s i k x y):=by
 unfold HS.set
 split
 ·split
  ·exact HS.ends_fin S
  ·exact ((HS.ends_pt S _ _ _ _).trans (HS.ends_withM _ _)).trans (HS.ends_fin _)
 ·exact .refl S
theorem HS.ends_load (S:HS) (s f i:Int):S.Ends (S.load s f i):=by
 unfold HS.load
 split
 ·split
  ·exact HS.ends_fin S
  ·split
   ·exact ((HS.ends_gt S _ _ _).trans (HS.ends_fin _)).trans (HS.ends_setR _ _ _ _)
   ·exact (HS.ends_gt S _ _ _).trans (HS.ends_fin _)
 ·exact .refl S
theorem HS.ends_store (S:HS) (s i f:Int):S.Ends (S.store s i f):=by
 unfold HS.store
 split
 ·exact HS.ends_set S _ _ _ _ _
 ·exact .refl S
theorem HS.ends_copy (S:HS) (s f:Int):S.Ends (S.copy s f):=by
 unfold HS.copy
 split
 ·exact HS.ends_setR S _ _ _
 ·exact .refl S
theorem HS.ends_clear (S:HS) (s:Int):S.Ends (S.clear s):=by
 unfold HS.clear
 split
 ·exact HS.ends_setR S _ _ _
 ·exact .refl S
theorem HS.ends_shape (S:HS) (s:Int):S.Ends (S.shape s):=by
 unfold HS.shape
 split
 ·split
  ·exact HS.ends_fin S
  ·exact (HS.ends_ld S _).trans (HS.ends_fin _)
 ·exact .refl S
theorem HS.ends_gets (S:HS) (s:Int) (p:Nat):∀n,S.Ends (S.gets s p n)
 | 0=> .refl S
 | n+1=>(HS.ends_gets S s p n).trans (HS.ends_get _ _ _ _)
theorem HS.ends_sum (S:HS) (s:Int):S.Ends (S.sum s):=by
 unfold HS.sum
 split
 ·exact (HS.ends_shape S s).trans (HS.ends_gets _ _ _ _)
 ·exact HS.ends_shape S s
theorem HS.ends_order (S:HS) (a i b k:Int):S.Ends (S.order a i b k):=by
 unfold HS.order
 split
 ·exact (HS.ends_get S _ _ _).trans (HS.ends_get _ _ _ _)
 ·exact HS.ends_get S _ _ _
theorem HS.ends_step (S:HS):S.Ends S.step:=by
 cases hk:S.bX with
 | none=>
  have e:S.step=S:=by unfold HS.step;rw[hk]
  rw[e];exact .refl S
 | some k=>
  have e:S.step=(S.pZ k (k.y.move (S.kG k) (k.y.fr k.mv))).fin:=by unfold HS.step;rw[hk]
  rw[e];exact (HS.ends_setC hk _ λi hi=>setB_le _ hi).trans (HS.ends_fin _)
theorem HS.ends_op (S:HS) (x:mU) (h1:x.k≠1) (Gh:x.k≠15) (Iv:x.k≠16):S.Ends (S.op x):=by
 unfold HS.op;by_cases k4:x.k=4
 ·rw[b9 k4];exact HS.ends_get S _ _ _
 rw[b_ k4];by_cases k6:x.k=6
 ·rw[b9 k6];exact HS.ends_get S _ _ _
 rw[b_ k6];by_cases Wj:x.k=10
 ·rw[b9 Wj];exact .refl S
 rw[b_ Wj];by_cases Tk:x.k=11
 ·rw[b9 Tk];exact HS.ends_shape S _
 rw[b_ Tk];by_cases Qy:x.k=12
 ·rw[b9 Qy];exact HS.ends_sum S _
 rw[b_ Qy];by_cases k13:x.k=13
 ·rw[b9 k13];exact HS.ends_order S _ _ _ _
 rw[b_ k13];by_cases k14:x.k=14
 ·rw[b9 k14];exact .refl S
 rw[b_ k14];rw[b_ h1];by_cases k2:x.k=2
 ·rw[b9 k2];exact HS.ends_load S _ _ _
 rw[b_ k2];by_cases k3:x.k=3
 ·rw[b9 k3];exact HS.ends_store S _ _ _
 rw[b_ k3];by_cases k5:x.k=5
 ·rw[b9 k5];exact HS.ends_set S _ _ _ _ _
 rw[b_ k5];by_cases k7:x.k=7
 ·rw[b9 k7];exact HS.ends_set S _ _ _ _ _
 rw[b_ k7];by_cases k8:x.k=8
 ·rw[b9 k8];exact HS.ends_copy S _ _
 rw[b_ k8];by_cases k9:x.k=9
 ·rw[b9 k9];exact HS.ends_clear S _
 rw[b_ k9];rw[b_ Gh];rw[b_ Iv];by_cases k17:x.k=17
 ·rw[b9 k17];exact HS.ends_step S
 rw[b_ k17];exact .refl S
theorem HS.Good.stepg (h:S.Good):S.step.Good:=by
 cases hk:S.bX with
 | none=>
  have e:S.step=S:=by unfold HS.step;rw[hk]
  rw[e];exact h
 | some k=>exact (h.step hk).2.2.1
theorem cnt_between {f:Nat->Bool} {a b:Nat}:∀n,(∀p,p<n->(f p=true↔a<=p/\p<b))->aG f n=min b n-min a n
 | 0,_=>by rw[Nat.min_zero,Nat.min_zero];rfl
 | n+1,h=>by
  rw[bM,cnt_between n λp hp=>h p (by omega)];have:=h n (by omega);by_cases q:a<=n/\n<b
  ·rw[b9 (this.2 q)];omega
  ·rw[b_ (λe=>q (this.1 e))];omega
theorem HS.ep.mapped (h:S.ep) (hk:S.bX=none):S.v.used=(S.top-S.aa+S.c.page-1)/S.c.page:=by
 obtain⟨⟨d1,d2⟩,d3,d4,d5,d6,d7⟩:=h.bG.fX;obtain⟨r1,r2,r3,r4,r5⟩:=h.run;have ht:=h.top;have e:S.c.page*(S.aa/S.c.page)=S.aa:=Nat.mul_div_cancel' (Nat.dvd_of_mod_eq_zero r2);have em:S.c.page*(S.c.mw/S.c.page)=S.c.mw:=Nat.mul_div_cancel' (Nat.dvd_of_mod_eq_zero d4);have hu:S.v.used=aG S.v.mp (S.c.mw/S.c.page):=h.used;have hc:=cnt_between (f:=S.v.mp) (a:=S.aa/S.c.page) (b:=(S.top+S.c.page-1)/S.c.page) (S.c.mw/S.c.page) λp hp=>by
  rw[h.closed hk p hp,mO d1 r2];have:p<(S.top+S.c.page-1)/S.c.page↔p*S.c.page<S.top:=by
   rw[show p<(S.top+S.c.page-1)/S.c.page↔p+1<=(S.top+S.c.page-1)/S.c.page from Iff.rfl,Nat.le_div_iff_mul_le d1,Nat.add_mul,Nat.one_mul];omega
  rw[this]
 have hb:(S.top+S.c.page-1)/S.c.page<=S.c.mw/S.c.page:=by
  have:(S.top+S.c.page-1)/S.c.page<S.c.mw/S.c.page+1:=by
   rw[Nat.div_lt_iff_lt_mul d1,Nat.add_mul,Nat.one_mul,Nat.mul_comm,em];omega
  omega
 have ha:S.aa/S.c.page<=S.c.mw/S.c.page:=Nat.div_le_div_right (by omega);rw[Nat.min_eq_left hb,Nat.min_eq_left ha] at hc;rw[hu,hc];have e3:S.top+S.c.page-1=S.top-S.aa+S.c.page-1+S.c.page*(S.aa/S.c.page):=by omega
 rw[e3,Nat.add_mul_div_left _ _ d1,Nat.add_sub_cancel]
end
section
attribute [local go_sem] Oper.semAt_some
section
variable {hb m rb T T':Nat} {S S':HS} {R K K':BL} {w w' W W':World} {s p f o i k:Int}
theorem dN.more (h:dN hb m rb S T K w W) (hT:T<=T'):dN hb m rb S T' K w W:=by
 obtain⟨hg,R,hh,d⟩:=h;exact⟨hg,R,hh.more hT,d⟩
theorem hp_of (hg:S.Good) (h:ak hb m rb S T R) (d:ag [] R W W') (D:ag [] K w W):dN hb m rb S T K w W':=⟨hg,R,h,D.bh d⟩
theorem hp_start (h:dN hb m rb S T K w W) (hT:ax w) (bJ:T<=600000000000000):WA 15 #[Wz hb] W λe W'=>e= .returned (.tuple #[])/\dN hb m rb S.dJ (T+10000000000) K w W':=
 vP h hT h.1.dJ.1 λR hh hR lT hN=>start_h hh h.1 hR lT hN bJ
theorem hp_move (h:dN hb m rb S T K w W) (hT:ax w) (bJ:T<=800000000000000):WA 19 #[Wz hb] W λe W'=>e= .returned (.bool S.bX.isSome)/\dN hb m rb S.step (T+2000000) K w W':=
 vP h hT h.1.stepg λR hh hR lT hN=>Aq hh h.1 hR lT hN bJ
end
section
variable {hb m rb T:Nat} {S:HS} {K:BL} {w W W':World}
theorem HS.stats_is (S:HS):S.stats.mapped=S.v.used/\S.stats.aM=S.v.aM/\S.stats.opn=S.bX.isSome/\S.stats.left=S.left/\S.stats.used=S.top-S.aa/\S.stats.words=S.m.aq/\S.stats.ae=S.ae:=by
 unfold HS.stats HS.left
 cases S.bX<;>exact⟨rfl,rfl,rfl,rfl,rfl,rfl,rfl⟩
theorem HS.Good.stepl (h:S.Good) (ho:S.bX.isSome=true):S.step.left+1=S.left:=by
 cases hk:S.bX with
 | none=>rw[hk] at ho;cases ho
 | some k=>exact (h.step hk).2.2.2.2
theorem HS.Good.stepc (h:S.Good):S.step.c=S.c:=by
 cases hk:S.bX with
 | none=>
  have e:S.step=S:=by unfold HS.step;rw[hk]
  rw[e]
 | some k=>exact (h.step hk).2.2.2.1.c
theorem stats_field (a b c d e f g:Int) (o:Bool) (l:Int) (w:World):(Instr.field 54 (.agg #[a,b,c,d,e,f,g,o,l]) 8).run prog w= .ok (.int .i64 l) w:=by kernel_rfl
theorem hp_left (h:dN hb m rb S T K w W):S.left<=1048576:=by
 obtain⟨hg,R,hh,d⟩:=h
 cases hk:S.bX with
 | none=>rw[HS.pF hk];omega
 | some k=>
  obtain⟨run,cy, -, -, -, -,hz⟩:=hh.runs hg.aX;obtain⟨cb, -,hn, -⟩:=hz k hk;unfold HS.left;rw[hk];show k.y.nb-_<=_
  omega
end
section
variable {hb m rb T:Nat} {S:HS} {K:BL} {w W W':World}
theorem HS.Good.left0 (h:S.Good) (h0:S.left=0):S.bX=none:=by
 cases hk:S.bX with
 | none=>rfl
 | some k=>
  have:=h.stepl (by rw[hk];rfl);omega
theorem hp_cycles (h:dN hb m rb S T K w W):S.ae<=T:=by
 obtain⟨hg,R,hh,d⟩:=h;exact hh.1
theorem map_div {u p m:Nat} (h:m=(u+p-1)/p) (hp:1<=p) (hp2:p<=1048576) (hu:u<=1048576):IntKind.i64.wrap ((u:Int)+p)=(u:Int)+p/\IntKind.i64.wrap ((u:Int)+p-1)=(u:Int)+p-1/\((u:Int)+p-1).tdiv p=m/\((p:Int)==0)=false/\IntKind.i64.wrap (m:Int)=m/\¬(p:Int)=0/\¬p=0:=by
 have e:((u+p-1:Nat):Int)=(u:Int)+p-1:=by omega
 have hd:((u:Int)+p-1)/p=m:=by
  rw[←e,h];exact (Int.natCast_ediv _ _).symm
 have hm:m<=2097152:=by
  rw[h];exact Nat.le_trans (Nat.div_le_self _ _) (by omega)
 exact⟨IntWalk.i64_in _ (by omega),IntWalk.i64_in _ (by omega),by rw[Int.tdiv_eq_ediv_of_nonneg (by omega)];exact hd,by rw[beq_eq_false_iff_ne];omega,IntWalk.i64_in _ (by omega),by omega,by omega⟩
theorem HS.Good.maps (h:S.Good) (hk:S.bX=none):S.stats.mapped=(S.stats.used+S.c.page-1)/S.c.page/\1<=S.c.page/\S.c.page<=1048576/\S.stats.used<=1048576:=by
 have f:=S.stats_is;have hm:=h.aX.mapped hk;obtain⟨⟨d1,d2⟩,d3,d4,d5,d6,d7⟩:=h.aX.bG.fX;have:=h.aX.bG.pw;have:=h.aX.bG.GQ;have:=h.aX.top;rw[f.1,f.2.2.2.2.1];exact⟨hm,by omega,by omega,by omega⟩
def tE (TB i:Nat):Nat:=TB+min i 120*30000000000+i*2000000
theorem tE_do {TB i:Nat} (h:i<120):tE TB i+30000000000+2000000<=tE TB (i+1):=by unfold tE;omega
theorem tE_no (TB i:Nat):tE TB i+2000000<=tE TB (i+1):=by unfold tE;omega
theorem tE_le {TB i:Nat} (h:TB<=10000000000000) (hi:i<=1048576):tE TB i<=100000000000000:=by unfold tE;omega
def iL.sl (c:iL):iL:={c with kind:=1}
theorem ends_no (c:iL) (hi:c.rB) (a a2:Option Addr) (n cap n2 eO:Nat) (h:rV c.sl n=true\/¬c.sl.ok) (hT:ax w):WA 4 #[.agg c.cells,.slice a n cap,.slice a2 n2 eO] w λe w'=>e= .returned true/\Below w.heap.size w w':=by
 have HM:=a_ (λW=>made_no c.sl hi a n cap h W);have FV:=a_ (λW (h:ax W)=>Bt h);have HT:=a_ hT;unfold iL.cells at *;have D0:=a_ ((ag.refl (At.nil (w:=w))).box #[c.kind,c.page,c.block,c.words,c.bV,c.aL,c.aE,.float .f64 c.ig] 24);unfold iL.sl at HM;obtain⟨kd,pg,bk,wd,sl,st,ah,tg⟩:=c;simp only at *;obtain⟨B,hB⟩:∃B,w.heap.size=B:=⟨_,rfl⟩
 have HB:=a_ hB;rw[hB] at D0;have u0:=an D0.has.head 0 (.int .i64 kd) rfl;have f0:=br D0.has.head 0;have D1:=a_ (D0.set 0 (1:Int));simp only[ma] at D1;clear h hi hT;go_enter func4,ntmps4
 go_upto_region 1 with fail
 clear hB;generalize World.alloc _ _=w0 at *
 go_upto_region 2 with fail
 generalize World.setCell _ _ _=w1 at *;have q:=D1.has.head;obtain⟨c0,c1,c2,c3,c4,c5,c6,c7, -⟩:=gD q;clear q f0 u0 D0
 go_upto_region 3 with (go_at_call 10;refine (HM _).kq ?_;rintro w2 bp;have D2:=a_ (D1.grow bp);clear bp)
 clear c0 c1 c2 c3 c4 c5 c6 c7
 go_wp2_with (go_at_call 12;refine (FV _ (HT.grow D2.below)).kq ?_;rintro w3 dw;have D3:=a_ (D2.grow dw);clear dw)
 go_ret;exact⟨rfl,HB.out▸D3.below⟩
theorem ends_yes (c:iL) (hi:c.rB) (a a2:Option Addr) (cap eO:Nat) (xs ys:List mU) (hx:zJ w a xs) (hy:zJ w a2 ys) (hf:rV c.sl xs.length=false) (hok:c.sl.ok) (hT:ax w):WA 4 #[.agg c.cells,.slice a xs.length cap,.slice a2 ys.length eO] w λe w'=>e= .returned true/\Below w.heap.size w w':=by
 have HM:=a_ (λW=>made_yes c.sl hi a xs.length cap hf hok W);have Rn:=a_ (λW=>Iq c.sl a2 ys.length eO W);have FV:=a_ (λW (h:ax W)=>Bt h);have HT:=a_ hT;have hw:c.sl.words<=2048/\xs.length<=120:=by
  unfold rV at hf;simp only[Bool.or_eq_false_iff,decide_eq_false_iff_not] at hf;omega
 have hfy:rV c.sl ys.length=false->ys.length<=120:=λq=>by
  unfold rV at q;simp only[Bool.or_eq_false_iff,decide_eq_false_iff_not] at q;omega
 have hco:=hok.hc hw.1;have HG:=a_ (HS.yp hco);obtain⟨HX,HY⟩:=aO hx hy;have HL:=a_ hw.2;have tN:c.page=(c.sl.hc.page:Nat):=by
  have h1:=(jV hok.1.2.2.1).2.1;show c.page=((c.page.toNat:Nat):Int)
  have:c.sl.page=c.page:=rfl;omega
 generalize hch:c.sl.hc=ch at *;generalize rV c.sl ys.length=fy at *;have HFY:=a_ hfy;unfold iL.cells at *;have D0:=a_ ((ag.refl (At.nil (w:=w))).box #[c.kind,c.page,c.block,c.words,c.bV,c.aL,c.aE,.float .f64 c.ig] 24);clear hi hf hok hch hT hw hx hy hco hfy;unfold iL.sl at HM Rn;obtain⟨kd,pg,bk,wd,sl,st,ah,tg⟩:=c;simp only at *;subst tN;obtain⟨pn,Bg⟩:∃pn,ch.page=pn:=⟨_,rfl⟩
 rw[Bg] at HM Rn D0;have HPN:=a_ Bg;obtain⟨B,hB⟩:∃B,w.heap.size=B:=⟨_,rfl⟩
 have HB:=a_ hB;rw[hB] at D0;have u0:=an D0.has.head 0 (.int .i64 kd) rfl;have f0:=br D0.has.head 0;have D1:=a_ (D0.set 0 (1:Int));simp only[ma] at D1;rw[Bg];clear Bg;go_enter func4,ntmps4
 go_upto_region 1 with fail
 clear hB;generalize World.alloc _ _=w0 at *
 go_upto_region 2 with fail
 generalize World.setCell _ _ _=w1 at *;have q:=D1.has.head;obtain⟨c0,c1,c2,c3,c4,c5,c6,c7, -⟩:=gD q;clear q f0 u0 D0
 go_upto_region 3 with (go_at_call 10;refine (HM _).mono ?_;rintro e w2 ⟨hb,m,rb,rfl,R1,h1,d1⟩;have X1:=a_ (hp_of (K:= [(B,.cells #[(1:Int),(pn:Nat),bk,wd,sl,st,ah,.float .f64 tg] 24 (0,0))]) HG h1 d1 D1);clear h1 d1)
 clear c0 c1 c2 c3 c4 c5 c6 c7 HM HG D1;have q:=X1.has.head;obtain⟨c0,c1,c2,c3,c4,c5,c6,c7, -⟩:=gD q;clear q
 cases fy with
 | true=>
  go_wp2_with (first
   | (go_at_call 24;refine (Rn _).kq ?_;rintro w3 dw;have X2:=a_ (X1.grow dw);clear dw)
   | (go_at_call 12;refine (FV _ (X2.tz HT)).kq ?_;rintro w4 qX;have X3:=a_ (X2.grow qX);clear qX))
  go_ret;exact⟨rfl,X3.below⟩
 | false=>
  have hyl:=HFY rfl;have HYL:=a_ hyl;clear hyl HFY
  go_upto_region 5 with (go_at_call 24;refine (Rn _).kq ?_;rintro w3 dw;have X2:=a_ (X1.grow dw);clear dw)
  clear c0 c1 c2 c3 c4 c5 c6 c7 Rn X1
  go_upto_region 6 with fail
  go_loopw [28] (λiv wr=>∃(n:Nat) (S:HS),iv= .int .i64 n/\n<=xs.length/\S.c=ch/\dN hb m rb S (n*30000000000) [(B,.cells #[(1:Int),(pn:Nat),bk,wd,sl,st,ah,.float .f64 tg] 24 (0,0))] w wr) (λiv _=>xs.length-(intOf iv).toNat)
  case atStart=>exact⟨0,HS.new ch,rfl,by omega,rfl,by rw[Nat.zero_mul];exact X2⟩
  case round=>
   obtain⟨n,S,rfl,hn,hc,h⟩:=hrel;clear X2;by_cases hlt:n<xs.length
   ·have k1:(n:Int)<xs.length:=by omega
    have hP:=HX.below h.below;obtain⟨bl,off,ha,hcell⟩:=hP.cell;obtain rfl:a=some ⟨bl,off,none⟩:=by
     rcases ha with rfl | ha
     ·simp at hlt
     ·exact ha
    have Ti:=hP.each (xs.getD n default) (by rw[List.getD_eq_getElem?_getD,List.getElem?_eq_getElem hlt];exact List.getElem_mem hlt);have hcell:=hcell n hlt;have CY:n<=120:=by have:=HL.out;omega
    have bJ:n*30000000000<=100000000000000:=Nat.le_trans (Nat.mul_le_mul_right _ CY) (by decide);have hop:=h.1.op (xs.getD n default) Ti;have HD:=a_ (λK W (h:dN hb m rb S (n*30000000000) K w W)=>IU h HT (Nat.le_trans bJ (by decide)) _ Ti);have s1:=eH ((n:Int)+1);obtain⟨H0,HN⟩:=aO h hlt;obtain⟨S1,hS1⟩:∃S1,S.op (xs.getD n default)=S1:=⟨_,rfl⟩
    rw[hS1] at hop HD;have HC1:=a_ (hop.2.2.trans hc);generalize (S.m.op jY (xs.getD n default)).2=r at *;generalize xs.getD n default=x at *;obtain⟨xk,xa,xb,xi,Ph,Pe,Pf,Pm,Pd⟩:=x;unfold mU.val at HD;simp only at HD;have o0:=hcell 0 (.int .i64 xk) rfl;have o1:=hcell 1 (.int .i64 xa) rfl;have o2:=hcell 2 (.int .i64 xb) rfl;have o3:=hcell 3 (.int .i64 xi) rfl;have o4:=hcell 4 (.int .i64 Ph) rfl;have o5:=hcell 5 (.int .i64 Pe) rfl;have o6:=hcell 6 (.int .i64 Pf) rfl;have o7:=hcell 7 (.int .u64 (Pm:Nat)) rfl;have o8:=hcell 8 (.float .f64 Pd) rfl;simp only[Nat.add_zero] at o0;clear hcell hP Ti hop bJ h hlt hn CY hS1 hc;have RX:=a_ (H0.box #[Wy,Wy,Wy,Wy,Wy,Wy,Wy,.int .u64 0,.float .f64 0] 49)
    go_upto_region 7 with fail
    refine wp_region_lit ?_;refine wpList_step (λK hK=>?_);go_simp;refine hK _ _ ?_;clear hK K
    try simp only[aI]
    refine wpList_step (λK hK=>?_);go_simp;refine hK _ _ ?_;clear hK K
    try simp only[aI]
    refine wpList_step (λK hK=>?_);go_simp;refine hK _ _ ?_;clear hK K
    try simp only[aI]
    generalize World.alloc _ _=w4 at *;generalize wr.heap.size=bo at *;refine wpList_step (λK hK=>?_);rw[b9 (by kernel_rfl)];refine wp_store_row 49 (.tmp 9) (.tmp 31) rfl bo #[.int .i64 xk,.int .i64 xa,.int .i64 xb,.int .i64 xi,.int .i64 Ph,.int .i64 Pe,.int .i64 Pf,.int .u64 (Pm:Nat),.float .f64 Pd] rfl rfl 49 #[.int .i64 0,.int .i64 0,.int .i64 0,.int .i64 0,.int .i64 0,.int .i64 0,.int .i64 0,.int .u64 0,.float .f64 0] RX.has.head (by kernel_rfl) rfl (by first | kernel_rfl | simp[Value.oneCell']) ?_;refine hK _ _ ?_;clear hK K
    try simp only[aI]
    have X4:=a_ (RX.row (cs':= #[.int .i64 xk,.int .i64 xa,.int .i64 xb,.int .i64 xi,.int .i64 Ph,.int .i64 Pe,.int .i64 Pf,.int .u64 (Pm:Nat),.float .f64 Pd]) rfl);generalize w4.setRow bo #[.int .i64 xk,.int .i64 xa,.int .i64 xb,.int .i64 xi,.int .i64 Ph,.int .i64 Pe,.int .i64 Pf,.int .u64 (Pm:Nat),.float .f64 Pd]=w5 at *;clear RX H0 o0 o1 o2 o3 o4 o5 o6 o7 o8;refine wpList_nil ?_;have q:=X4.has.head;obtain⟨d0,d1,d2,d3,d4,d5,d6,d7,d8, -⟩:=fa q;clear q
    go_upto_region 9 with (go_at_call 25;refine (HD _ _ X4).kq ?_;rintro w6 x6;have X6:=a_ x6;clear x6)
    clear d0 d1 d2 d3 d4 d5 d6 d7 d8 X4;go_wp2
    go_roundw
    case rel=>exact⟨n+1,S1,by go_num,by have:=HN.out;omega,HC1,(dN.less (K':= [(bo,.cells #[xk,xa,xb,xi,Ph,Pe,Pf,WB Pm,.float .f64 Pd] 49 (0,0))]) X6).more (Nat.le_of_eq (Nat.succ_mul n 30000000000).symm)⟩
    case measure=>have:=HN.out;simp[intOf];omega
   ·have k1:¬(n:Int)<xs.length:=by omega
    have CY:n<=120:=by have:=HL.out;omega
    have bJ:n*30000000000<=100000000000000:=Nat.le_trans (Nat.mul_le_mul_right _ CY) (by decide);have oS:=a_ (λK W (h:dN hb m rb S (n*30000000000) K w W)=>hp_start h HT (Nat.le_trans bJ (by decide)));have hb9:=h.1.dJ;have hg1:=hb9.1;have hc1:S.dJ.c=ch:=hb9.2.2.trans hc;have H0:=a_ h;obtain⟨TB,hTB⟩:∃TB,n*30000000000+10000000000=TB:=⟨_,rfl⟩
    have hTB9:TB<=10000000000000:=by omega
    have HTB:=a_ hTB9;rw[hTB] at oS;generalize S.dJ=S1 at *;have Dl:=a_ (λK W (h:dN hb m rb S1 TB K w W)=>yd h HT (Nat.le_trans HTB (by decide)));have Dk:=a_ (And.intro hg1 hc1);clear hb9 h CY bJ hn hlt hc hTB hTB9 hg1 hc1 HX HL
    go_upto_region 11 with (go_at_call 15;refine (oS _ _ H0).kq ?_;rintro w5 x5;have X5:=a_ x5;clear x5)
    have hlc:=And.intro (hp_left X5.out) (hp_cycles X5.out);have f1:=S1.stats_is;have LV:=λq=>Dk.1.maps q
    have hnl:=Dk.2;have uz:S1.cyn=S1.stats.ae+if S1.stats.opn then 1 else 0:=by unfold HS.cyn;rw[f1.2.2.1,f1.2.2.2.2.2.2]
    have VW:S1.stats.opn=S1.bX.isSome:=f1.2.2.1;have hsl:S1.stats.left=S1.left:=f1.2.2.2.1;have hsc:S1.stats.ae=S1.ae:=f1.2.2.2.2.2.2;rw[hnl,HPN.out] at LV;have HMN:=a_ (λ(q:S1.stats.opn=false)=>LV (by cases hk:S1.bX with | none=>rfl | some k=>rw[VW,hk] at q;cases q));have HL0:=a_ (λ(q:S1.stats.opn=false)=>(show S1.stats.left=0 by rw[hsl];exact HS.pF (by cases hk:S1.bX with | none=>rfl | some k=>rw[VW,hk] at q;cases q)));rw[←hsl,←hsc] at hlc;obtain⟨HCN,HSL,HLC⟩:=dF uz hsl hlc;clear hlc f1 LV hnl uz VW hsl hsc oS H0;generalize hst1:S1.stats=t9 at *;clear hst1;obtain⟨asn,asw,asu,asm,ash,asc,asb,aso,asf⟩:=t9;unfold LA.cells at Dl;simp only at Dl HMN HL0 HCN HSL HLC;refine wp_region_lit ?_;refine wpList_step (λK hK=>?_);go_simp;refine hK _ _ ?_;clear hK K
    try simp only[aI]
    refine wpList_step (λK hK=>?_);go_simp
    go_at_call 26
    refine (Dl _ _ X5).kq ?_;rintro w7 x7;refine hK _ _ ?_;clear hK K
    try simp only[aI]
    generalize SZ:w7.heap.size=bs at *;refine wpList_step (λK hK=>?_);go_simp;refine hK _ _ ?_;clear hK K
    try simp only[aI]
    have X8a:=a_ (x7.box #[Wy,Wy,Wy,Wy,Wy,Wy,Wy,false,Wy] 54);rw[SZ] at X8a;generalize World.alloc _ _=w8 at *;clear SZ x7;refine wpList_step (λK hK=>?_);rw[b9 (by kernel_rfl)];refine wp_store_row 54 (.tmp 10) (.tmp 39) rfl bs #[.int .i64 (asn:Nat),.int .i64 (asw:Nat),.int .i64 (asu:Nat),.int .i64 (asm:Nat),.int .i64 (ash:Nat),.int .i64 (asc:Nat),.int .i64 (asb:Nat),.bool aso,.int .i64 (asf:Nat)] rfl rfl 54 #[.int .i64 0,.int .i64 0,.int .i64 0,.int .i64 0,.int .i64 0,.int .i64 0,.int .i64 0,.bool false,.int .i64 0] X8a.has.head (by kernel_rfl) rfl (by first | kernel_rfl | simp[Value.oneCell']) ?_;refine hK _ _ ?_;clear hK K
    try simp only[aI]
    have X8:=a_ (X8a.row (cs':= #[.int .i64 (asn:Nat),.int .i64 (asw:Nat),.int .i64 (asu:Nat),.int .i64 (asm:Nat),.int .i64 (ash:Nat),.int .i64 (asc:Nat),.int .i64 (asb:Nat),.bool aso,.int .i64 (asf:Nat)]) rfl);generalize w8.setRow bs #[.int .i64 (asn:Nat),.int .i64 (asw:Nat),.int .i64 (asu:Nat),.int .i64 (asm:Nat),.int .i64 (ash:Nat),.int .i64 (asc:Nat),.int .i64 (asb:Nat),.bool aso,.int .i64 (asf:Nat)]=w9 at *;clear X8a;refine wpList_nil ?_;clear X5 Dl;have q:=X8.has.head;obtain⟨-, -,v2,v3, -, -, -,v7,v8, -⟩:=fa q;have q:=X8.has.tail.head;have c1:=an q 1 (.int .i64 (pn:Nat)) rfl;clear q
    cases aso with
    | false=>
     obtain⟨e1,e2,e3,e4⟩:=HMN rfl;obtain rfl:=HL0 rfl;obtain⟨g1,g2,g3,g4,g5,g6,g7⟩:=map_div e1 e2 e3 e4;clear e1 e2 e3 e4 HMN HL0 HCN HSL HLC
     go_upto_region 13 with fail
     have QL:=a_ (fV (w:=w9) λW hW=>FV W ((X8.tz HT).grow hW));have p2:=cell_regrown v2;have p3:=cell_regrown v3;have p8:=cell_regrown v8;have p1:=cell_regrown c1;clear v2 v3 v7 v8 c1;refine wp_region_quiet_below (by kernel_rfl) (by kernel_rfl) ?_
     repeat (quiet_step ((go_at_call 12;exact QL _ _)))
     refine wpQuiet_nil ?_;intro _ tZ;obtain⟨⟨dq,sQ⟩,iW⟩:=tZ;subst iW;clear p1 p2 p3 p8 QL;have X9:=a_ (X8.grow (below_regrown w9 dq sQ));generalize grow _ _=FN at *;go_wp2;go_ret;exact⟨rfl,X9.below⟩
    | true=>
     have hY0:S1.cyn=asc+1:=HCN.out;have HY0:=a_ hY0;clear hY0 HMN HL0 HCN v2 v3 c1
     go_upto_region 15 with fail
     clear v7
     go_loopw [11] (λiv wr=>∃(i:Nat) (S:HS),iv= .int .i64 i/\i<=asf/\S.Good/\S.c=ch/\S.cyn=asc+1/\S.left<=asf-i/\dN hb m rb S (tE TB i) [(bs,.cells #[(asn:Nat),(asw:Nat),(asu:Nat),(asm:Nat),(ash:Nat),(asc:Nat),(asb:Nat),true,(asf:Nat)] 54 (0,0)),(B,.cells #[(1:Int),(pn:Nat),bk,wd,sl,st,ah,.float .f64 tg] 24 (0,0))] w wr) (λiv _=>asf-(intOf iv).toNat)
     case atStart=>exact⟨0,S1,rfl,by omega,Dk.1,Dk.2,HY0,by have:=HSL.out;omega,X8.more (by unfold tE;omega)⟩
     case round=>
      obtain⟨i,S,rfl,hi,hg,hc,en,hle,h⟩:=hrel;clear X8 v8 HSL;have hL9:=HLC.1;have q:=h.has.head;have v8:=an q 8 (.int .i64 (asf:Nat)) rfl;clear q;by_cases hlt:i<asf
      ·have k1:(i:Int)<asf:=by omega
       have s1:=eH ((i:Int)+1);have bJ:=tE_le HTB (show i<=1048576 by omega);have H0:=a_ h;have HLT:=a_ (And.intro hlt bJ);have HGO:=a_ (And.intro hg (And.intro hc (And.intro en hle)));have hP:=HY.below h.below;by_cases hin:i<ys.length;have k2:(i:Int)<ys.length:=by omega
       obtain⟨bl,off,ha,hcell⟩:=hP.cell;obtain rfl:a2=some ⟨bl,off,none⟩:=by
        rcases ha with rfl | ha
        ·simp at hin
        ·exact ha
       have Ti:=hP.each (ys.getD i default) (by rw[List.getD_eq_getElem?_getD,List.getElem?_eq_getElem hin];exact List.getElem_mem hin);have hcell:=hcell i hin;have hop:=h.1.op (ys.getD i default) Ti;have Vv:=HS.ends_op S (ys.getD i default);have HD:=a_ (λK W (h:dN hb m rb S (tE TB i) K w W)=>IU h HT (Nat.le_trans bJ (by decide)) _ Ti);have hi120:i<120:=by have:=HYL.out;omega
       have HI:=a_ (tE_do (TB:=TB) hi120);generalize (S.m.op jY (ys.getD i default)).2=r at *;generalize ys.getD i default=x at *;obtain⟨xk,xa,xb,xi,Ph,Pe,Pf,Pm,Pd⟩:=x;unfold mU.val at HD;simp only at HD Vv;have o0:=hcell 0 (.int .i64 xk) rfl;have o1:=hcell 1 (.int .i64 xa) rfl;have o2:=hcell 2 (.int .i64 xb) rfl;have o3:=hcell 3 (.int .i64 xi) rfl;have o4:=hcell 4 (.int .i64 Ph) rfl;have o5:=hcell 5 (.int .i64 Pe) rfl;have o6:=hcell 6 (.int .i64 Pf) rfl;have o7:=hcell 7 (.int .u64 (Pm:Nat)) rfl;have o8:=hcell 8 (.float .f64 Pd) rfl;simp only[Nat.add_zero] at o0;obtain⟨S2,wW⟩:∃S2,S.op ⟨xk,xa,xb,xi,Ph,Pe,Pf,Pm,Pd⟩=S2:=⟨_,rfl⟩
       rw[wW] at hop HD Vv;have Ri:=a_ Vv;have vr:=a_ (And.intro hop.1 hop.2.2);clear hcell hP Ti hop wW Vv bJ h hg hc en hle hi120 hL9 hi hlt hin
       focus go_upto_region 17 with fail
       by_cases e16:xk=16;subst e16;clear o1 o2 o3 o4 o5 o6 o7 o8 HD Ri vr HI;have X10:=a_ (show ∃S2 T2,S2.Good/\S2.c=ch/\S2.cyn=asc+1/\S2.left<=asf-i/\T2+2000000<=tE TB (i+1)/\T2<=200000000000000/\dN hb m rb S2 T2 [(bs,.cells #[(asn:Nat),(asw:Nat),(asu:Nat),(asm:Nat),(ash:Nat),(asc:Nat),(asb:Nat),true,(asf:Nat)] 54 (0,0)),(B,.cells #[(1:Int),(pn:Nat),bk,wd,sl,st,ah,.float .f64 tg] 24 (0,0))] w wr from⟨S,_,HGO.1,HGO.2.1,HGO.2.2.1,HGO.2.2.2,tE_no TB i,Nat.le_trans HLT.2 (by decide),H0⟩)
       focus go_upto_region 19 with fail
       rotate_left
       have b16:(xk==16)=false:=by rw[beq_eq_false_iff_ne];exact e16
       have n16:(xk !=16)=true:=by rw[bne,b16];rfl
       by_cases e15:xk=15;subst e15;clear o1 o2 o3 o4 o5 o6 o7 o8 HD Ri vr HI;have X10:=a_ (show ∃S2 T2,S2.Good/\S2.c=ch/\S2.cyn=asc+1/\S2.left<=asf-i/\T2+2000000<=tE TB (i+1)/\T2<=200000000000000/\dN hb m rb S2 T2 [(bs,.cells #[(asn:Nat),(asw:Nat),(asu:Nat),(asm:Nat),(ash:Nat),(asc:Nat),(asb:Nat),true,(asf:Nat)] 54 (0,0)),(B,.cells #[(1:Int),(pn:Nat),bk,wd,sl,st,ah,.float .f64 tg] 24 (0,0))] w wr from⟨S,_,HGO.1,HGO.2.1,HGO.2.2.1,HGO.2.2.2,tE_no TB i,Nat.le_trans HLT.2 (by decide),H0⟩)
       focus go_upto_region 19 with fail
       rotate_left
       have b15:(xk==15)=false:=by rw[beq_eq_false_iff_ne];exact e15
       have n15:(xk !=15)=true:=by rw[bne,b15];rfl
       by_cases e1:xk=1;subst e1;clear o1 o2 o3 o4 o5 o6 o7 o8 HD Ri vr HI;have X10:=a_ (show ∃S2 T2,S2.Good/\S2.c=ch/\S2.cyn=asc+1/\S2.left<=asf-i/\T2+2000000<=tE TB (i+1)/\T2<=200000000000000/\dN hb m rb S2 T2 [(bs,.cells #[(asn:Nat),(asw:Nat),(asu:Nat),(asm:Nat),(ash:Nat),(asc:Nat),(asb:Nat),true,(asf:Nat)] 54 (0,0)),(B,.cells #[(1:Int),(pn:Nat),bk,wd,sl,st,ah,.float .f64 tg] 24 (0,0))] w wr from⟨S,_,HGO.1,HGO.2.1,HGO.2.2.1,HGO.2.2.2,tE_no TB i,Nat.le_trans HLT.2 (by decide),H0⟩)
       focus go_upto_region 19 with fail
       rotate_left
       have b1:(xk==1)=false:=by rw[beq_eq_false_iff_ne];exact e1
       have n1:(xk !=1)=true:=by rw[bne,b1];rfl
       have HEN2:=a_ (Ri e1 e15 e16);clear Ri
       focus go_upto_region 19 with (go_at_call 25;refine (HD _ _ H0).kq ?_;rintro w6 x6;have X6:=a_ x6;clear x6)
       have X10:=a_ (show ∃S2 T2,S2.Good/\S2.c=ch/\S2.cyn=asc+1/\S2.left<=asf-i/\T2+2000000<=tE TB (i+1)/\T2<=200000000000000/\dN hb m rb S2 T2 [(bs,.cells #[(asn:Nat),(asw:Nat),(asu:Nat),(asm:Nat),(ash:Nat),(asc:Nat),(asb:Nat),true,(asf:Nat)] 54 (0,0)),(B,.cells #[(1:Int),(pn:Nat),bk,wd,sl,st,ah,.float .f64 tg] 24 (0,0))] w w6 from⟨S2,_,vr.1,vr.2.trans HGO.2.1,HEN2.cyn.trans HGO.2.2.1,Nat.le_trans HEN2.left HGO.2.2.2,HI,Nat.le_trans (Nat.add_le_add_right HLT.2 _) (by decide),X6⟩);clear o0 o1 o2 o3 o4 o5 o6 o7 o8 HD HEN2 vr HI X6 b1 b15 b16 e1 e15 e16 n1 n15 n16
       rotate_left
       have k2:¬(i:Int)<ys.length:=by omega
       clear hP h hg hc en hle hL9 hi hlt hin bJ
       focus go_upto_region 17 with fail
       have X10:=a_ (show ∃S2 T2,S2.Good/\S2.c=ch/\S2.cyn=asc+1/\S2.left<=asf-i/\T2+2000000<=tE TB (i+1)/\T2<=200000000000000/\dN hb m rb S2 T2 [(bs,.cells #[(asn:Nat),(asw:Nat),(asu:Nat),(asm:Nat),(ash:Nat),(asc:Nat),(asb:Nat),true,(asf:Nat)] 54 (0,0)),(B,.cells #[(1:Int),(pn:Nat),bk,wd,sl,st,ah,.float .f64 tg] 24 (0,0))] w wr from⟨S,_,HGO.1,HGO.2.1,HGO.2.2.1,HGO.2.2.2,tE_no TB i,Nat.le_trans HLT.2 (by decide),H0⟩)
       focus go_upto_region 19 with fail
       all_goals
        obtain⟨S2,T2,wY,Bb,sC,VC,lT,hT8,OZ⟩:=X10.out;clear v8 H0 HGO k2;have Fx:=a_ (λK W (h:dN hb m rb S2 T2 K w W)=>yd h HT (Nat.le_trans hT8 (by decide)));have FW:=a_ (λK W (h:dN hb m rb S2 T2 K w W)=>hp_move h HT (Nat.le_trans hT8 (by decide)));have HS3:=a_ (λK W (h:dN hb m rb S2.step (T2+2000000) K w W)=>yd h HT (Nat.le_trans (Nat.add_le_add_right hT8 _) (by decide)));have f2:=S2.stats_is;have f3:=S2.step.stats_is;have hz:S2.stats.opn=false->S2.left<=asf-(i+1):=λq=>by
         rw[HS.pF (by cases hk:S2.bX with | none=>rfl | some k=>rw[f2.2.2.1,hk] at q;cases q)];exact Nat.zero_le _
        have hsp:S2.stats.opn=true->S2.step.stats.left+1=S2.stats.left:=λq=>by
         rw[f3.2.2.2.1,f2.2.2.2.1];exact wY.stepl (by rw[←f2.2.2.1];exact q)
        have hsl:S2.stats.opn=true->S2.step.left<=asf-(i+1):=λq=>by
         have:=wY.stepl (by rw[←f2.2.2.1];exact q);omega
        have qL:=a_ (And.intro wY (And.intro Bb (And.intro sC lT)));have HFS:=a_ (And.intro wY.stepg (And.intro (wY.stepc.trans Bb) (And.intro (S2.ends_step.cyn.trans sC) lT)));have X11:=a_ OZ;rw[←f2.2.2.1] at FW;clear X10 OZ wY Bb sC lT hT8 VC f2 f3;generalize S2.stats=t2 at *;generalize S2.step.stats=t3 at *;obtain⟨bsn,bsw,bsu,bsm,bsh,bsc,bsb,bso,bsf⟩:=t2;obtain⟨csn,csw,csu,csm,csh,csc,csb,cso,csf⟩:=t3;unfold LA.cells at Fx HS3;simp only at Fx HS3 FW hz hsp hsl;obtain⟨HZ,ko,HSL⟩:=dF hz hsp hsl;clear hz hsp hsl;refine wp_region_lit ?_;refine wpList_step (λK hK=>?_);go_simp;refine hK _ _ ?_;clear hK K
        try simp only[aI]
        refine wpList_step (λK hK=>?_);go_simp
        go_at_call 26
        refine (Fx _ _ X11).kq ?_;rintro w7 x7;refine hK _ _ ?_;clear hK K
        try simp only[aI]
        generalize SZ:w7.heap.size=bt at *;refine wpList_step (λK hK=>?_);go_simp;refine hK _ _ ?_;clear hK K
        try simp only[aI]
        have X8a:=a_ (x7.box #[Wy,Wy,Wy,Wy,Wy,Wy,Wy,false,Wy] 54);rw[SZ] at X8a;generalize World.alloc _ _=w8 at *;clear SZ x7;refine wpList_step (λK hK=>?_);rw[b9 (by kernel_rfl)];refine wp_store_row 54 (.tmp 12) (.tmp 104) rfl bt #[.int .i64 (bsn:Nat),.int .i64 (bsw:Nat),.int .i64 (bsu:Nat),.int .i64 (bsm:Nat),.int .i64 (bsh:Nat),.int .i64 (bsc:Nat),.int .i64 (bsb:Nat),.bool bso,.int .i64 (bsf:Nat)] rfl rfl 54 #[.int .i64 0,.int .i64 0,.int .i64 0,.int .i64 0,.int .i64 0,.int .i64 0,.int .i64 0,.bool false,.int .i64 0] X8a.has.head (by kernel_rfl) rfl (by first | kernel_rfl | simp[Value.oneCell']) ?_;refine hK _ _ ?_;clear hK K
        try simp only[aI]
        have X12:=a_ (X8a.row (cs':= #[.int .i64 (bsn:Nat),.int .i64 (bsw:Nat),.int .i64 (bsu:Nat),.int .i64 (bsm:Nat),.int .i64 (bsh:Nat),.int .i64 (bsc:Nat),.int .i64 (bsb:Nat),.bool bso,.int .i64 (bsf:Nat)]) rfl);generalize w8.setRow bt #[.int .i64 (bsn:Nat),.int .i64 (bsw:Nat),.int .i64 (bsu:Nat),.int .i64 (bsm:Nat),.int .i64 (bsh:Nat),.int .i64 (bsc:Nat),.int .i64 (bsb:Nat),.bool bso,.int .i64 (bsf:Nat)]=w9 at *;clear X8a;refine wpList_nil ?_;clear X11 Fx;have q:=X12.has.head;obtain⟨-, -, -, -, -, -, -,v7,v8, -⟩:=fa q;clear q
        go_upto_region 20 with fail
        cases bso with
        | false=>
         clear ko HSL HFS HS3 FW
         go_quiet (fail)
         have X13:=a_ (X12.grow (Fr.aA nq _));clear X12 v7 v8;go_wp2
         go_roundw
         case rel=>exact⟨i+1,S2,by go_num,by have:=HLT.1;omega,qL.1,qL.2.1,qL.2.2.1,HZ rfl,(dN.less (K':= [(bt,.cells #[(bsn:Nat),(bsw:Nat),(bsu:Nat),(bsm:Nat),(bsh:Nat),(bsc:Nat),(bsb:Nat),false,(bsf:Nat)] 54 (0,0))]) X13).more (by have:=qL.2.2.2;omega)⟩
         case measure=>have:=HLT.1;simp[intOf];omega
        | true=>
         have k4:¬(bsf:Int)<=csf:=by have:=ko rfl;omega
         clear HZ qL;refine wp_region_held_drew (S:=λW=>W.cell? ⟨bt,7,none⟩=some (.bool true)/\W.cell? ⟨bt,8,none⟩=some (.int .i64 (bsf:Nat))) (by kernel_rfl) ⟨v7,v8⟩ (λhHeld=>?_);have X13:=a_ (X12.grow (ay _));generalize w9.drew=Ww at *;clear X12 v7 v8;refine bz 0 ?_;refine bz 1 ?_;refine bz 2 ?_;refine bz 3 ?_;simp only[aI];refine pT 4 (λK hK=>?_);go_simp
         go_at_call 19
         refine (FW _ _ X13).kq ?_;rintro w14 x14;have X14:=a_ x14;have q:=X14.has.head;obtain⟨-, -, -, -, -, -, -,v7,v8, -⟩:=fa q;clear hHeld x14 X13 q;refine hK _ _ ⟨v7,v8⟩ (λhHeld=>?_);clear hK K
         try simp only[aI]
         clear v7 v8;refine bz 5 ?_;refine bz 6 ?_;refine bz 7 ?_;refine bz 10 ?_;refine bz 11 ?_;simp only[aI];refine pT 8 (λK hK=>?_);go_simp
         go_at_call 26
         refine (HS3 _ _ X14).kq ?_;rintro w15 x15;have X15:=a_ x15;have q:=X15.has.head;obtain⟨-, -, -, -, -, -, -,v7,v8, -⟩:=fa q;clear hHeld x15 X14 q;refine hK _ _ ⟨v7,v8⟩ (λhHeld=>?_);clear hK K
         try simp only[aI]
         clear v7 v8;have zU:=stats_field csn csw csu csm csh csc csb cso csf;refine bz 9 ?_;simp only[aI];clear zU;refine bz 12 ?_;refine bz 13 ?_;refine bz 14 ?_;simp only[aI];refine wpAnyH_done (by kernel_rfl) ?_ _
         try simp only[aI]
         go_wp2
         go_roundw
         case rel=>exact⟨i+1,S2.step,by go_num,by have:=HLT.1;omega,HFS.1,HFS.2.1,HFS.2.2.1,HSL rfl,(dN.less (K':= [(bt,.cells #[(bsn:Nat),(bsw:Nat),(bsu:Nat),(bsm:Nat),(bsh:Nat),(bsc:Nat),(bsb:Nat),true,(bsf:Nat)] 54 (0,0))]) X15).more HFS.2.2.2⟩
         case measure=>have:=HLT.1;simp[intOf];omega
      ·have k1:¬(i:Int)<asf:=by omega
       have hk:=hg.left0 (by omega);have bJ:=tE_le HTB (show i<=1048576 by omega);have Fx:=a_ (λK W (h:dN hb m rb S (tE TB i) K w W)=>yd h HT (Nat.le_trans bJ (by decide)));have f2:=S.stats_is;have LV:=hg.maps hk;rw[hc,HPN.out] at LV;have ho:S.stats.opn=false:=by rw[f2.2.2.1,hk];rfl
       have hcs:S.stats.ae=asc+1:=by
        rw[f2.2.2.2.2.2.2];unfold HS.cyn at en;rw[hk] at en;exact en
       have s2:=eH ((asc:Int)+1) (by have:=HLC.2;have:=HTB.out;omega);have X11:=a_ h;clear hk bJ f2 hg hc en hle h hi hlt hL9 HLC;generalize S.stats=t2 at *;obtain⟨bsn,bsw,bsu,bsm,bsh,bsc,bsb,bso,bsf⟩:=t2;unfold LA.cells at Fx;simp only at Fx LV ho hcs;subst ho hcs;obtain⟨e1,e2,e3,e4⟩:=LV;obtain⟨g1,g2,g3,g4,g5,g6,g7⟩:=map_div e1 e2 e3 e4;clear e1 e2 e3 e4
       go_upto_region 22 with fail
       clear v8;refine wp_region_lit ?_;refine wpList_step (λK hK=>?_);go_simp;refine hK _ _ ?_;clear hK K
       try simp only[aI]
       refine wpList_step (λK hK=>?_);go_simp
       go_at_call 26
       refine (Fx _ _ X11).kq ?_;rintro w7 x7;refine hK _ _ ?_;clear hK K
       try simp only[aI]
       generalize SZ:w7.heap.size=bt at *;refine wpList_step (λK hK=>?_);go_simp;refine hK _ _ ?_;clear hK K
       try simp only[aI]
       have X8a:=a_ (x7.box #[Wy,Wy,Wy,Wy,Wy,Wy,Wy,false,Wy] 54);rw[SZ] at X8a;generalize World.alloc _ _=w8 at *;clear SZ x7;refine wpList_step (λK hK=>?_);rw[b9 (by kernel_rfl)];refine wp_store_row 54 (.tmp 13) (.tmp 121) rfl bt #[.int .i64 (bsn:Nat),.int .i64 (bsw:Nat),.int .i64 (bsu:Nat),.int .i64 (bsm:Nat),.int .i64 (bsh:Nat),.int .i64 (asc+1:Nat),.int .i64 (bsb:Nat),.bool false,.int .i64 (bsf:Nat)] rfl rfl 54 #[.int .i64 0,.int .i64 0,.int .i64 0,.int .i64 0,.int .i64 0,.int .i64 0,.int .i64 0,.bool false,.int .i64 0] X8a.has.head (by kernel_rfl) rfl (by first | kernel_rfl | simp[Value.oneCell']) ?_;refine hK _ _ ?_;clear hK K
       try simp only[aI]
       have X12:=a_ (X8a.row (cs':= #[.int .i64 (bsn:Nat),.int .i64 (bsw:Nat),.int .i64 (bsu:Nat),.int .i64 (bsm:Nat),.int .i64 (bsh:Nat),.int .i64 (asc+1:Nat),.int .i64 (bsb:Nat),.bool false,.int .i64 (bsf:Nat)]) rfl);generalize w8.setRow bt #[.int .i64 (bsn:Nat),.int .i64 (bsw:Nat),.int .i64 (bsu:Nat),.int .i64 (bsm:Nat),.int .i64 (bsh:Nat),.int .i64 (asc+1:Nat),.int .i64 (bsb:Nat),.bool false,.int .i64 (bsf:Nat)]=w9 at *;clear X8a;refine wpList_nil ?_;clear X11 Fx;have q:=X12.has.head;obtain⟨-, -,v2,v3, -,v5, -,v7, -⟩:=gD q;have q:=X12.has.tail.head;have u5:=an q 5 (.int .i64 (asc:Nat)) rfl;have q:=X12.has.tail.tail.head;have c1:=an q 1 (.int .i64 (pn:Nat)) rfl;clear q
       go_upto_region 23 with fail
       have QL:=a_ (fV (w:=w9) λW hW=>FV W ((X12.tz HT).grow hW));have p2:=cell_regrown v2;have p3:=cell_regrown v3;have p5:=cell_regrown v5;have p7:=cell_regrown v7;have p6:=cell_regrown u5;have p1:=cell_regrown c1;clear v2 v3 v5 v7 u5 c1;refine wp_region_quiet_below (by kernel_rfl) (by kernel_rfl) ?_
       repeat (quiet_step ((go_at_call 12;exact QL _ _)))
       refine wpQuiet_nil ?_;intro _ tZ;obtain⟨⟨dq,sQ⟩,iW⟩:=tZ;subst iW;clear p1 p2 p3 p5 p6 p7 QL;have X9:=a_ (X12.grow (below_regrown w9 dq sQ));generalize grow _ _=FN at *;go_wp2;go_ret;exact⟨rfl,X9.below⟩
theorem topEnds_any (c:iL) (hc:c.JT) (a:Option Addr) (cap:Nat) (xs:List mU) (hx:zJ w a xs) (a2:Option Addr) (eO:Nat) (ys:List mU) (hy:zJ w a2 ys) (hT:ax w):WA 4 #[.agg c.cells,.slice a xs.length cap,.slice a2 ys.length eO] w λe w'=>e= .returned true/\Below w.heap.size w w':=by
 by_cases h:rV c.sl xs.length=false/\c.sl.ok
 ·exact ends_yes c hc.ints a a2 cap eO xs ys hx hy h.1 h.2 hT
 ·refine ends_no c hc.ints a a2 xs.length cap ys.length eO ?_ hT;by_cases hf:rV c.sl xs.length=true
  ·exact .inl hf
  ·exact .inr λhok=>h ⟨Bool.eq_false_iff.2 hf,hok⟩
end
end
end Go.Proofs.YtmdgfpeglgpiiaaGreatDoor

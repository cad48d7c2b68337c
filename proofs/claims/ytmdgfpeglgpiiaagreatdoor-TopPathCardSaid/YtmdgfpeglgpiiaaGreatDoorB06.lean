import Derived.Test.YtmdgfpeglgpiiaaGreatDoorB05
set_option linter.all false
set_option maxRecDepth 100000
set_option maxHeartbeats 16000000
namespace Go.Proofs.YtmdgfpeglgpiiaaGreatDoor
open Go.ChangeShapes Go.WideShapes Go.ChangeAt Go.RowKit Go.Maps Go.Sort
open Vq Oq Go.Proofs.Tryz
structure eZ where
 cq:Nat
 top:Nat
 to:Nat
 aT:Nat
 block:Nat
 aL:Nat
 aE:Nat
def eZ.cells (c:eZ):Array Value:= #[.int .i64 c.cq,.int .i64 c.top,.int .i64 c.to,.int .i64 c.aT,.int .i64 c.block,.int .i64 c.aL,.int .i64 c.aE]
def QH (n p:Nat):Nat:=(n+p-1)/p*p
structure eZ.Ok (c:eZ) (c_ d_:Nat):Prop where
 CQ:iq c.block
 aL:1<=c.aL/\c.aL<=4096
 aE:c.aE<=16
 cq:c_<=c.cq/\c.cq<=c.top/\c.top<=d_
 to:c_<=c.to/\c.to<=c.aT/\c.aT<=d_
 whole:c.cq%c_=0/\c.to%c_=0/\c.aT%c_=0
 apart:c.aT<=c.cq\/QH c.top c_<=c.to
section
variable {m d_ c_ e_ t:Nat}{v:VS}{R:BL}{w w':World}{c:eZ}
def AM (h:aH m d_ c_ e_ t v R) (hR:At R w) (hw:1<=c_/\d_<=1000000) (hp:Fr.dp c_) (hc:c.Ok c_ d_): WR 214 #[Wz m,.agg c.cells] w Wy λw'=>Below w.heap.size w w':=by
 obtain⟨⟨kb,tL,hblk⟩,⟨s1,s2⟩,ah,⟨f1,f2,f3⟩,⟨t1,t2,t3⟩,⟨m1,m2,m3⟩,ap⟩:=hc;have dX:=(show iq c.block from⟨kb,tL,hblk⟩).le;have SU:=λw=>gj (c.block:Nat) e9 w;have Ad:=λw=>up_any c.top c_ hp e9 w;have Oo:=sX kb e9;rw[<-hblk] at Oo;simp only[Oo] at SU;obtain⟨F,T,O,L,B,S,A⟩:=c;unfold eZ.cells;unfold QH at ap;simp only at *;generalize (T+c_-1)/c_*c_=E at *;have HP:=a_ (λW (hW:At R W)=>lG h hW.1);have HW:=a_ (λW (hW:At R W)=>iI h hW.1);obtain⟨TT,HUP⟩:=aO SU Ad;have D0:=a_ ((ag.refl hR).box #[F,T,O,L,B,S,A] 126);have e1:(F:Int).tmod c_=0:=by rw[Fm e9];omega
 have e2:(O:Int).tmod c_=0:=by rw[Fm e9];omega
 have e3:(L:Int).tmod c_=0:=by rw[Fm e9];omega
 have g0:((c_:Int)==0)=false:=yd;have Ht:=a_ (λ(W:World)=>within_yes (w:=W.alloc (.cells #[(1:Int),B,(1024:Int),(1:Int),S,(4096:Int),Wy,A,(16:Int),c_,F,d_,F,T,d_,c_,O,d_,O,L,d_] 198)) W.heap.size 7 (λj=>([1,B,1024,1,S,4096,0,A,16,c_,F,d_,F,T,d_,c_,O,d_,O,L,d_]:List Nat).getD j 0) e9 (λj hj=>by
  refine an (ls W (.cells (ez [1,B,1024,1,S,4096,0,A,16,c_,F,d_,F,T,d_,c_,O,d_,O,L,d_]).toArray 198)) j _ ?_;have:=sM [1,B,1024,1,S,4096,0,A,16,c_,F,d_,F,T,d_,c_,O,d_,O,L,d_] j yd;rw[us,this,ac,co yd];rfl) (λi hi=>by
  match i,hi with
  |0,_=>simp;omega
  |1,_=>simp;omega
  |2,_=>simp;omega
  |3,_=>simp;omega
  |4,_=>simp;omega
  |5,_=>simp;omega
  |6,_=>simp;omega))
 clear h hR SU Ad hp hblk tL Oo;go_enter func214,ntmps214;go_wp2_with (first|(go_at_call 169;refine (HP _ D0.at_.tail).kq ?_;rintro w1 rfl)|(go_at_call 157;refine (HW _ D0.at_.tail).kq ?_;rintro w1 rfl)|(go_at_call 263;refine (TT _).kq ?_;rintro w1 rfl));have Tg:=Ht (w.alloc (.cells #[F,T,O,L,B,S,A] 126));rw[ww] at Tg;refine Tg.kq λw2 hb=>?_;have D1:=a_ (D0.grow (seq (au _ _) hb));have HB:=a_ (seq (au w _) (seq (au _ _) hb));clear Tg hb D0 Ht HP HW;have q:=D1.has.head;obtain⟨c0,c1,c2,c3,-⟩:=jD q;clear q;go_wp2_with (fail);go_quiet (fail);have D2:=a_ (D1.grow (fM nq w2));have jB:=a_ (seq HB (fM nq w2));clear HB;generalize w2.drewN nq=w3 at *;clear c0 c1 c2 c3 D1;have q:=D2.has.head;obtain⟨c0,c1,c2,c3,-⟩:=jD q;clear q;clear e1 e2 e3 TT hw;obtain⟨b1,bp⟩:=kw (decide (F<E));obtain⟨b2,dw⟩:=kw (decide (O<L));obtain⟨b3,qX⟩:=kw (decide (F<L));obtain⟨b4,hb4⟩:=kw (decide (O<E));have hap:(b1 && b2 && b3 && b4)=false:=by rcases ap with a|a;rw[show b3=false from by rw[<-qX];exact dP];simp;rw[show b4=false from by rw[<-hb4];exact dP];simp
 clear ap;go_wp2_with (go_at_call 276;refine (HUP _).kq ?_;rintro w4 rfl;cases b1<;>cases b2<;>cases b3<;>cases b4<;>first|(exact absurd hap z9)|skip);all_goals
  go_wp2;go_ret;exact⟨rfl,jB⟩
end
structure aJ where
 d_:Nat
 c_:Nat
 e_:Nat
 c:eZ
 E:Nat->Nat
 g:Nat->Nat
noncomputable def aJ.aq (y:aJ):Nat:=bB y.E y.d_
noncomputable def aJ.nb (y:aJ):Nat:=gY y.aq y.c.block
noncomputable def aJ.bw (y:aJ) (i:Nat):Nat:=vD y.E y.d_ i
noncomputable def aJ.to (y:aJ) (a:Int):Nat:=if lh (dI y.E) a=true then qp y.E y.c.to a.toNat else 0
def qG (x:Nat) (i:Int):Bool:=decide (Hd.kindOf (Hd.tp x) (Hd.tf x) (Hd.to x) (i-1)=1)
open Classical in
noncomputable def qS (E:Nat->Nat) (a:Nat):Nat:=if h:∃s,s<=a/\a<s+E s then Classical.choose h else 0
def oq {E:Nat->Nat} {a:Nat} (h:dI E a=true):qS E a<=a/\a<qS E a+E (qS E a):=by have h2:=fR.1 h;unfold qS;rw[aj1 h2];exact Classical.choose_spec h2
def Ao {E:Nat->Nat} {N a s:Nat} (h:bS E N) (hs:s<=a/\a<s+E s):qS E a=s:=h.one (oq (fR.2 ⟨s,hs⟩)) hs
noncomputable def aJ.word (y:aJ) (v:VS) (a s:Nat):Nat:=if eU y.d_ y.c_ v a≠0/\qG (y.g s) ((a:Int)-s)=true then y.to (IntKind.i64.wrap (eU y.d_ y.c_ v a:Nat)) else eU y.d_ y.c_ v a
noncomputable def aJ.jx (y:aJ) (v:VS) (i:Nat):Nat:=y.word v (y.bw i) (qS y.E (y.bw i))
noncomputable def aJ.cp (y:aJ) (v:VS) (i:Nat):Nat->VS
 |0=>v
 |n+1=>du y.d_ y.c_ (y.cp v i n) ((y.c.to+(i+n):Nat)) (y.jx (y.cp v i n) (i+n))
noncomputable def aJ.cw (y:aJ) (U:Nat->Bool) (q:Nat):Nat:=aG (λi=>U i && decide (y.bw i/y.c_=q)) y.aq
def bq (U:Nat->Bool) (i n:Nat):Nat->Bool:=λr=>U r && !(decide (i<=r) && decide (r<i+n))
noncomputable def aJ.dr (y:aJ) (U:Nat->Bool) (v:VS) (i:Nat):Nat->VS
 |0=>v
 |n+1=>if y.cw (bq U i (n+1)) (y.bw (i+n)/y.c_)=0 then bY (y.d_/y.c_) (y.dr U v i n) ((y.bw (i+n)/y.c_:Nat)) else y.dr U v i n
def aJ.un (y:aJ) (mv:Nat->Bool):Nat->Bool:=λr=>!mv (r/y.c.block)
noncomputable def aJ.fr (y:aJ) (mv:Nat->Bool):Nat:=dV (λk=>!mv k) 0 y.nb
def aJ.lo (y:aJ) (k:Nat):Nat:=k*y.c.block
noncomputable def aJ.len (y:aJ) (k:Nat):Nat:=min (k*y.c.block+y.c.block) y.aq-k*y.c.block
structure ml where
 v:VS
 mv:Nat->Bool
noncomputable def aJ.dc (y:aJ) (v:VS) (k:Nat):Int:=Go.Proofs.YtmdgfpeglgpiiaaGreatDoor.dc y.d_ y.c_ y.e_ v ((y.c.to+y.lo k:Nat)) ((y.c.to+min (k*y.c.block+y.c.block) y.aq:Nat))
noncomputable def aJ.bH (y:aJ) (v:VS) (k:Nat):VS:=Go.Proofs.YtmdgfpeglgpiiaaGreatDoor.bH y.d_ y.c_ y.e_ v ((y.c.to+y.lo k:Nat)) ((y.c.to+min (k*y.c.block+y.c.block) y.aq:Nat))
noncomputable def aJ.move (y:aJ) (s:ml) (k:Nat):ml:=⟨y.dr (y.un s.mv) (y.cp (y.bH s.v k) (y.lo k) (y.len k)) (y.lo k) (y.len k),bj s.mv k⟩
noncomputable def aJ.ah (y:aJ) (mv:Nat->Bool):Nat:=aG mv y.nb-y.fr mv
noncomputable def aJ.push (y:aJ) (k:Nat):Nat->ml->ml
 |0,s=>s
 |n+1,s=>if y.fr s.mv<k/\y.c.aE<=y.ah s.mv then y.push k n (y.move s (y.fr s.mv)) else s
def aJ.waits (y:aJ) (mv:Nat->Bool) (a:Nat):Prop:=y.c.to<=a/\a<y.c.to+bB y.E y.d_/\mv ((a-y.c.to)/y.c.block)=false
noncomputable instance (y:aJ) (mv:Nat->Bool) (a:Nat):Decidable (y.waits mv a):=by unfold aJ.waits;infer_instance
noncomputable def aJ.bO (y:aJ) (s:ml) (a:Nat):ml:=if y.waits s.mv a then
  (if (y.push ((a-y.c.to)/y.c.block) y.nb s).mv ((a-y.c.to)/y.c.block)=true then y.push ((a-y.c.to)/y.c.block) y.nb s
   else y.move (y.push ((a-y.c.to)/y.c.block) y.nb s) ((a-y.c.to)/y.c.block)) else s
noncomputable def aJ.EY (y:aJ) (s:ml) (a:Nat):Nat:=if y.waits s.mv a then y.jx s.v (a-y.c.to) else eU y.d_ y.c_ s.v a
noncomputable def aJ.EZ (y:aJ) (s:ml) (a:Nat):Int:=if y.waits s.mv a then 0 else ga y.d_ y.c_ s.v a
def aK (mv:Nat->Bool) (n:Nat):List Value:=(List.range n).map λk=>Value.bool (mv k)
def gr (mv:Nat->Bool) (n:Nat):(aK mv n).length=n:=by simp[aK]
def fc (mv:Nat->Bool) {n k:Nat} (h:k<n):(aK mv n)[k]?=some (.bool (mv k)):=by unfold aK;rw[o_,GE h];rfl
def boolcells_set (mv:Nat->Bool) (n k:Nat):(aK mv n).set k (.bool true)=aK (bj mv k) n:=by apply E_;intro i;rw[I'];rcases ip i n with h|h;rw[fc _ h,fc _ h,gr];unfold bj;by_cases e:k=i;subst e;simp[h];rw[b_ e,b_ (λq=>e q.symm)];rw[DG (by rw[gr];exact h),DG (by rw[gr];exact h),gr];split;rw[cG];rfl
def lQ (cb m:Nat) (y:aJ) (mv U:Nat->Bool) (l f a:Nat) (R:BL):Prop:=∃pb ob vb wb sb nw mw ow ns ms os Rp Ro,R=(cb,.cells #[.pointer (some ⟨m,0,none⟩),.int .i64 y.c.cq,.int .i64 y.c.top,.int .i64 y.c.to,.int .i64 y.c.aT,.int .i64 y.c.block,.int .i64 y.c.aL,.int .i64 y.c.aE,.pointer (some ⟨pb,0,none⟩),.pointer (some ⟨ob,0,none⟩),.slice (some ⟨vb,0,none⟩) y.nb y.nb,.int .i64 l,.int .i64 f,.int .i64 a,.map (some wb),.map (some sb)] 219 (0,0)):: (vb,.cells (aK mv y.nb).toArray 4 (0,0))::(wb,ow)::(sb,os)::(Rp++Ro)/\fK pb y.d_ y.c.block y.E y.c.to Rp/\dg ob y.d_ y.E Ro/\(VM nw mw ow/\nw+aG U y.aq<=4000000/\∀q:Nat,q<=y.d_->(mw q).getD (.int .i64 0)=.int .i64 (y.cw U q:Nat))/\VM ns ms os/\∀s,y.E s≠0->ms (s:Nat)=some (Hd.hv (Hd.tp (y.g s)) (Hd.tf (y.g s)) (Hd.to (y.g s)))
def mW (cb m:Nat) (y:aJ) (mv:Nat->Bool) (R:BL):Prop:=lQ cb m y mv (y.un mv) (y.nb-aG mv y.nb) (y.fr mv) (y.ah mv) R
section
variable {cb m l f a:Nat}{y:aJ}{mv U:Nat->Bool}{R:BL}{w:World}
def lQ.ok (h:lQ cb m y mv U l f a R):bS y.E y.d_/\iq y.c.block/\y.d_<=1048576/\1<=y.d_/\y.c.to<2147483648:=by obtain⟨pb,ob,vb,wb,sb,nw,mw,ow,ns,ms,os,Rp,Ro,-,hp,ho,-⟩:=h;exact⟨hp.ok.1,hp.ok.2,hp.ij.2.1,hp.ij.1,hp.ij.2.2⟩
def sG (U:Nat->Bool) (i:Nat):bq U i 0=U:=funext λr=>by
 unfold bq;rw[show (decide (i<=r) && decide (r<i+0))=false from by rw[DH];by_cases h:i<=r;right;exact dP;left;exact g_ h];simp
def uJ (U:Nat->Bool) (i n m:Nat):bq (bq U i n) (i+n) m=bq U i (n+m):=funext λr=>by
 unfold bq;rw[GT];simp only[lw,ab0,DH,Do];constructor;rintro⟨⟨h,h1⟩,h2⟩;exact⟨h,e9⟩;rintro⟨h,h1⟩;exact⟨⟨h,e9⟩,e9⟩
def DP (y:aJ) (v:VS) (i n:Nat):∀k,y.cp v i (n+k)=y.cp (y.cp v i n) (i+n) k
 |0=>rfl
 |k+1=>by have e:i+(n+k)=i+n+k:=e9;rw[<-Nat.add_assoc,aJ.cp,aJ.cp,<-DP y v i n k,e]
def DX (y:aJ) (U:Nat->Bool) (v:VS) (i n:Nat):∀k,y.dr U v i (n+k)=y.dr (bq U i n) (y.dr U v i n) (i+n) k
 |0=>by simp[aJ.dr]
 |k+1=>by have e:i+(n+k)=i+n+k:=e9;rw[<-Nat.add_assoc,aJ.dr,aJ.dr,<-DX y U v i n k,e,uJ,aa5]
end
section
variable {cb m l f a0 t:Nat}{y:aJ}{mv U:Nat->Bool}{R Rm:BL}{v:VS}{w w':World}
def aJ.oA (h:lQ cb m y mv U l f a0 R) (a:Int):y.to a<=2148532223:=by
 have hd:=h.ok;have:=bE (dI y.E) a.toNat;unfold aJ.to;split
 .next ht=>
  unfold qp;have hin:a.toNat<y.d_:=(by rcases ip a.toNat y.d_ with q|q;exact q;have:=hd.1.vW _ q;unfold lh at ht;rw[this] at ht;simp at ht);omega
 omega
def OY (a:Int) (h:lQ cb m y mv U l f a0 R) (hR:At R w): WR 220 #[Wz cb,a] w (y.to a:Nat) λw'=>Below w.heap.size w w':=by
 obtain⟨pb,ob,vb,wb,sb,nw,mw,ow,ns,ms,os,Rp,Ro,rfl,hp,ho,-,-,-⟩:=h;have q:=hR.1.head;have c8:=an q 8 _ rfl;obtain⟨fb,Rf,hf,-,Iz,Mq⟩:=og hp hR.tail.tail.tail.tail.left;have HF:=a_ Mq;have HT:WA 178 #[Wz fb,a] w λe w'=>∃k:Int,e=.returned (.tuple #[(y.to a:Nat),k])/\Below w.heap.size w w':=by
  cases ht:lh (dI y.E) a with
  |false=>
   refine (Ea a hf Iz ht).kq ?_;rintro w1 rfl;unfold aJ.to;rw[ht,b_ z9];exact⟨6,rfl,Below.refl _ _⟩
  |true=>
   have h2:=ht;unfold lh at h2;rw[lw,l_] at h2;have h3:=AS a.toNat hf Iz h2.2;rw[vB h2.1] at h3;refine h3.kq λw1 hb=>?_;unfold aJ.to;rw[ht,b9 rfl];exact⟨0,rfl,hb⟩
 have HT1:=a_ HT;clear HT Mq hp ho hR hf Iz q;go_enter func220,ntmps220;go_wp2_with (first|(go_at_call 217;refine HF.kq ?_;rintro w1 rfl)|(go_at_call 178;refine HT1.mono ?_;rintro e w2 ⟨k,rfl,hb⟩;have HB:=a_ hb;clear hb));go_ret;exact⟨rfl,HB⟩
def pointer_c (p q o i:Int) (hi: -1000000000000<=i/\i<=1000000000000) (w:World): WR 316 #[Hd.hv p q o,i] w (.bool (decide (Hd.kindOf p q o (i-1)=1))) λw'=>Below w.heap.size w w':=by have HK:=a_ (λW=>Hd.nR p q o (i-1) W);have wS:=a_ (au w (.cells #[p,q,o] 31));have s1:=eH (i-1);generalize Hd.kindOf p q o (i-1)=k at *;unfold Hd.hv at *;clear hi;go_enter func316,ntmps316;go_wp2_with (go_at_call 180;refine (HK _).kq λw2 hb=>?_;have jB:=a_ (seq wS hb);clear hb);go_ret;exact⟨rfl,jB⟩
def Ft (a s:Nat) (h:lQ cb m y mv U l f a0 R) (hm:aH m y.d_ y.c_ y.e_ t v Rm) (hR:At R w) (PT:Has Rm w) (ha:a<=1048576) (hs:s<=1048576) (hw:eU y.d_ y.c_ v a<18446744073709551616): WR 281 #[Wz cb,a,s,Hd.hv (Hd.tp (y.g s)) (Hd.tf (y.g s)) (Hd.to (y.g s))] w (WB (y.word v a s)) λw'=>Below w.heap.size w w':=by
 have HL:=a_ (λW (hb:Below w.heap.size w W)=>jN hm (w:=W) (PT.grow hb) a);have HP:=a_ (λW=>pointer_c (Hd.tp (y.g s)) (Hd.tf (y.g s)) (Hd.to (y.g s)) ((a:Int)-s) e9 W);have HT:=a_ (λz W (hb:Below w.heap.size w W)=>OY z h (w:=W) (hR.grow hb));have oO:=aJ.oA h (IntKind.i64.wrap (eU y.d_ y.c_ v a:Nat));unfold aJ.word qG;obtain⟨pb,ob,vb,wb,sb,nw,mw,ow,ns,ms,os,Rp,Ro,rfl,-⟩:=h;have c0:=an hR.1.head 0 _ rfl;generalize eU y.d_ y.c_ v a=x at *;generalize ga y.d_ y.c_ v a=xe at *;generalize decide (Hd.kindOf (Hd.tp (y.g s)) (Hd.tf (y.g s)) (Hd.to (y.g s)) ((a:Int)-s-1)=1)=pt at *;unfold Hd.hv at *;generalize (Hd.tp (y.g s):Int)=p1 at *;generalize (Hd.tf (y.g s):Int)=p2 at *;generalize (Hd.to (y.g s):Int)=p3 at *;generalize hz:IntKind.i64.wrap (x:Int)=z at *;have MJ:=a_ (HT z);clear HT;generalize y.to z=tz at *;have wS:=a_ (au w (.cells #[p1,p2,p3] 31));have c1:=bA wS (bi _) c0;have s1:=eH ((a:Int)-s);have s2:IntKind.u64.wrap (tz:Int)=tz:=ai4 _ e9;clear hm hR PT hw oO;by_cases h0:x=0
 .have e:(if x≠0/\pt=true then tz else x)=x:=b_ (λq=>q.1 h0);rw[e];subst h0;clear e hz;go_enter func281,ntmps281;go_wp2_with (go_at_call 258;refine (HL _ wS).kq λw2 hb=>?_;have jB:=a_ (seq wS hb);have c2:=bA hb (bi _) c1;clear hb);go_ret;exact⟨rfl,jB⟩
 have g0:((x:Int) !=0)=true:=yd;have g1:¬(x:Int)=0:=e9;cases pt with
 |false=>
  have e:(if x≠0/\false=true then tz else x)=x:=b_ (λq=>by simp at q);rw[e];clear e hz;go_enter func281,ntmps281;go_wp2_with (first|(go_at_call 258;refine (HL _ wS).kq λw2 hb=>?_;have jB:=a_ (seq wS hb);have c2:=bA hb (bi _) c1;have d0:=an (cQ hb (bi _) (ls w _)) 0 _ rfl;have d1:=an (cQ hb (bi _) (ls w _)) 1 _ rfl;have d2:=an (cQ hb (bi _) (ls w _)) 2 _ rfl;clear hb)|(go_at_call 316;refine (HP _).kq λw3 hb=>?_;have Dh:=a_ (seq jB hb);have c3:=bA hb (bi _) c2;clear hb));go_ret;exact⟨rfl,Dh⟩
 |true=>
  have e:(if x≠0/\true=true then tz else x)=tz:=b9 ⟨h0,rfl⟩;rw[e];clear e;have Hz:=a_ hz;go_enter func281,ntmps281;go_wp2_with (first|(go_at_call 258;refine (HL _ wS).kq λw2 hb=>?_;have jB:=a_ (seq wS hb);have c2:=bA hb (bi _) c1;have d0:=an (cQ hb (bi _) (ls w _)) 0 _ rfl;have d1:=an (cQ hb (bi _) (ls w _)) 1 _ rfl;have d2:=an (cQ hb (bi _) (ls w _)) 2 _ rfl;clear hb)|(go_at_call 316;refine (HP _).kq λw3 hb=>?_;have Dh:=a_ (seq jB hb);have c3:=bA hb (bi _) c2;clear hb)|(go_at_call 220;refine (MJ _ Dh).kq λw4 hb=>?_;have HB4:=a_ (seq Dh hb);clear hb));go_ret;exact⟨rfl,HB4⟩
end
structure aJ.Ok (y:aJ):Prop where
 ext:bS y.E y.d_
 c_:1<=y.c_
 to:y.c.to%y.c_=0
 jn:y.c.to+y.aq<=y.c.aT/\y.c.aT<=y.d_
 yv:y.d_%y.c_=0
 CQ:1<=y.c.block
 div:y.c.block∣y.c_\/y.c_∣y.c.block
 apart:∀i a,i<y.aq->y.c.to<=a->a<y.c.aT->y.bw i/y.c_≠a/y.c_
def aJ.F (y:aJ) (mv:Nat->Bool) (p:Nat):Prop:=∃i,i<y.aq/\mv (i/y.c.block)=false/\y.bw i/y.c_=p
def aJ.T (y:aJ) (mv:Nat->Bool) (p:Nat):Prop:=∃i,i<y.aq/\mv (i/y.c.block)=true/\(y.c.to+i)/y.c_=p
def aJ.Al (y:aJ) (top:Nat) (p:Nat):Prop:=∃a,y.c.to+y.aq<=a/\a<top/\a/y.c_=p
def aJ.M (y:aJ) (mv:Nat->Bool) (top p:Nat):Prop:=y.F mv p\/y.T mv p\/y.Al top p
def aJ.q (y:aJ):Nat:=max (y.c.block/y.c_) 1
section
variable {y:aJ}{mv mv':Nat->Bool}{top A:Nat}
def fy (y:aJ) {i:Nat} (h:i<y.aq):y.bw i<y.d_/\dI y.E (y.bw i)=true/\aG (dI y.E) (y.bw i)=i:=rq h
def AK (y:aJ) {i j:Nat} (hj:j<y.aq) (h:i<j):y.bw i<y.bw j:=by have h1:=(fy y hj).2.2;have h2:=(fy y (i:=i) e9).2.2;rcases ip (y.bw i) (y.bw j) with e|e;exact e;have:=cT (dI y.E) e;omega
def bw_inj (y:aJ) {i j:Nat} (hi:i<y.aq) (hj:j<y.aq) (h:y.bw i=y.bw j):i=j:=by rcases T_ i j with e|e|e;have:=AK y hj e;omega;exact e;have:=AK y hi e;omega
def iy (y:aJ) (mv:Nat->Bool):y.fr mv<=y.nb/\(∀k,k<y.fr mv->mv k=true)/\(y.fr mv<y.nb->mv (y.fr mv)=false):=by have h:=dM (λk=>!mv k) y.nb 0;unfold aJ.fr;rw[C'] at h;exact⟨h.2.1,λk hk=>by simpa using h.2.2.1 k (lc _) hk,λq=>by simpa using h.2.2.2 q⟩
def aJ.Ok.OQ (h:y.Ok) {i:Nat} (hi:i<y.aq):i/y.c.block<y.nb:=by unfold aJ.nb;rw[fU h.CQ];exact DW (C_ i y.c.block) hi
def aJ.Ok.pg (h:y.Ok) {a:Nat} (ha:a<y.d_):a/y.c_<y.d_/y.c_:=by have:=h.c_;rw[j_ e9,k_ (go h.yv)];exact ha
def aJ.Ok.Jm (h:y.Ok) (i:Nat):(y.c.to+i)/y.c_=y.c.to/y.c_+i/y.c_:=by
 have hp:=h.c_;have e:=k_ (go h.to);have h2:(y.c.to+i)/y.c_=(i+y.c.to/y.c_*y.c_)/y.c_:=by rw[e,WF]
 rw[h2,ad2 _ _ e9,WF]
def aJ.Ok.oZ (h:y.Ok) (k np:Nat):aW (λp=>∃i,i/y.c.block=k/\(y.c.to+i)/y.c_=p) np<=y.q:=by
 have hp:=h.c_;have hb:=h.CQ;unfold aJ.q;rcases h.div with⟨c,hc⟩|⟨c,hc⟩;refine h_ (kE (a:=y.c.to/y.c_+k/c) λp _ q=>?_) (Nat.le_max_right _ _);obtain⟨i,hi,e⟩:=q;rw[<-e,h.Jm,<-hi,Nat.div_div_eq_div_mul,<-hc];have e:y.c.block/y.c_=c:=by rw[hc,Nat.mul_div_cancel_left _ e9]
 rw[e];refine h_ (bR λp _ q=>?_) (h_ (eI (y.c.to/y.c_+k*c) c np) (ak9 _ _));obtain⟨i,hi,e2⟩:=q;rw[h.Jm] at e2;have e3:i/y.c_/c=k:=by rw[Nat.div_div_eq_div_mul,<-hc,hi]
 have ks:0<c:=by rcases x' c with q|q;subst q;omega;exact q
 have h1:k*c<=i/y.c_:=by rw[<-e3];exact C_ _ _
 have h2:i/y.c_<k*c+c:=by have:=Nat.lt_mul_div_succ (i/y.c_) ks;rw[e3,ad7,w_,GP] at this;exact this
 omega
def aJ.Ok.count (h:y.Ok) (sx:top<=y.c.aT) (hle:∀k,mv k=true->mv' k=true) (xP:aG mv' y.nb<=y.fr mv'+A): aW (y.M mv' top) (y.d_/y.c_)<=aW (y.M mv top) (y.d_/y.c_)+y.q*A+2:=by
 obtain⟨f1,f2,f3⟩:=iy y mv';have tN:∀ {a:Nat},a<y.d_->a/y.c_<y.d_/y.c_:=λha=>h.pg ha;have hblk:=h.oZ;generalize hf:y.fr mv'=f at *;generalize Cw:y.d_/y.c_=np at *;have hp:=h.c_;have hb:=h.CQ;let S:Nat->Prop:=λi=>i<y.aq/\i<f*y.c.block/\mv (i/y.c.block)=false;let e:=min (f*y.c.block) y.aq;let H:Nat->Prop:=λp=>∃i,S i/\y.bw i/y.c_=p;let X:Nat->Prop:=λp=>p=y.bw e/y.c_;let Y:Nat->Prop:=λp=>p=(y.c.to+e)/y.c_;let A2:Nat->Prop:=λp=>∃k,k<y.nb/\(f<=k/\mv' k=true)/\∃i,i/y.c.block=k/\(y.c.to+i)/y.c_=p;let L:Nat->Prop:=λp=>(∃i,(y.c.to+i)/y.c_=p)/\∀i,(y.c.to+i)/y.c_=p->S i;have lo:∀j,mv' (j/y.c.block)=false->f*y.c.block<=j:=λj hj=>by rcases ip j (f*y.c.block) with q|q;have:=f2 (j/y.c.block) ((j_ e9).2 q);rw[hj] at this;cases this;exact q
 have apT:∀i j p,i<y.aq->(y.c.to+i)/y.c_=p->y.bw j/y.c_=p->j<y.aq->False:=λi j p hi h1 h2 hj=>h.apart j (y.c.to+i) hj e9 (by have:=h.jn;omega) (h2.trans h1.symm);have main:∀p,p<np->y.M mv' top p->X p\/(Y p\/(A2 p\/(L p\/(y.M mv top p/\¬H p)))):=λp _ hM=>by
  rcases hM with⟨j,hj,hm,Ot⟩|⟨i,hi,hm,Cx⟩|⟨a,uy,wX,Vl⟩;by_cases hH:H p;obtain⟨i,hi,Cx⟩:=hH;left;have hl:=lo j hm;have he:e=f*y.c.block:=ah0 e9;have h1:y.bw i<=y.bw e:=(by rw[he];exact ae5 (AK y e9 hi.2.1));have h2:y.bw e<=y.bw j:=(by rw[he];rcases ip (f*y.c.block) j with q|q;exact ae5 (AK y hj q);have:f*y.c.block=j:=e9;rw[this];exact bi _);have h3:=pm (c:=y.c_) h1;have h4:=pm (c:=y.c_) h2;show p=_;omega;refine .inr (.inr (.inr (.inr ⟨.inl ⟨j,hj,?_,Ot⟩,hH⟩)));cases hq:mv (j/y.c.block) with
  |false=>rfl
  |true=>
   have:=hle _ hq;rw[hm] at this;cases this
  rcases ip (i/y.c.block) f with hlt|hge;by_cases hT:y.T mv p;refine .inr (.inr (.inr (.inr ⟨.inr (.inl hT),fun⟨j,hS,Ot⟩=>?_⟩)));exact apT i j p hi Cx Ot hS.1;have hSi:S i:=by
   refine⟨hi,(j_ e9).1 hlt,?_⟩;cases hq:mv (i/y.c.block) with
   |false=>rfl
   |true=>exact absurd ⟨i,hi,hq,Cx⟩ hT
  rcases su (∃j,(y.c.to+j)/y.c_=p/\¬S j) with⟨j,hj,hn⟩|hno;right;left;have hej:e<=j:=by
   rcases ip j e with q|q;have q1:j<f*y.c.block:=x_ q (Nat.min_le_left _ _);have q2:j<y.aq:=x_ q (Uz _ _);exfalso;cases hq:mv (j/y.c.block) with
   |false=>exact hn ⟨q2,q1,hq⟩
   |true=>exact hT ⟨j,q2,hq,hj⟩
   exact q
  have hie:i<e:=Nat.lt_min.2 ⟨hSi.2.1,hi⟩;have h3:(y.c.to+i)/y.c_<=(y.c.to+e)/y.c_:=pm e9;have h4:(y.c.to+e)/y.c_<=(y.c.to+j)/y.c_:=pm e9;show p=_;omega;refine .inr (.inr (.inr (.inl ⟨⟨i,Cx⟩,λj hj=>L_ λhn=>hno ⟨j,hj,hn⟩⟩)));exact .inr (.inr (.inl ⟨_,h.OQ hi,⟨hge,hm⟩,i,rfl,Cx⟩));refine .inr (.inr (.inr (.inr ⟨.inr (.inr ⟨a,uy,wX,Vl⟩),fun⟨j,hS,Ot⟩=>?_⟩)));exact h.apart j a hS.1 e9 e9 (Ot.trans Vl.symm)
 have c1:=bR main;have c2:=jF X (λp=>Y p\/(A2 p\/(L p\/(y.M mv top p/\¬H p)))) np;have c3:=jF Y (λp=>A2 p\/(L p\/(y.M mv top p/\¬H p))) np;have c4:=jF A2 (λp=>L p\/(y.M mv top p/\¬H p)) np;have c5:=jF L (λp=>y.M mv top p/\¬H p) np;have x1:aW X np<=1:=kE (a:=y.bw e/y.c_) λ_ _ q=>q;have y1:aW Y np<=1:=kE (a:=(y.c.to+e)/y.c_) λ_ _ q=>q;have a1:aW A2 np<=y.q*aW (λk=>f<=k/\mv' k=true) y.nb:=tv (Z:=λk p=>∃i,i/y.c.block=k/\(y.c.to+i)/y.c_=p) y.nb (λp _ q=>q) λk=>hblk k np;have a2:aW (λk=>f<=k/\mv' k=true) y.nb<=A:=by have s1:aW (λk=>mv' k=true) y.nb=aG mv' y.nb:=(by unfold aW;exact cB λi _=>by by_cases q:mv' i=true<;>simp[q]);have s2:=mB (λk=>mv' k=true) (λk=>f<=k) y.nb;have s3:aW (λk=>mv' k=true/\f<=k) y.nb=aW (λk=>f<=k/\mv' k=true) y.nb:=iu λi _=>And.comm;have s4:f<=aW (λk=>mv' k=true/\¬f<=k) y.nb:=(by refine h_ (gF 0 f y.nb e9) (bR λk _ q=>⟨f2 k e9,e9⟩));omega
 have a3:=ai0 y.q a2;have v1:aW S y.aq<=y.c_*aW H np:=xC (λi=>y.bw i/y.c_) (λi hi q=>⟨tN (fy y hi).1,i,q,rfl⟩) λp _=>inj_page y.bw y.c_ p hp λi j=>bw_inj y;have v2:y.c_*aW L np<=aW S y.aq:=by refine h_ (xB (P:=S) (Q:=L) (λi=>(y.c.to+i)/y.c_) y.aq y.c_ np λp _ hL=>?_) (bR λi _ q=>q.1);obtain⟨⟨i0,Kw⟩,hall⟩:=hL;rw[h.Jm] at Kw;have hq:∀i,i0/y.c_*y.c_<=i->i<i0/y.c_*y.c_+y.c_->(y.c.to+i)/y.c_=p:=λi h1 h2=>(by rw[h.Jm,<-Kw];have:i/y.c_=i0/y.c_:=(by rw[ae9 e9];omega);rw[this]);have hl:=(hall (i0/y.c_*y.c_+y.c_-1) (hq _ e9 e9)).1;refine h_ (gF (i0/y.c_*y.c_) y.c_ y.aq e9) (bR λi _ q=>?_);have:=hq i q.1 q.2;exact⟨hall i this,this⟩
 have v3:aW L np<=aW H np:=Nat.le_of_mul_le_mul_left (h_ v2 v1) e9;have z1:=mB (y.M mv top) H np;have z2:aW H np<=aW (λp=>y.M mv top p/\H p) np:=bR λp _ q=>⟨by obtain⟨i,hS,Cx⟩:=q;exact .inl ⟨i,hS.1,hS.2.2,Cx⟩,q⟩;omega
end
def bg (np:Nat) (v:VS):Prop:=v.used=aG v.mp np
section
variable {np p c_:Nat}{v:VS}
def bg.map (h:bg np v) (hp:p<np) (hm:v.mp p=false):bg np (nV c_ v p):=by have e:=gu (f:=v.mp) (s:=p) hm np;rw[b9 hp] at e;exact (NE (· +1) h).trans e.symm
def bg.dL:∀ {l:List Nat} {v:VS},bg np v->(∀p∈l,p<np/\v.mp p=false)->l.Nodup->bg np (dL c_ v l)
 |[],_,h,_,_=>h
 |p::l,v,h,hl,hd=>by have hp:=hl p (fd ..);rw[V_] at hd;refine bg.dL (l:=l) (v:=nV c_ v p) (h.map hp.1 hp.2) (λq hq=>⟨(hl q (dl _ hq)).1,?_⟩) hd.2;show (if q=p then true else v.mp q)=false;rw[b_ (λe:q=p=>hd.1 (e▸hq))];exact (hl q (dl _ hq)).2
def bg.yN (h:bg np v) (hp:p<np) (hm:v.mp p=true):bg np (tw v p):=by
 have e:=gu (f:=λq=>if q=p then false else v.mp q) (s:=p) qr np;have e2:bj (λq=>if q=p then false else v.mp q) p=v.mp:=funext λq=>by unfold bj;by_cases hq:q=p;subst hq;simp[hm];simp[hq]
 rw[e2,b9 hp] at e;show v.used-1=aG (λq=>if q=p then false else v.mp q) np;unfold bg at h;omega
def bg.bY (h:bg np v):bg np (bY np v (p:Nat)):=by
 unfold Go.Proofs.YtmdgfpeglgpiiaaGreatDoor.bY;split
 .next e=>
  unfold lj at e;split at e;cases e;next h1=>
  split at e
  .next h2=>exact h.yN (by simpa using h1) h2
  cases e
 exact h
end
noncomputable def aJ.tE (y:aJ) (x a s:Nat):Nat:=if x≠0/\qG (y.g s) ((a:Int)-s)=true then y.to (IntKind.i64.wrap (x:Nat)) else x
noncomputable def aJ.nw (y:aJ) (g0:Nat->Nat) (i:Nat):Nat:=y.tE (g0 (y.bw i)) (y.bw i) (qS y.E (y.bw i))
noncomputable def aJ.ba (y:aJ) (g0:Nat->Nat) (s:ml) (a:Nat):Nat:=if y.waits s.mv a then y.nw g0 (a-y.c.to) else s.v.wd a
structure aJ.In (y:aJ) (g0:Nat->Nat) (top:Nat) (s:ml):Prop where
 yK:y.c.to+y.aq<=top/\top<=y.c.aT
 mp:∀p,p<y.d_/y.c_->(s.v.mp p=true↔y.M s.mv top p)
 old:∀i,i<y.aq->s.mv (i/y.c.block)=false->s.v.wd (y.bw i)=g0 (y.bw i)
 used:bg (y.d_/y.c_) s.v
 out:∀k,y.nb<=k->s.mv k=false
 aM:s.v.aM<=y.e_
section
variable {y:aJ}{mv mv':Nat->Bool}{top A k n:Nat}{v:VS}{g0:Nat->Nat}{s:ml}
def aJ.Fs (y:aJ) (v:VS) (a s:Nat):y.word v a s=y.tE (eU y.d_ y.c_ v a) a s:=rfl
def aJ.Ok.mD (h:y.Ok) {a:Nat} (ha:a<y.d_) (hm:v.mp (a/y.c_)=true):ga y.d_ y.c_ v (a:Nat)=0/\eU y.d_ y.c_ v (a:Nat)=v.wd a:=fS ⟨ha,hm⟩
def aJ.Ok.AO (h:y.Ok) {i n:Nat} (hn:i+n<=y.aq) (hold:∀j,i<=j->j<i+n->v.mp (y.bw j/y.c_)=true/\v.wd (y.bw j)=g0 (y.bw j)) (zw:∀j,i<=j->j<i+n->v.mp ((y.c.to+j)/y.c_)=true): ∀k,k<=n->(y.cp v i k).mp=v.mp/\(y.cp v i k).used=v.used/\(y.cp v i k).aM=v.aM/\∀a,(y.cp v i k).wd a=if y.c.to+i<=a/\a<y.c.to+i+k then y.nw g0 (a-y.c.to) else v.wd a
 |0,_=>⟨rfl,rfl,rfl,λa=>by rw[cG];rfl⟩
 |k+1,hk=>by obtain⟨h1,h2,h3,h4⟩:=aJ.Ok.AO h hn hold zw k e9;have hb:=fy y (i:=i+k) e9;have o:=hold (i+k) e9 e9;have d:=zw (i+k) e9 e9;have e1:(y.cp v i k).wd (y.bw (i+k))=g0 (y.bw (i+k)):=(by rw[h4,b_ ?_];exact o.2;rintro⟨q1,q2⟩;exact h.apart (i+k) (y.bw (i+k)) e9 e9 (by have:=h.jn;omega) rfl);have e2:y.jx (y.cp v i k) (i+k)=y.nw g0 (i+k):=(by unfold aJ.jx;rw[aJ.Fs,(h.mD hb.1 (by rw[h1];exact o.1)).2,e1];rfl);have e3:y.cp v i (k+1)=fB (y.cp v i k) (y.c.to+(i+k)) (y.nw g0 (i+k)):=(by rw[aJ.cp,e2];unfold du;rw[b9 (h.mD (a:=y.c.to+(i+k)) (by have:=h.jn;omega) (by rw[h1];exact d)).1];rfl);rw[e3];refine⟨h1,h2,h3,λa=>?_⟩;show (if a=y.c.to+(i+k) then y.nw g0 (i+k) else (y.cp v i k).wd a)=_;by_cases q:a=y.c.to+(i+k);rw[b9 q,iY,q,A_];rw[b_ q,h4];by_cases q2:y.c.to+i<=a/\a<y.c.to+i+k;rw[b9 q2,iY];rw[b_ q2,cG]
def aJ.nA (y:aJ) (U:Nat->Bool) (q:Nat):y.cw U q=0↔∀i,i<y.aq->U i=true->y.bw i/y.c_≠q:=by
 unfold aJ.cw;constructor;intro h i hi hU e;have h1:aG (λi=>U i && decide (y.bw i/y.c_=q)) (i+1)<=aG (λi=>U i && decide (y.bw i/y.c_=q)) y.aq:=cT _ e9;rw[bM,h] at h1;simp[hU,e] at h1;intro h;refine dD λi hi=>?_;cases hU:U i with
 |false=>rfl
 |true=>simpa [hU] using h i hi hU
def aJ.Ok.AP (h:y.Ok) {U:Nat->Bool} {i:Nat} (hu:bg (y.d_/y.c_) v):∀n,i+n<=y.aq->(y.dr U v i n).wd=v.wd/\(y.dr U v i n).aM=v.aM/\bg (y.d_/y.c_) (y.dr U v i n)/\∀p,(y.dr U v i n).mp p=true↔v.mp p=true/\¬((∃j,i<=j/\j<i+n/\y.bw j/y.c_=p)/\y.cw (bq U i n) p=0)
 |0,_=>⟨rfl,rfl,hu,λp=>⟨λq=>⟨q,fun⟨⟨j,h1,h2,_⟩,_⟩=>e9⟩,λq=>q.1⟩⟩
 |n+1,hn=>by
  obtain⟨h1,h2,h3,h4⟩:=aJ.Ok.AP h (U:=U) (i:=i) hu n e9;have hb:=fy y (i:=i+n) e9;have tN:=h.pg hb.1;have Je:∀r,bq U i (n+1) r=true->bq U i n r=true:=λr hr=>(by unfold bq at hr ⊢;simp only[lw,ab0,DH,Do] at hr ⊢;exact⟨hr.1,e9⟩);have lessO:∀r,r≠i+n->bq U i n r=true->bq U i (n+1) r=true:=λr hne hr=>(by unfold bq at hr ⊢;simp only[lw,ab0,DH,Do] at hr ⊢;exact⟨hr.1,e9⟩);have other:∀p,p≠y.bw (i+n)/y.c_->((v.mp p=true/\¬((∃j,i<=j/\j<i+n/\y.bw j/y.c_=p)/\y.cw (bq U i n) p=0))↔(v.mp p=true/\¬((∃j,i<=j/\j<i+(n+1)/\y.bw j/y.c_=p)/\y.cw (bq U i (n+1)) p=0))):=λp hp=>(by have e1:(∃j,i<=j/\j<i+n/\y.bw j/y.c_=p)↔(∃j,i<=j/\j<i+(n+1)/\y.bw j/y.c_=p):=(by constructor;rintro⟨j,a,b,c⟩;exact⟨j,a,e9,c⟩;rintro⟨j,a,b,c⟩;refine⟨j,a,?_,c⟩;rcases ip j (i+n) with q|q;exact q;have:j=i+n:=e9;subst this;exact absurd c.symm hp);have e2:y.cw (bq U i n) p=0↔y.cw (bq U i (n+1)) p=0:=(by rw[aJ.nA,aJ.nA];constructor;intro q r hr hl;exact q r hr (Je r hl);intro q r hr hl e;refine q r hr (lessO r ?_ hl) e;rintro rfl;exact hp e.symm);rw[e1,e2]);have back:y.cw (bq U i n) (y.bw (i+n)/y.c_)=0->y.cw (bq U i (n+1)) (y.bw (i+n)/y.c_)=0:=λq=>(by rw[aJ.nA] at q ⊢;exact λr hr hl=>q r hr (Je r hl));rw[aJ.dr];by_cases hc:y.cw (bq U i (n+1)) (y.bw (i+n)/y.c_)=0
  .rw[b9 hc];have hm:∀p,(bY (y.d_/y.c_) (y.dr U v i n) ((y.bw (i+n)/y.c_:Nat):Int)).mp p=if p=y.bw (i+n)/y.c_ then false else (y.dr U v i n).mp p:=λp=>by
    unfold bY;split;rfl;next e=>
    split
    .next e2=>
     unfold lj at e;rw[cG] at e;subst e2;cases hq:(y.dr U v i n).mp (y.bw (i+n)/y.c_) with
     |false=>rfl
     |true=>rw[f_,b9 hq] at e;exact absurd rfl e
    rfl
   have hw:(bY (y.d_/y.c_) (y.dr U v i n) ((y.bw (i+n)/y.c_:Nat):Int)).wd=(y.dr U v i n).wd:=by unfold bY;split<;>rfl
   have hh:(bY (y.d_/y.c_) (y.dr U v i n) ((y.bw (i+n)/y.c_:Nat):Int)).aM=(y.dr U v i n).aM:=by unfold bY;split<;>rfl
   refine⟨hw.trans h1,hh.trans h2,h3.bY,λp=>?_⟩;rw[hm];by_cases hp:p=y.bw (i+n)/y.c_
   .rw[b9 hp];subst hp;exact⟨λq=>(by cases q),λq=>absurd ⟨⟨i+n,e9,e9,rfl⟩,hc⟩ q.2⟩
   .rw[b_ hp,h4];exact other p hp
  rw[b_ hc];refine⟨h1,h2,h3,λp=>?_⟩;rw[h4];by_cases hp:p=y.bw (i+n)/y.c_;subst hp;exact⟨λq=>⟨q.1,λr=>hc r.2⟩,λq=>⟨q.1,λr=>hc (back r.2)⟩⟩;exact other p hp
end
def needV_ok {d_ c_ e_:Nat} {v:VS} {a b:Nat} (hp:1<=c_) (hw:d_%c_=0) (hab:a<b) (hb:b<=d_) (hu:bg (d_/c_) v) (hf:v.used+((b-1)/c_-a/c_+1)<=e_): dc d_ c_ e_ v a b=0/\(bH d_ c_ e_ v a b).aM<=max v.aM (bH d_ c_ e_ v a b).used/\bg (d_/c_) (bH d_ c_ e_ v a b)/\(∀p,(bH d_ c_ e_ v a b).mp p=true↔v.mp p=true\/(a/c_<=p/\p<=(b-1)/c_))/\(∀x,v.mp (x/c_)=true\/¬(a/c_<=x/c_/\x/c_<=(b-1)/c_)->(bH d_ c_ e_ v a b).wd x=v.wd x)/\(∀x,v.mp (x/c_)=false->(a/c_<=x/c_/\x/c_<=(b-1)/c_)->(bH d_ c_ e_ v a b).wd x=0):=by
 have hl:=oa v (a/c_) ((b-1)/c_-a/c_+1);have hle:a/c_<=(b-1)/c_:=pm e9;have e1:dc d_ c_ e_ v a b=0:=by unfold dc;rw[cG,cG];unfold qB;rw[f_,f_,iY]
 have e2:bH d_ c_ e_ v a b=dL c_ v (dQ v (a/c_) ((b-1)/c_-a/c_+1)):=by unfold bH;rw[cG,cG];unfold jP;rw[f_,f_,iY]
 have hm:∀p,p∈dQ v (a/c_) ((b-1)/c_-a/c_+1)↔(a/c_<=p/\p<=(b-1)/c_)/\v.mp p=false:=λp=>by rw[jr];constructor;rintro⟨q1,q2⟩;exact⟨e9,q2⟩;rintro⟨q1,q2⟩;exact⟨e9,q2⟩
 rw[e2];refine⟨e1,?_,hu.dL (λp q=>⟨?_,((hm p).1 q).2⟩) (mL _ _ _),λp=>?_,λx hx=>?_,λx hx hr=>?_⟩;rw[uM,jo];split;exact ak9 _ _;exact bi _;have h1:=((hm p).1 q).1;refine DW h1.2 ?_;rw[j_ e9,k_ (go hw)];omega;rw[rh,ae3,l_,hm];constructor;rintro (q|q);exact .inl q;exact .inr q.1;rintro (q|q);exact .inl q;cases hq:v.mp p with
 |true=>exact .inl rfl
 |false=>exact .inr ⟨q,rfl⟩
 rw[nU,b_];rw[hm];rintro⟨q1,q2⟩;rcases hx with q|q;rw[q] at q2;cases q2;exact q q1;rw[nU,b9 ((hm _).2 ⟨hr,hx⟩)]
structure aJ.Good (y:aJ) (g0:Nat->Nat) (top:Nat) (s:ml):Prop where
 ok:y.Ok
 mc:y.In g0 top s
 safe:∀mv',(∀k,s.mv k=true->mv' k=true)->aG mv' y.nb<=y.fr mv'+y.c.aE->aW (y.M mv' top) (y.d_/y.c_)+y.q<=y.e_
 ah:aG s.mv y.nb<=y.fr s.mv+y.c.aE
section
variable {y:aJ}{mv mv':Nat->Bool}{top A k n:Nat}{v:VS}{g0:Nat->Nat}{s:ml}
def aJ.Ok.pX (h:y.Ok) (hk:k<y.nb) (p:Nat): ((y.c.to+y.lo k)/y.c_<=p/\p<=(y.c.to+min (k*y.c.block+y.c.block) y.aq-1)/y.c_)↔∃i,i<y.aq/\i/y.c.block=k/\(y.c.to+i)/y.c_=p:=by
 have hb:=h.CQ;have tN:=h.c_;have hlt:k*y.c.block<y.aq:=(fU h.CQ).1 hk;unfold aJ.lo;have e0:y.c.to+min (k*y.c.block+y.c.block) y.aq-1=y.c.to+(min (k*y.c.block+y.c.block) y.aq-1):=e9;rw[e0,h.Jm,h.Jm];have hdiv:∀i,i/y.c.block=k↔k*y.c.block<=i/\i<k*y.c.block+y.c.block:=λi=>by rw[ae9 e9];omega
 constructor;rintro⟨h1,h2⟩;have h0:y.c.to/y.c_<=p:=h_ (Y_ _ _) h1;obtain⟨r,rfl⟩:∃r,p=y.c.to/y.c_+r:=⟨p-y.c.to/y.c_,e9⟩;have h3:k*y.c.block/y.c_<=r:=e9;have h4:r<=(min (k*y.c.block+y.c.block) y.aq-1)/y.c_:=e9;have h5:r*y.c_<=min (k*y.c.block+y.c.block) y.aq-1:=h_ (r_ _ h4) (C_ _ _);refine⟨max (k*y.c.block) (r*y.c_),e9,(hdiv _).2 e9,?_⟩;rw[h.Jm];rcases ag7 (k*y.c.block) (r*y.c_) with q|q;rw[Nat.max_eq_right q,aa0 _ e9];rw[Nat.max_eq_left q];have:r<=k*y.c.block/y.c_:=by rw[Cq e9];exact q
 omega;rintro⟨i,hi,h1,rfl⟩;have h2:=(hdiv i).1 h1;rw[h.Jm];have h3:k*y.c.block/y.c_<=i/y.c_:=pm h2.1;have h4:i/y.c_<=(min (k*y.c.block+y.c.block) y.aq-1)/y.c_:=pm e9;omega
def aJ.Ok.run_few (h:y.Ok) (hk:k<y.nb):(y.c.to+min (k*y.c.block+y.c.block) y.aq-1)/y.c_-(y.c.to+y.lo k)/y.c_+1<=y.q:=by have hlt:k*y.c.block<y.aq:=(fU h.CQ).1 hk;have hle:(y.c.to+y.lo k)/y.c_<=(y.c.to+min (k*y.c.block+y.c.block) y.aq-1)/y.c_:=pm (by unfold aJ.lo;have:=h.CQ;omega);have h1:=gF ((y.c.to+y.lo k)/y.c_) ((y.c.to+min (k*y.c.block+y.c.block) y.aq-1)/y.c_-(y.c.to+y.lo k)/y.c_+1) ((y.c.to+min (k*y.c.block+y.c.block) y.aq-1)/y.c_+1) e9;refine h_ h1 (h_ (bR λp _ q=>?_) (h.oZ k ((y.c.to+min (k*y.c.block+y.c.block) y.aq-1)/y.c_+1)));obtain⟨i,_,h3,h4⟩:=(h.pX hk p).1 e9;exact⟨i,h3,h4⟩
def DZ (y:aJ) {j:Nat} (hj:j<=y.nb) (h:∀k,k<j->mv k=true):j<=y.fr mv:=by obtain⟨f1,f2,f3⟩:=iy y mv;rcases ip (y.fr mv) j with q|q;have:=h _ q;rw[f3 e9] at this;cases this;exact q
def dK (y:aJ) (hk:k<y.nb) (h:mv k=false):aG (bj mv k) y.nb=aG mv y.nb+1:=by rw[gu h,b9 hk]
def aJ.In.BV (h:y.In g0 top s):s.v.used=aW (y.M s.mv top) (y.d_/y.c_):=by rw[h.used];exact ly λp hp=>h.mp p hp
def cO {f:Nat->Bool} {k i:Nat}:bj f k i=true↔i=k\/f i=true:=by unfold bj;by_cases e:i=k<;>simp[e]
def fC {f:Nat->Bool} {k i:Nat}:bj f k i=false↔i≠k/\f i=false:=by unfold bj;by_cases e:i=k<;>simp[e]
def aJ.Good.move (h:y.Good g0 top s) (hk:k<y.nb) (hm:s.mv k=false) (ha:aG (bj s.mv k) y.nb<=y.fr (bj s.mv k)+y.c.aE): y.dc s.v k=0/\y.Good g0 top (y.move s k)/\∀a,y.c.to<=a->a<y.c.aT->(y.waits s.mv a\/s.v.mp (a/y.c_)=true)->y.ba g0 (y.move s k) a=y.ba g0 s a/\(y.waits (bj s.mv k) a\/(y.move s k).v.mp (a/y.c_)=true):=by
 obtain⟨ok,hin,safe,xP⟩:=h;have hp:=ok.c_;have hb:=ok.CQ;have ey:=ok.jn;have hlt:k*y.c.block<y.aq:=(fU ok.CQ).1 hk;have qO:=ok.run_few hk;have hs0:=safe s.mv (λ_ q=>q) xP;rw[<-hin.BV] at hs0;have hN:=needV_ok (e_:=y.e_) hp ok.yv (a:=y.c.to+y.lo k) (b:=y.c.to+min (k*y.c.block+y.c.block) y.aq) (by unfold aJ.lo;omega) e9 hin.used e9;obtain⟨n1,n2,n3,n4,n5,-⟩:=hN;have nE:y.dc s.v k=0:=n1;have hV:y.bH s.v k=Go.Proofs.YtmdgfpeglgpiiaaGreatDoor.bH y.d_ y.c_ y.e_ s.v ((y.c.to+y.lo k:Nat)) ((y.c.to+min (k*y.c.block+y.c.block) y.aq:Nat)):=rfl;rw[<-hV] at n2 n3 n4 n5;have QD:∀p,(y.bH s.v k).mp p=true↔s.v.mp p=true\/∃i,i<y.aq/\i/y.c.block=k/\(y.c.to+i)/y.c_=p:=λp=>by rw[n4,ok.pX hk]
 have Wk:∀x,(s.v.mp (x/y.c_)=true\/¬ ∃i,i<y.aq/\i/y.c.block=k/\(y.c.to+i)/y.c_=x/y.c_)->(y.bH s.v k).wd x=s.v.wd x:=λx hx=>n5 x (hx.imp id λq r=>q ((ok.pX hk _).1 r));have hlen:y.lo k+y.len k=min (k*y.c.block+y.c.block) y.aq:=by unfold aJ.lo aJ.len;omega
 have hinb:∀i,i/y.c.block=k↔k*y.c.block<=i/\i<k*y.c.block+y.c.block:=λi=>by rw[ae9 e9];omega
 have hblk:∀i,i<y.aq->(i/y.c.block=k↔y.lo k<=i/\i<y.lo k+y.len k):=λi hi=>by rw[hinb,hlen];unfold aJ.lo;omega
 have apart:∀i j,i<y.aq->j<y.aq->y.bw i/y.c_≠(y.c.to+j)/y.c_:=λi j hi hj=>ok.apart i _ hi e9 e9;have OR:∀i,i<y.aq->s.mv (i/y.c.block)=false->s.v.mp (y.bw i/y.c_)=true:=λi hi q=>(hin.mp _ (ok.pg (fy y hi).1)).2 (.inl ⟨i,hi,q,rfl⟩);have wy:∀i,i<y.aq->s.mv (i/y.c.block)=false->(y.bH s.v k).mp (y.bw i/y.c_)=true/\(y.bH s.v k).wd (y.bw i)=g0 (y.bw i):=λi hi q=>⟨(QD _).2 (.inl (OR i hi q)),(Wk _ (.inl (OR i hi q))).trans (hin.old i hi q)⟩;have hC:=ok.AO (v:=y.bH s.v k) (g0:=g0) (i:=y.lo k) (n:=y.len k) e9 (λj h1 h2=>wy j e9 (by rw[(hblk j e9).2 ⟨h1,h2⟩];exact hm)) (λj h1 h2=>(QD _).2 (.inr ⟨j,e9,(hblk j e9).2 ⟨h1,h2⟩,rfl⟩)) (y.len k) (bi _);obtain⟨c1,c2,c3,c4⟩:=hC;have Wa:bg (y.d_/y.c_) (y.cp (y.bH s.v k) (y.lo k) (y.len k)):=by unfold bg at n3 ⊢;rw[c1,c2];exact n3
 have hD:=ok.AP (U:=y.un s.mv) (i:=y.lo k) Wa (y.len k) e9;obtain⟨d1,d2,d3,d4⟩:=hD;have FJ:(y.move s k).v=y.dr (y.un s.mv) (y.cp (y.bH s.v k) (y.lo k) (y.len k)) (y.lo k) (y.len k):=rfl;have KD:(y.move s k).mv=bj s.mv k:=rfl;rw[<-FJ] at d1 d2 d3 d4;have Tr:∀a,(y.move s k).v.wd a=if y.c.to+y.lo k<=a/\a<y.c.to+y.lo k+y.len k then y.nw g0 (a-y.c.to) else (y.bH s.v k).wd a:=λa=>by rw[d1,c4]
 have left:∀p,y.cw (bq (y.un s.mv) (y.lo k) (y.len k)) p=0↔¬y.F (bj s.mv k) p:=λp=>by rw[aJ.nA];have key:∀i,i<y.aq->(bq (y.un s.mv) (y.lo k) (y.len k) i=true↔bj s.mv k (i/y.c.block)=false):=λi hi=>(by unfold bq aJ.un;rw[fC,ne_eq,hblk i hi];simp only[lw,ab0,DH,Do];constructor;rintro⟨q1,q2⟩;exact⟨e9,q1⟩;rintro⟨q1,q2⟩;exact⟨q2,e9⟩);constructor;rintro q ⟨i,hi,h1,h2⟩;exact q i hi ((key i hi).2 h1) h2;intro q i hi h1 h2;exact q ⟨i,hi,(key i hi).1 h1,h2⟩
 have Tl:∀p,p<y.d_/y.c_->((y.move s k).v.mp p=true↔y.M (bj s.mv k) top p):=λp Bg=>by rw[d4,c1,QD,hin.mp p Bg,left];constructor;rintro⟨h1,h2⟩;rcases h1 with (⟨i,hi,q1,q2⟩|⟨i,hi,q1,q2⟩|q)|⟨i,hi,q1,q2⟩;by_cases e:i/y.c.block=k;exact .inl (L_ λq=>h2 ⟨⟨i,((hblk i hi).1 e).1,((hblk i hi).1 e).2,q2⟩,q⟩);exact .inl ⟨i,hi,fC.2 ⟨e,q1⟩,q2⟩;exact .inr (.inl ⟨i,hi,cO.2 (.inr q1),q2⟩);exact .inr (.inr q);exact .inr (.inl ⟨i,hi,cO.2 (.inl q1),q2⟩);rintro (⟨i,hi,q1,q2⟩|⟨i,hi,q1,q2⟩|⟨a,q1,q2,q3⟩);exact⟨.inl (.inl ⟨i,hi,(fC.1 q1).2,q2⟩),λr=>r.2 ⟨i,hi,q1,q2⟩⟩;refine⟨?_,fun⟨⟨j,r1,r2,r3⟩,_⟩=>apart j i e9 hi (r3.trans q2.symm)⟩;rcases cO.1 q1 with e|e;exact .inr ⟨i,hi,e,q2⟩;exact .inl (.inr (.inl ⟨i,hi,e,q2⟩));exact⟨.inl (.inr (.inr ⟨a,q1,q2,q3⟩)),fun⟨⟨j,r1,r2,r3⟩,_⟩=>ok.apart j a e9 e9 (by have:=hin.yK;omega) (r3.trans q3.symm)⟩
 have hin3:y.In g0 top (y.move s k):=by refine⟨hin.yK,Tl,λi hi q=>?_,d3,λj hj=>?_,?_⟩;have q':=fC.1 (KD▸q);rw[Tr,b_ ?_];exact (wy i hi q'.2).2;rintro⟨r1,r2⟩;exact ok.apart i (y.bw i) hi e9 e9 rfl;rw[KD,fC];exact⟨e9,hin.out j hj⟩;rw[d2,c3];refine h_ n2 (Nat.max_le.2 ⟨hin.aM,?_⟩);have u1:(y.bH s.v k).used=aW (λp=>(y.bH s.v k).mp p=true) (y.d_/y.c_):=(by rw[n3];unfold aW;exact cB λp _=>qr);have u2:aW (λp=>(y.bH s.v k).mp p=true) (y.d_/y.c_)<=aW (λp=>s.v.mp p=true) (y.d_/y.c_)+y.q:=(by refine h_ (bR λp _ q=>(QD p).1 q) (h_ (jF _ _ _) ?_);have:=ok.oZ k (y.d_/y.c_);have e:aW (λp=>∃i,i<y.aq/\i/y.c.block=k/\(y.c.to+i)/y.c_=p) (y.d_/y.c_)<=aW (λp=>∃i,i/y.c.block=k/\(y.c.to+i)/y.c_=p) (y.d_/y.c_):=bR λp _ ⟨i,_,q⟩=>⟨i,q⟩;omega);have u3:aW (λp=>s.v.mp p=true) (y.d_/y.c_)=s.v.used:=(by rw[hin.used];unfold aW;exact cB λp _=>qr);omega
 refine⟨nE,⟨ok,hin3,λmv' q1 q2=>safe mv' (λj hj=>q1 j (cO.2 (.inr hj))) q2,ha⟩,λa a1 a2 a3=>?_⟩;have wt:y.waits (bj s.mv k) a↔y.waits s.mv a/\(a-y.c.to)/y.c.block≠k:=by unfold aJ.waits;rw[fC];constructor;rintro⟨r1,r2,r3,r4⟩;exact⟨⟨r1,r2,r4⟩,r3⟩;rintro⟨⟨r1,r2,r4⟩,r3⟩;exact⟨r1,r2,r3,r4⟩
 unfold aJ.ba;rw[KD];by_cases w1:y.waits s.mv a;by_cases w2:(a-y.c.to)/y.c.block=k;have hi:a-y.c.to<y.aq:=by have:=w1.2.1;have e:y.aq=bB y.E y.d_:=rfl;omega
 have hr:=(hblk _ hi).1 w2;rw[b_ (λq=>(wt.1 q).2 w2),b9 w1,Tr,iY];refine⟨rfl,.inr ((Tl _ (ok.pg e9)).2 (.inr (.inl ⟨a-y.c.to,hi,?_,by rw[Nat.add_sub_cancel' a1]⟩)))⟩;rw[w2,cO];exact .inl rfl;rw[b9 (wt.2 ⟨w1,w2⟩),b9 w1];exact⟨rfl,.inl (wt.2 ⟨w1,w2⟩)⟩;rw[b_ (λq=>w1 (wt.1 q).1),b_ w1];have zw:=a3.resolve_left w1;have lV:¬(y.c.to+y.lo k<=a/\a<y.c.to+y.lo k+y.len k):=λr=>by have hi:a-y.c.to<y.aq:=e9;refine w1 ⟨a1,?_,?_⟩;have e:y.aq=bB y.E y.d_:=rfl;omega;rw[(hblk _ hi).2 e9];exact hm
 rw[Tr,b_ lV];refine⟨Wk a (.inl zw),.inr ((Tl _ (ok.pg e9)).2 ?_)⟩;rcases (hin.mp _ (ok.pg e9)).1 zw with⟨i,hi,q1,q2⟩|⟨i,hi,q1,q2⟩|q;exact absurd q2 (ok.apart i a hi a1 a2);exact .inr (.inl ⟨i,hi,cO.2 (.inr q1),q2⟩);exact .inr (.inr q)
end
structure aJ.On (y:aJ) (g0:Nat->Nat) (top:Nat) (s s':ml):Prop where
 jh:y.Good g0 top s'
 ba:∀a,y.c.to<=a->a<y.c.aT->(y.waits s.mv a\/s.v.mp (a/y.c_)=true)->y.ba g0 s' a=y.ba g0 s a/\(y.waits s'.mv a\/s'.v.mp (a/y.c_)=true)
 mono:∀k,s.mv k=true->s'.mv k=true
section
variable {y:aJ}{mv mv':Nat->Bool}{top A k n a:Nat}{v:VS}{g0:Nat->Nat}{s s' s2:ml}
def aJ.On.refl (h:y.Good g0 top s):y.On g0 top s s:=⟨h,λa _ _ q=>⟨rfl,q⟩,λ_ q=>q⟩
def aJ.On.trans (h:y.On g0 top s s') (h2:y.On g0 top s' s2):y.On g0 top s s2:=⟨h2.jh,λa a1 a2 q=>by
 have r:=h.ba a a1 a2 q;have r2:=h2.ba a a1 a2 r.2;exact⟨r2.1.trans r.1,r2.2⟩,λk q=>h2.mono k (h.mono k q)⟩
def aJ.Good.on (h:y.Good g0 top s) (hk:k<y.nb) (hm:s.mv k=false) (ha:aG (bj s.mv k) y.nb<=y.fr (bj s.mv k)+y.c.aE):y.dc s.v k=0/\y.On g0 top s (y.move s k):=by obtain⟨h1,h2,h3⟩:=h.move hk hm ha;exact⟨h1,h2,λa a1 a2 q=>h3 a a1 a2 q,λj q=>cO.2 (.inr q)⟩
def aJ.Good.front (h:y.Good g0 top s) (hf:y.fr s.mv<y.nb):y.dc s.v (y.fr s.mv)=0/\y.On g0 top s (y.move s (y.fr s.mv)):=by obtain⟨f1,f2,f3⟩:=iy y s.mv;refine h.on hf (f3 hf) ?_;rw[dK y hf (f3 hf)];have:=DZ y (mv:=bj s.mv (y.fr s.mv)) (j:=y.fr s.mv+1) hf λk hk=>cO.2 (by rcases ip k (y.fr s.mv) with q|q;exact .inr (f2 k q);exact .inl e9);have:=h.ah;omega
def aJ.Good.push (k:Nat) (hk:k<=y.nb):∀n {s:ml},y.Good g0 top s->y.On g0 top s (y.push k n s)
 |0,s,h=> .refl h
 |n+1,s,h=>by
  rw[aJ.push];split
  .next q=>
   have hf:=h.front e9;exact hf.2.trans (aJ.Good.push k hk n hf.2.jh)
  exact .refl h
def aJ.Good.yx (k:Nat) (hk:k<=y.nb):∀n {s:ml},y.Good g0 top s->y.nb<=n+aG s.mv y.nb->¬(y.fr (y.push k n s).mv<k/\y.c.aE<=y.ah (y.push k n s).mv)
 |0,s,h,hn=>by rintro⟨q1,q2⟩;have q1':y.fr s.mv<k:=q1;obtain⟨f1,f2,f3⟩:=iy y s.mv;have e:=dK y (mv:=s.mv) (k:=y.fr s.mv) e9 (f3 e9);have:=bE (bj s.mv (y.fr s.mv)) y.nb;omega
 |n+1,s,h,hn=>by
  rw[aJ.push];split
  .next q=>
   have hf:=h.front e9;refine aJ.Good.yx k hk n hf.2.jh ?_;have e:=dK y (mv:=s.mv) (k:=y.fr s.mv) e9 ((iy y s.mv).2.2 e9);show y.nb<=n+aG (bj s.mv (y.fr s.mv)) y.nb;omega
  next q=>exact q
def aJ.lO (h:y.Ok) (hw:y.waits mv a):a-y.c.to<y.aq/\(a-y.c.to)/y.c.block<y.nb:=by
 have h1:a-y.c.to<y.aq:=by have e:y.aq=bB y.E y.d_:=rfl;have:=hw.2.1;have:=hw.1;omega
 exact⟨h1,h.OQ h1⟩
def aJ.Good.turn (h:y.Good g0 top s) (hk:k<y.nb) (hm:s.mv k=false) (he:¬(y.fr s.mv<k/\y.c.aE<=y.ah s.mv)):y.dc s.v k=0/\y.On g0 top s (y.move s k):=by
 obtain⟨f1,f2,f3⟩:=iy y s.mv;rcases ip (y.fr s.mv) k with q|q;refine h.on hk hm ?_;rw[dK y hk hm];have h1:=DZ y (mv:=bj s.mv k) (j:=y.fr s.mv) e9 λj hj=>cO.2 (.inr (f2 j hj));have h2:¬y.c.aE<=y.ah s.mv:=λr=>he ⟨q,r⟩;unfold aJ.ah at h2;omega;have e:y.fr s.mv=k:=by rcases ip k (y.fr s.mv) with r|r;have:=f2 k r;rw[hm] at this;cases this;omega
 have:=h.front e9;rw[e] at this;exact this
def aJ.Good.bO (h:y.Good g0 top s) (a:Nat):y.On g0 top s (y.bO s a)/\¬y.waits (y.bO s a).mv a:=by
 unfold aJ.bO;split
 .next hw=>
  obtain⟨h1,h2⟩:=aJ.lO h.ok hw;have hp:=h.push _ (ae5 h2) y.nb;have he:=h.yx _ (ae5 h2) y.nb e9;split
  .next hm=>
   refine⟨hp,λq=>?_⟩;have:=q.2.2;rw[hm] at this;cases this
  next hm=>
  have ky:(y.push ((a-y.c.to)/y.c.block) y.nb s).mv ((a-y.c.to)/y.c.block)=false:=(by simpa using hm);refine⟨hp.trans (hp.jh.turn h2 ky he).2,λq=>?_⟩;have:=q.2.2;have e:(y.move (y.push ((a-y.c.to)/y.c.block) y.nb s) ((a-y.c.to)/y.c.block)).mv ((a-y.c.to)/y.c.block)=true:=cO.2 (.inl rfl);rw[e] at this;cases this
 next hw=>exact⟨.refl h,hw⟩
def aJ.Good.EY (h:y.Good g0 top s) (ha:y.c.to<=a) (wX:a<y.c.aT) (hm:y.waits s.mv a\/s.v.mp (a/y.c_)=true):y.EZ s a=0/\y.EY s a=y.ba g0 s a:=by have ey:=h.ok.jn;unfold aJ.EZ aJ.EY aJ.ba;by_cases hw:y.waits s.mv a;rw[b9 hw,b9 hw,b9 hw];refine⟨rfl,?_⟩;obtain⟨h1,h2⟩:=aJ.lO h.ok hw;unfold aJ.jx;have hb:=fy y h1;rw[aJ.Fs,(h.ok.mD hb.1 ((h.mc.mp _ (h.ok.pg hb.1)).2 (.inl ⟨_,h1,hw.2.2,rfl⟩))).2,h.mc.old _ h1 hw.2.2];rfl;rw[b_ hw,b_ hw,b_ hw];exact h.ok.mD e9 (hm.resolve_left hw)
def aJ.Good.load (h:y.Good g0 top s) (ha:y.c.to<=a) (wX:a<y.c.aT) (hm:y.waits s.mv a\/s.v.mp (a/y.c_)=true):ga y.d_ y.c_ (y.bO s a).v a=0/\eU y.d_ y.c_ (y.bO s a).v a=y.ba g0 s a:=by obtain⟨h1,h2⟩:=h.bO a;have hs:=h1.ba a ha wX hm;have ey:=h.ok.jn;have hd:=h.ok.mD (v:=(y.bO s a).v) (a:=a) e9 (hs.2.resolve_left h2);refine⟨hd.1,hd.2.trans ?_⟩;rw[<-hs.1];unfold aJ.ba;rw[b_ h2]
def aJ.Good.store (h:y.Good g0 top s) (ha:y.c.to<=a) (wX:a<y.c.aT) (hw:¬y.waits s.mv a) (hm:s.v.mp (a/y.c_)=true) (x:Nat): y.Good g0 top ⟨du y.d_ y.c_ s.v a x,s.mv⟩/\(∀b,y.ba g0 ⟨du y.d_ y.c_ s.v a x,s.mv⟩ b=if b=a then x else y.ba g0 s b)/\(du y.d_ y.c_ s.v a x).mp=s.v.mp:=by
 have ey:=h.ok.jn;have e:du y.d_ y.c_ s.v a x=fB s.v a x:=by unfold du;rw[b9 (h.ok.mD (a:=a) e9 hm).1];rfl
 rw[e];refine⟨⟨h.ok,⟨h.mc.yK,h.mc.mp,λi hi q=>?_,h.mc.used,h.mc.out,h.mc.aM⟩,h.safe,h.ah⟩,λb=>?_,rfl⟩;show (if y.bw i=a then x else s.v.wd (y.bw i))=_;rw[b_ ?_];exact h.mc.old i hi q;intro e2;exact h.ok.apart i a hi ha wX (by rw[e2]);unfold aJ.ba;show (if y.waits s.mv b then _ else if b=a then x else s.v.wd b)=_;by_cases hb:b=a;subst hb;rw[b_ hw,b9 rfl,b9 rfl];rw[b_ hb,b_ hb]
end
section
attribute [local go_sem] Oper.semAt_some
section
variable {m d_ c_ e_ t rb:Nat}{v:VS}{Rm Rr:BL}{zs:List Nat}{St:Nat->Prop}{D:Nat->Prop}{w w':World}{c:eZ}
def ag.fresh {R0 R:BL} {w0 w:World} (h:ag R0 (R++R0) w0 w) (h0:Has R0 w0):ag [] R w0 w:=ag.new (h.quiet h0 h.has.right) h.at_.left λx hx=>(h.low x (io _ hx)).resolve_left λk=>h.at_.apart ⟨x,hx,rfl⟩ k
def cA {g:Nat->Nat} {rs:List Nat} {x:Nat}:aj g rs x≠0↔fF g rs x:=by
 unfold aj;split
 .next h=>exact⟨λ_=>h,λ_=>lJ _⟩
 next h=>exact⟨λq=>absurd rfl q,λq=>absurd q h⟩
def reached_s (h:aH m d_ c_ e_ t v Rm) (hr:dO rb zs Rr) (hw:Whole v.wd St (cR d_ c_ v) d_) (hz:∀a∈zs,a=0\/St a) (hfit:∀a,St a->c.cq<=a/\a+bC (v.wd a)<=c.top) (hst:1<=c.aL/\c.aL<=4096) (fZ:1<=d_/\d_<=1048576) (hR:At (Rm++Rr) w) (hT:ax w) (hg:aD (Rm++Rr)): WA 215 #[Wz m,Wz rb,.agg c.cells] w λe w'=>∃ob,e=.returned (.tuple #[Wz ob,Wy])/\∃Ro,dg ob d_ (aj v.wd zs) Ro/\ag [] Ro w w':=by
 have HW:=a_ (λW (hW:Has Rm W)=>iI h hW);have HX:=a_ (λW=>nF d_ W fZ.1 fZ.2);have D0:=a_ ((((ag.refl hR).box c.cells 126).box #[.pointer none] 215).box #[Wy] 28);have Ce:=a_ (HW _ D0.has.tail.tail.tail.left);obtain⟨H,Hr,Hw,Hz,Hf,HT,Hg,HR⟩:=xZ h hr hw hz hfit hT hg hR;clear h hr hw hz hfit hT hg hR;obtain⟨F,T,O,L,B,S,A⟩:=c;unfold eZ.cells at *;simp only at *;refine (u_ (n:=3)).1 ?_;refine callsIn_of_wp_marks func215 rfl trivial ?_ rfl;simp only[ntmps215,M_,r',O',Nat.reduceAdd,Nat.reduceSub,H_,Le,P',L',p',m_];refine af3.2 ?_;go_wp2_with (first|(go_at_call 157;refine Ce.kq ?_;rintro w1 rfl)|(go_at_call 156;refine (HX _).mono ?_;rintro e w2 ⟨ob,rfl,Ro,o2,d2⟩;have O2:=a_ o2;have D2:=a_ (D0.bh d2);clear o2 d2));have mX:=a_ (λW (hd:Has Rr W)=>ru (w:=W) Hr hd);have et:=a_ (λW K al cap Rw (row:Rz 3 1 zs.length (ez zs) al cap Rw) (hd:ag (Rm++Rr) ((Ro++(Rm++Rw))++K) w W)=>(show WA 158 #[(mK m).val,.slice al zs.length cap,Wz ob,S] W λe w'=>∃r v':Int,e=.returned (.tuple #[.agg #[(bQ (aj v.wd zs) d_:Nat),(bd (aj v.wd zs) d_:Nat),r,v'],Wy])/\∃ew,dg ob d_ (aj v.wd zs) ew/\ag Ro ew W w' from by have h2:=hd.bN;exact nW (nX H) Hw Hz row (by have:=Hr.2.1;omega) hst.1 hst.2 O2 h2.at_ (h2.tz HT Hg) (h2.cK HT Hg)));clear HX HW Ce D0;have zZ:(mK m).val=.iface 92 (.pointer (some ⟨m,0,none⟩)):=rfl;rw[zZ] at et;have D3:=a_ (D2.drew);have q:=D3.has.right.tail.tail.head;have c5:=an q 5 _ rfl;clear q;simp only[ww] at D3;refine ag3 ?_;refine aP (S:=λW=>W.cell? ⟨w.heap.size,5,none⟩=some (.int .i64 S)) ol c5 (λhHeld=>?_);generalize w2.drew=w3 at *;generalize w.heap.size=bc at *;refine aR 0 ?_;refine aR 1 ?_;refine aR 2 ?_;refine aR 4 ?_;refine aR 5 ?_;refine aR 6 ?_;simp only[aI];refine ke (i:=3) (j:=11) jp rfl rfl (λK hK=>?_) (λK hK=>?_);go_simp;refine (mX _ D3.has.right.tail.tail.tail.right).mono ?_;rintro e w4 ⟨al,cap,rfl,Rw,r4,d4⟩;have R4:=a_ r4;have D4:=a_ (D3.bh d4);clear r4 d4;refine hK _ _ (an D4.has.right.right.tail.tail.head 5 _ rfl) (λhHeld=>?_);clear hK K;try simp only[aI]
 refine ke (i:=7) (j:=11) jp rfl rfl (λK hK=>?_) (λK hK=>?_);go_simp;refine (et _ ((bc+1+1,.cells #[Wy] 28 (0,0))::(bc+1,.cells #[.pointer none] 215 (0,0))::(bc,.cells #[F,T,O,L,B,S,A] 126 (0,0))::Rr) al cap Rw R4 (D4.perm aF)).mono ?_;rintro e w5 ⟨rr,rv,rfl,ew,o5,d5⟩;have O5:=a_ o5;have D5:=a_ ((D4.perm (R':=Ro++(Rw++((bc+1+1,.cells #[Wy] 28 (0,0))::(bc+1,.cells #[.pointer none] 215 (0,0))::(bc,.cells #[F,T,O,L,B,S,A] 126 (0,0))::(Rm++Rr)))) aF).step d5);clear o5 d5;refine hK _ _ (an D5.has.right.right.tail.tail.head 5 _ rfl) (λhHeld=>?_);clear hK K;try simp only[aI]
 refine aR 8 ?_;refine aR 9 ?_;refine aR 10 ?_;simp only[aI];refine jS 11 (λK hK=>?_);go_simp;have D6:=a_ ((ag.drop (A:=Rw) (D5.perm (R':=Rw++(ew++((bc+1+1,.cells #[Wy] 28 (0,0))::(bc+1,.cells #[.pointer none] 215 (0,0))::(bc,.cells #[F,T,O,L,B,S,A] 126 (0,0))::(Rm++Rr)))) aF)).box #[Wy,Wy,Wy,Wy] 236);refine hK _ _ (an D6.has.tail.right.tail.tail.head 5 _ rfl) (λhHeld=>?_);clear hK K;try simp only[aI]
 generalize jJ:w5.heap.size=bx at *;generalize w5.alloc (.cells #[Wy,Wy,Wy,Wy] 236)=w6 at *;rotate_left;go_simp;have vp:=a_ (D4.box #[Wy,Wy,Wy,Wy] 236);refine hK _ _ (an vp.has.tail.right.right.tail.tail.head 5 _ rfl) (λhHeld=>?_);clear hK K;try simp only[aI]
 generalize jJ:w4.heap.size=bx at *;generalize w4.alloc (.cells #[Wy,Wy,Wy,Wy] 236)=w4a at *;rotate_left;go_simp;have tR:=a_ (D3.box #[Wy,Wy,Wy,Wy] 236);refine hK _ _ (an tR.has.tail.right.tail.tail.head 5 _ rfl) (λhHeld=>?_);clear hK K;try simp only[aI]
 generalize jJ:w3.heap.size=bx at *;generalize w3.alloc (.cells #[Wy,Wy,Wy,Wy] 236)=w3a at *;refine jS 3 (λK hK=>?_);go_simp;refine (mX _ tR.has.tail.right.tail.tail.tail.right).mono ?_;rintro e w4 ⟨al,cap,rfl,Rw,r4,d4⟩;have R4:=a_ r4;have vp:=a_ (tR.bh d4);clear r4 d4;refine hK _ _ (an vp.has.right.tail.right.tail.tail.head 5 _ rfl) (λhHeld=>?_);clear hK K;try simp only[aI]
 rotate_right;iterate 2
  refine jS 7 (λK hK=>?_);go_simp;refine (et _ ((bx,.cells #[Wy,Wy,Wy,Wy] 236 (0,0))::(bc+1+1,.cells #[Wy] 28 (0,0))::(bc+1,.cells #[.pointer none] 215 (0,0))::(bc,.cells #[F,T,O,L,B,S,A] 126 (0,0))::Rr) al cap Rw R4 (vp.perm aF)).mono ?_;rintro e w5 ⟨rr,rv,rfl,ew,o5,d5⟩;have O5:=a_ o5;have D5:=a_ ((vp.perm (R':=Ro++((bx,.cells #[Wy,Wy,Wy,Wy] 236 (0,0))::(Rw++((bc+1+1,.cells #[Wy] 28 (0,0))::(bc+1,.cells #[.pointer none] 215 (0,0))::(bc,.cells #[F,T,O,L,B,S,A] 126 (0,0))::(Rm++Rr))))) aF).step d5);clear o5 d5;refine hK _ _ (an D5.has.right.tail.right.tail.tail.head 5 _ rfl) (λhHeld=>?_);clear hK K;(try simp only[aI]);refine aR 8 ?_;refine aR 9 ?_;refine aR 10 ?_;simp only[aI];have D6:=a_ (ag.drop (A:=Rw) (D5.perm (R':=Rw++((bx,.cells #[Wy,Wy,Wy,Wy] 236 (0,0))::(ew++((bc+1+1,.cells #[Wy] 28 (0,0))::(bc+1,.cells #[.pointer none] 215 (0,0))::(bc,.cells #[F,T,O,L,B,S,A] 126 (0,0))::(Rm++Rr))))) aF));rotate_left
 all_goals
  have q:=D6.has.head;obtain⟨b0,b1,b2,b3,-⟩:=jD q;obtain⟨f0,f1,f2,f3,-⟩:=tU q;clear q;refine jS 12 (λK hK=>?_);go_simp;have D7:=a_ ((((D6.set 0 (bQ (aj v.wd zs) d_:Nat)).set 1 (bd (aj v.wd zs) d_:Nat)).set 2 rr).set 3 rv);clear b0 b1 b2 b3 f0 f1 f2 f3;refine hK _ _ (an D7.has.tail.right.tail.tail.head 5 _ rfl) (λhHeld=>?_);clear hK K;(try simp only[aI]);refine sD 13 (λK hK=>?_);go_simp;refine hK _ _ ?_;clear hK K;(try simp only[aI]);refine ai5 ?_;have D9:=a_ D7.tail;clear D7 D6;generalize World.setCell _ _ _=w7 at *;clear hHeld jJ R4 D5 D3 mX et D2;go_wp2_with (go_at_call 175;refine (all_mk _ _).kq ?_;rintro w8 rfl);have iJ:=a_ (D9.box #[Wz ob] 215);obtain⟨Bm,rZ⟩:=kw w7.heap.size;simp only[rZ] at iJ ⊢;generalize w7.alloc (.cells #[Wz ob] 215)=w8 at *;clear D9 rZ;refine (af3 (n:=3)).1 ?_;have gv:=eM (λ(pre:List (Nat×Nat)) (Rl:BL)=>Rl=[]) (Rm++Rr) w HT Hg;refine dC (gf:=254) (lb:= #[.pointer (some ⟨Bm,0,none⟩)]) rfl dS (fL (Bm:=Bm) (T:=215) O5) (λ_=>rfl) ((Bm,.cells #[Wz ob] 215 (0,0))::(ew++((bc+1+1,.cells #[Wy] 28 (0,0))::(bc+1,.cells #[.pointer none] 215 (0,0))::(bc,.cells #[F,T,O,L,B,S,A] 126 (0,0))::(Rm++Rr)))) (λx hx=>by rcases ii.1 hx with rfl|hx;exact fd ..;exact dl _ (io _ hx)) (λpre K W=>∃Rl:BL,Rl=[]/\ag (Rm++Rr) (Rl++K) w W) (λc pre K W=>False/\∃Rl:BL,Rl=[]/\ag (Rm++Rr) (Rl++K) w W) gv (λc=>gv.and _) ⟨[],rfl,iJ.out⟩ ?_ ?_ ?_ ?_ ?_;rotate_left
  .intro l x W K hK;simp only[gg,eK,q_,Fl,Pr];gi_wp2;exact hK
  .clear iJ;intro l' pre x post K' W gz hsub hi;obtain⟨e1,e2,e3⟩:=eC O5.ok gz;obtain⟨x,z0⟩:=x;simp only at e1 e2 e3;obtain⟨Rl,rfl,hD⟩:=hi;have hst:=fF.st Hw Hz (cA.1 e2);obtain⟨t1,t2⟩:=Hf x hst;rw[e1] at e3;have e4:aj v.wd zs x=bC (v.wd x):=b9 (cA.1 e2);have jJ:=hD.has.right.one (hsub (bc,.cells #[F,T,O,L,B,S,A] 126 (0,0)) qr);obtain⟨c0,c1,-⟩:=qN jJ;have x1:(x:Int)<=1048576:=e9;have x2:(z0:Int)<=1048576:=e9;have g1:decide ((x:Int)<F)=false:=dP;have g2:decide ((T:Int)<(x:Int)+z0)=false:=dP;have g3:decide (x<F)=false:=dP;have g4:decide (T<x+z0)=false:=dP;have g5:¬x<F:=e9;have g6:¬T<x+z0:=e9;have g7:F<=x:=e9;have g8:x+z0<=T:=e9;have s1:=eH ((x:Int)+z0);have HD:=a_ hD;clear hD jJ e1 e2 e3 e4 gz gv hst t1 t2 hsub;gi_wp2;exact⟨[],rfl,HD⟩
  .intro D W hi;obtain⟨Rl,rfl,hD⟩:=hi;simp only[p'] at hD;have q6:=hD.has.tail.tail.right.tail.head;have q7:=hD.has.tail.tail.right.head;have c6:=an q6 0 (.pointer none) rfl;have c7:=an q7 0 (.int .i64 0) rfl;have f6:=br q6 0;have f7:=br q7 0;have HD:=a_ hD;clear iJ hD q6 q7 gv;gi_wp2;go_wp2;have rA:=(HD.perm (R':=(bc+1,.cells #[.pointer none] 215 (0,0))::(D,.deferred (some []))::(Bm,.cells #[Wz ob] 215 (0,0))::(bc+1+1,.cells #[Wy] 28 (0,0))::(bc,.cells #[F,T,O,L,B,S,A] 126 (0,0))::(ew++(Rm++Rr))) aF).set 0 (Wz ob);simp only[q_,Fl] at rA;have ue:=(rA.perm (R':=(bc+1+1,.cells #[Wy] 28 (0,0))::(bc+1,.cells #[Wz ob] 215 (0,0))::(D,.deferred (some []))::(Bm,.cells #[Wz ob] 215 (0,0))::(bc,.cells #[F,T,O,L,B,S,A] 126 (0,0))::(ew++(Rm++Rr))) aF).set 0 Wy;simp only[q_,Fl] at ue;have tX:=ue.has.tail.tail.head;have qe:=(ue.perm (R':=(D,.deferred (some []))::(bc+1+1,.cells #[Wy] 28 (0,0))::(bc+1,.cells #[Wz ob] 215 (0,0))::(Bm,.cells #[Wz ob] 215 (0,0))::(bc,.cells #[F,T,O,L,B,S,A] 126 (0,0))::(ew++(Rm++Rr))) aF).putObj (.deferred none);have q0:=an qe.has.tail.head 0 (.int .i64 0) rfl;have q1:=an qe.has.tail.tail.head 0 (.pointer (some ⟨ob,0,none⟩)) rfl;have uf:=ag.fresh qe.tail.tail.tail.tail.tail HR.1;refine⟨qr,.inl ⟨_,_,rfl,run_takeDeferred tX,?_⟩⟩;refine⟨.tuple #[Wz ob,Wy],?_,?_⟩;simp[results,results215,go_sem,q0,q1];exact⟨_,rfl,_,O5,uf⟩
  rintro D c pre W hp ⟨hf,-⟩;exact hf.elim
end
end
end Go.Proofs.YtmdgfpeglgpiiaaGreatDoor
